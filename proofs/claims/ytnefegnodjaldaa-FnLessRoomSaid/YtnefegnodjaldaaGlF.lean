/- The best arrivals where there is room. -/
import Derived.Test.YtnefegnodjaldaaGlB
namespace Go.Sx
open Relax
set_option linter.unusedVariables false

namespace Fr
/-- the bookings, the closed trips and the weight -/
class Ctx where
  l : List Booking
  c : List Trip
  w : Int
variable [F : Ctx]
def nxtB (n : Network) (leg at0 : Int) (d : Nat) : Bool := freB n F.l F.c leg at0 F.w d
theorem nxtB_eq {n : Network} {leg at0 : Int} {d : Nat} : nxtB n leg at0 d = true ↔ runB n leg d = true ∧ at0 ≤ stT n ⟨leg, d⟩ ∧ (F.c.any fun x => decide (x = ⟨leg, (d : Int)⟩)) = false ∧ F.w ≤ w64 ((legA n leg).Room - ldW F.l ⟨leg, (d : Int)⟩) := by
  unfold nxtB freB
  simp only [Bool.and_eq_true, decide_eq_true_eq, Bool.not_eq_true']
  constructor
  · intro ⟨⟨⟨a, b⟩, c⟩, d⟩; exact ⟨a, b, c, d⟩
  · intro ⟨a, b, c, d⟩; exact ⟨⟨⟨a, b⟩, c⟩, d⟩
def arrN (n : Network) (st i : Nat) (x : Int) : Option Int :=
  if x ≤ 1000000 then (match (List.range 61).find? (nxtB n i (rdyN n st i x)) with | some d => some (enT n ⟨i, d⟩) | none => none) else none
theorem nxt_trip {n : Network} (hn : netB n = true) {leg at0 : Int} {d : Nat} (h : (List.range 61).find? (nxtB n leg at0) = some d) : tripB n ⟨leg, d⟩ = true ∧ at0 ≤ stT n ⟨leg, d⟩ := by
  have := nxtB_eq.1 (List.find?_some h)
  exact ⟨by simp [tripB, hn, this.1], this.2.1⟩
theorem spec_next_eq (n : Network) (h : NetS n) (hn : netB n = true) (hl : F.l.length ≤ 1048576) (hc : F.c.length ≤ 1048576) (leg at0 : Int) : spec_l6Next n F.l F.c leg at0 F.w = some (match (List.range 61).find? (nxtB n leg at0) with | some d => (d : Int) | none => -1) :=
  l6Next_eq n h hn F.l hl F.c hc leg at0 F.w
theorem impl_next_eq (n : Network) (h : NetS n) (hn : netB n = true) (hl : F.l.length ≤ 1048576) (hc : F.c.length ≤ 1048576) (leg at0 : Int) : impl_freeOf_c1 leg at0 n F.c F.l F.w = some (match (List.range 61).find? (nxtB n leg at0) with | some d => (⟨leg, d⟩, true) | none => (⟨0, 0⟩, false)) :=
  freeOf_eq n h hn F.l hl F.c hc leg at0 F.w
theorem arrN_in {n : Network} (hn : netB n = true) {st i : Nat} {x e : Int} (h0 : 0 ≤ x) (h : arrN n st i x = some e) : x < e ∧ e ≤ 95000 := by
  unfold arrN at h
  split at h
  · rename_i hx
    cases hf : (List.range 61).find? (nxtB n i (rdyN n st i x)) with
    | none => rw [hf] at h; cases h
    | some d =>
      rw [hf] at h
      injection h with h
      subst h
      obtain ⟨ht, hs⟩ := nxt_trip hn hf
      have hb := stT_in ht
      have hc := change_in hn
      have : x ≤ rdyN n st i x := by
        unfold rdyN
        split
        · exact Int.le_refl _
        · rw [w64_id (by omega) (by omega)]; omega
      omega
  · cases h
theorem relax_ok {n : Network} (hn : netB n = true) (st : Nat) : Relax.Ok (iB n) (arrN n st) (plcs n).length n.Legs.length :=
  ⟨fun i hi => (iB_spec hi).2, fun i x e hi h0 h => (arrN_in hn h0 h).1⟩
theorem spec_round (n : Network) (h : NetS n) (hn : netB n = true) (hFl : F.l.length ≤ 1048576) (hFc : F.c.length ≤ 1048576) (st : Nat) (old : List Int) (hl : old.length = (plcs n).length) (hb : ∀ v, g old v ≤ 1000000) :
    spec_l6Round n F.l F.c F.w (plcs n) old (st : Int) = some (rndI (iA n) (iB n) (arrN n st) old n.Legs.length).1 := by
  have hp := plcs_len n h
  have hL := h.legs
  unfold spec_l6Round spec_l1Ints
  rw [ap_eq (by simp; omega) (by omega)]
  have := loop_go (body := spec_l6Round_L1 n F.l F.c F.w (plcs n) old (st : Int)) n.Legs.length (fun i => ((rndI (iA n) (iB n) (arrN n st) old i).1, (i : Int))) (rndI (iA n) (iB n) (arrN n st) old n.Legs.length).1 (big_pos hL) (fun i hi => by
    have I := inv (A := iA n) (relax_ok hn st) old hl i (Nat.le_of_lt hi)
    show spec_l6Round_L1_b n F.l F.c F.w (plcs n) old (st : Int) (rndI (iA n) (iB n) (arrN n st) old i).1 (i : Int) = some (.next ((stp (iA n) (iB n) (arrN n st) old i (rndI (iA n) (iB n) (arrN n st) old i)).1, ((i + 1 : Nat) : Int)))
    generalize rndI (iA n) (iB n) (arrN n st) old i = s at I
    obtain ⟨a1, a2⟩ := iA_spec hi
    obtain ⟨b1, b2⟩ := iB_spec hi
    have ga : gi old (iA n i : Int) = some (g old (iA n i)) := gi_g (by omega)
    have gb : gi s.1 (iB n i : Int) = some (g s.1 (iB n i)) := gi_g (by rw [I.len]; exact b2)
    have hws := w64_succ (Nat.le_of_lt (Nat.lt_of_lt_of_le hi hL))
    unfold spec_l6Round_L1_b stp
    simp only [Int.ofNat_lt, hi, decide_true, cond_true, gi_nat hi, Option.bind_some, index_eq _ _ (show (plcs n).length ≤ 4000000 by omega), a1, b1, ga, gb, hws]
    by_cases h0 : g old (iA n i) < 0
    · simp [h0]
    · have hr : spec_l4Ready n (g old (iA n i)) ((iA n i : Int) == (st : Int)) = some (rdyN n st i (g old (iA n i))) := by
        unfold spec_l4Ready rdyN
        by_cases hs : iA n i = st
        · simp [hs]
        · have : ((iA n i : Int) == (st : Int)) = false := by simp; omega
          simp [this, hs]
      simp only [h0, decide_false, cond_false, if_false, hr, Option.bind_some, spec_next_eq n h hn hFl hFc, arrN, if_pos (hb (iA n i))]
      cases hf : (List.range 61).find? (nxtB n i (rdyN n st i (g old (iA n i)))) with
      | none => simp
      | some d =>
        obtain ⟨ht, _⟩ := nxt_trip hn hf
        simp only [show ¬ (d : Int) < 0 by omega, decide_false, cond_false, ends_eq ht, Option.bind_some, Int.toNat_natCast]
        by_cases h1 : g s.1 (iB n i) < 0
        · simp [h1]
        · by_cases h2 : enT n ⟨i, d⟩ < g s.1 (iB n i) <;> simp [h1, h2]) (by
    show spec_l6Round_L1_b n F.l F.c F.w (plcs n) old (st : Int) _ _ = _
    simp [spec_l6Round_L1_b])
  have : loopM (spec_l6Round_L1 n F.l F.c F.w (plcs n) old (st : Int)) big (old, 0) = some (.inl (rndI (iA n) (iB n) (arrN n st) old n.Legs.length).1) := this
  simp only [Option.bind_some, List.nil_append, this, spec_l6Round_L1_k, spec_l6Round_L1_a]
theorem impl_round (n : Network) (h : NetS n) (hn : netB n = true) (hFl : F.l.length ≤ 1048576) (hFc : F.c.length ≤ 1048576) (st : Nat) (old : List Int) (hl : old.length = (plcs n).length) (hb : ∀ v, g old v ≤ 1000000) :
    loopM (impl_arrivals_at1fn94_L3 n (n, F.c, F.l, F.w) (plcs n) (st : Int) old) big (old, false, 0) = some (.inl (rndI (iA n) (iB n) (arrN n st) old n.Legs.length)) := by
  have hp := plcs_len n h
  have hL := h.legs
  have := loop_go (body := impl_arrivals_at1fn94_L3 n (n, F.c, F.l, F.w) (plcs n) (st : Int) old) n.Legs.length (fun i => ((rndI (iA n) (iB n) (arrN n st) old i).1, (rndI (iA n) (iB n) (arrN n st) old i).2, (i : Int))) (rndI (iA n) (iB n) (arrN n st) old n.Legs.length) (big_pos hL) (fun i hi => by
    have I := inv (A := iA n) (relax_ok hn st) old hl i (Nat.le_of_lt hi)
    show impl_arrivals_at1fn94_L3_b n (n, F.c, F.l, F.w) (plcs n) (st : Int) old (rndI (iA n) (iB n) (arrN n st) old i).1 (rndI (iA n) (iB n) (arrN n st) old i).2 (i : Int) = some (.next ((stp (iA n) (iB n) (arrN n st) old i (rndI (iA n) (iB n) (arrN n st) old i)).1, (stp (iA n) (iB n) (arrN n st) old i (rndI (iA n) (iB n) (arrN n st) old i)).2, ((i + 1 : Nat) : Int)))
    generalize rndI (iA n) (iB n) (arrN n st) old i = s at I
    obtain ⟨a1, a2⟩ := iA_spec hi
    obtain ⟨b1, b2⟩ := iB_spec hi
    have ga : gi old (iA n i : Int) = some (g old (iA n i)) := gi_g (by omega)
    have gb : gi s.1 (iB n i : Int) = some (g s.1 (iB n i)) := gi_g (by rw [I.len]; exact b2)
    have hws := w64_succ (Nat.le_of_lt (Nat.lt_of_lt_of_le hi hL))
    unfold impl_arrivals_at1fn94_L3_b stp
    simp only [Int.ofNat_lt, hi, decide_true, cond_true, gi_nat hi, Option.bind_some, placeAt_eq _ _ (show (plcs n).length ≤ 4000000 by omega), a1, b1, ga, gb, hws]
    by_cases h0 : g old (iA n i) < 0
    · simp [h0]
    · have hr : impl_readyAt n (g old (iA n i)) ((iA n i : Int) == (st : Int)) = some (rdyN n st i (g old (iA n i))) := by
        unfold impl_readyAt rdyN
        by_cases hs : iA n i = st
        · simp [hs]
        · have : ((iA n i : Int) == (st : Int)) = false := by simp; omega
          simp [this, hs]
      simp only [h0, decide_false, cond_false, if_false, hr, Option.bind_some, impl_next_eq n h hn hFl hFc, arrN, if_pos (hb (iA n i)), impl_arrivals_at1fn94_j1, gb, hws]
      cases hf : (List.range 61).find? (nxtB n i (rdyN n st i (g old (iA n i)))) with
      | none => simp
      | some d =>
        obtain ⟨ht, _⟩ := nxt_trip hn hf
        simp only [cond_true, ends_eq' ht, Option.bind_some, Int.toNat_natCast]
        by_cases h1 : g s.1 (iB n i) < 0
        · simp [h1]
        · by_cases h2 : enT n ⟨i, d⟩ < g s.1 (iB n i) <;> simp [h1, h2]) (by
    show impl_arrivals_at1fn94_L3_b n (n, F.c, F.l, F.w) (plcs n) (st : Int) old _ _ _ = _
    simp [impl_arrivals_at1fn94_L3_b])
  exact this
theorem X_big {n : Network} (hn : netB n = true) {st : Nat} {x0 : List Int} (S : Relax.Start (plcs n).length x0 st) (hs : g x0 st ≤ 100000) : ∀ k v, g (X (iA n) (iB n) (arrN n st) n.Legs.length x0 k) v ≤ 1000000
  | 0, v => by
    by_cases hv : v = st
    · subst hv; show g x0 v ≤ _; omega
    · have := S.other v hv; show g x0 v ≤ _; omega
  | k + 1, v => by
    rcases (inv (A := iA n) (relax_ok hn st) _ (X_len (A := iA n) (relax_ok hn st) S k) n.Legs.length (Nat.le_refl _)).from_ v with e | ⟨_, _, j, hj, _, h3, h4⟩
    · have e : g (X (iA n) (iB n) (arrN n st) n.Legs.length x0 (k + 1)) v = g (X (iA n) (iB n) (arrN n st) n.Legs.length x0 k) v := e
      rw [e]; exact X_big hn S hs k v
    · have := (arrN_in hn h3 h4).2
      exact Int.le_trans this (by omega)
theorem spec_rounds (n : Network) (h : NetS n) (hn : netB n = true) (hFl : F.l.length ≤ 1048576) (hFc : F.c.length ≤ 1048576) {st : Nat} {x0 : List Int} (S : Relax.Start (plcs n).length x0 st) (hs : g x0 st ≤ 100000) (legs : Int) (hg : 0 ≤ legs) :
    loopM (spec_BestFree_L1 n F.l F.c F.w legs (plcs n) (st : Int)) big (x0, 0) = some (.inl (X (iA n) (iB n) (arrN n st) n.Legs.length x0 legs.toNat)) := by
  have H := relax_ok hn st
  have hp := plcs_len n h
  have hm : 0 < (plcs n).length := Nat.lt_of_le_of_lt (Nat.zero_le _) S.lt
  have hall : ∀ k, (plcs n).length ≤ k + 1 → X (iA n) (iB n) (arrN n st) n.Legs.length x0 k = X (iA n) (iB n) (arrN n st) n.Legs.length x0 ((plcs n).length - 1) := fun k hk => by
    have h1 := still (A := iA n) H S (k := (plcs n).length - 1) (by omega)
    have := still_on H S h1 (k - ((plcs n).length - 1))
    rw [show (plcs n).length - 1 + (k - ((plcs n).length - 1)) = k by omega] at this
    exact this
  have := loop_go (body := spec_BestFree_L1 n F.l F.c F.w legs (plcs n) (st : Int)) (min legs.toNat (plcs n).length) (fun i => (X (iA n) (iB n) (arrN n st) n.Legs.length x0 i, (i : Int))) (X (iA n) (iB n) (arrN n st) n.Legs.length x0 legs.toNat) (show min legs.toNat (plcs n).length < 1000000000000 by omega) (fun i hi => by
    show spec_BestFree_L1_b n F.l F.c F.w legs (plcs n) (st : Int) _ _ = _
    unfold spec_BestFree_L1_b
    have h1 : (i : Int) < legs := by omega
    have h2 : (i : Int) < ((plcs n).length : Int) := by omega
    simp only [h1, h2, decide_true, cond_true, spec_round n h hn hFl hFc st _ (X_len (A := iA n) H S i) (X_big hn S hs i), Option.bind_some]
    rw [show w64 ((i : Int) + 1) = ((i + 1 : Nat) : Int) by rw [w64_id (by omega) (by omega)]; omega]
    rfl) (by
    show spec_BestFree_L1_b n F.l F.c F.w legs (plcs n) (st : Int) _ _ = _
    unfold spec_BestFree_L1_b
    by_cases hc : legs.toNat ≤ (plcs n).length
    · have h1 : ¬ ((min legs.toNat (plcs n).length : Nat) : Int) < legs := by omega
      rw [show min legs.toNat (plcs n).length = legs.toNat by omega] at h1 ⊢
      simp only [h1, decide_false, cond_false]
    · have h1 : ¬ ((min legs.toNat (plcs n).length : Nat) : Int) < ((plcs n).length : Int) := by omega
      have e : X (iA n) (iB n) (arrN n st) n.Legs.length x0 legs.toNat = X (iA n) (iB n) (arrN n st) n.Legs.length x0 (min legs.toNat (plcs n).length) := by rw [hall _ (by omega), hall (min legs.toNat (plcs n).length) (by omega)]
      rw [e]
      simp only [h1, decide_false, cond_false]
      cases decide (((min legs.toNat (plcs n).length : Nat) : Int) < legs) <;> rfl)
  exact this
theorem impl_rounds (n : Network) (h : NetS n) (hn : netB n = true) (hFl : F.l.length ≤ 1048576) (hFc : F.c.length ≤ 1048576) {st : Nat} {x0 : List Int} (S : Relax.Start (plcs n).length x0 st) (hs : g x0 st ≤ 100000) (legs : Int) (hg : 0 ≤ legs) :
    loopM (impl_arrivals_at1fn94_L2 n (n, F.c, F.l, F.w) legs (plcs n) (st : Int)) big (x0, 0) = some (.inl (X (iA n) (iB n) (arrN n st) n.Legs.length x0 legs.toNat)) := by
  have H := relax_ok hn st
  have hp := plcs_len n h
  have step : ∀ k : Nat, ((k : Int) < legs) → impl_arrivals_at1fn94_L2 n (n, F.c, F.l, F.w) legs (plcs n) (st : Int) (X (iA n) (iB n) (arrN n st) n.Legs.length x0 k, (k : Int)) = bif (rndI (iA n) (iB n) (arrN n st) (X (iA n) (iB n) (arrN n st) n.Legs.length x0 k) n.Legs.length).2 then some (.next (X (iA n) (iB n) (arrN n st) n.Legs.length x0 (k + 1), w64 ((k : Int) + 1))) else some (.brk (X (iA n) (iB n) (arrN n st) n.Legs.length x0 (k + 1))) := fun k hk => by
    show impl_arrivals_at1fn94_L2_b n (n, F.c, F.l, F.w) legs (plcs n) (st : Int) _ _ = _
    unfold impl_arrivals_at1fn94_L2_b
    have hlen := X_len (A := iA n) H S k
    simp only [hk, decide_true, cond_true]
    rw [ap_eq (by simp; omega) (by omega)]
    simp only [Option.bind_some, List.nil_append]
    rw [impl_round n h hn hFl hFc st _ hlen (X_big hn S hs k)]
    simp only [Option.bind_some, impl_arrivals_at1fn94_L3_k, impl_arrivals_at1fn94_L3_a]
    cases (rndI (iA n) (iB n) (arrN n st) (X (iA n) (iB n) (arrN n st) n.Legs.length x0 k) n.Legs.length).2 <;> rfl
  have done : ∀ k : Nat, k ≤ legs.toNat → X (iA n) (iB n) (arrN n st) n.Legs.length x0 (k + 1) = X (iA n) (iB n) (arrN n st) n.Legs.length x0 k → X (iA n) (iB n) (arrN n st) n.Legs.length x0 (k + 1) = X (iA n) (iB n) (arrN n st) n.Legs.length x0 legs.toNat := fun k hk e => by
    have := still_on H S e (legs.toNat - k)
    rw [show k + (legs.toNat - k) = legs.toNat by omega] at this
    rw [this]; exact e
  have stop : ∀ k : Nat, k ≤ legs.toNat → ¬ (k : Int) < legs → impl_arrivals_at1fn94_L2 n (n, F.c, F.l, F.w) legs (plcs n) (st : Int) (X (iA n) (iB n) (arrN n st) n.Legs.length x0 k, (k : Int)) = some (.brk (X (iA n) (iB n) (arrN n st) n.Legs.length x0 legs.toNat)) := fun k hk hn' => by
    show impl_arrivals_at1fn94_L2_b n (n, F.c, F.l, F.w) legs (plcs n) (st : Int) _ _ = _
    unfold impl_arrivals_at1fn94_L2_b
    have : k = legs.toNat := by omega
    subst this
    simp only [hn', decide_false, cond_false]
  obtain ⟨x, h1, h2⟩ := loopM_up (body := impl_arrivals_at1fn94_L2 n (n, F.c, F.l, F.w) legs (plcs n) (st : Int)) (plcs n).length (fun k s => s = (X (iA n) (iB n) (arrN n st) n.Legs.length x0 k, (k : Int)) ∧ k ≤ legs.toNat) (fun x => x = .inl (X (iA n) (iB n) (arrN n st) n.Legs.length x0 legs.toNat)) (fun k s hk hs' => by
    obtain ⟨rfl, hle⟩ := hs'
    by_cases hlt : (k : Int) < legs
    · rw [step k hlt]
      cases hf : (rndI (iA n) (iB n) (arrN n st) (X (iA n) (iB n) (arrN n st) n.Legs.length x0 k) n.Legs.length).2 with
      | true => exact .inl ⟨_, rfl, by rw [show w64 ((k : Int) + 1) = ((k + 1 : Nat) : Int) by rw [w64_id (by omega) (by omega)]; omega], by omega⟩
      | false =>
        have e := (inv (A := iA n) H _ (X_len (A := iA n) H S k) n.Legs.length (Nat.le_refl _)).no hf
        exact .inr (.inl ⟨_, rfl, by rw [done k hle e]⟩)
    · exact .inr (.inl ⟨_, stop k hle hlt, rfl⟩)) (fun s hs' => by
    obtain ⟨rfl, hle⟩ := hs'
    by_cases hlt : ((plcs n).length : Int) < legs
    · rw [step _ hlt]
      have e := still (A := iA n) H S (k := (plcs n).length) (by omega)
      cases hf : (rndI (iA n) (iB n) (arrN n st) (X (iA n) (iB n) (arrN n st) n.Legs.length x0 (plcs n).length) n.Legs.length).2 with
      | true =>
        obtain ⟨v, _, hv⟩ := (inv (A := iA n) H _ (X_len (A := iA n) H S (plcs n).length) n.Legs.length (Nat.le_refl _)).yes hf
        have e' : (rndI (iA n) (iB n) (arrN n st) (X (iA n) (iB n) (arrN n st) n.Legs.length x0 (plcs n).length) n.Legs.length).1 = X (iA n) (iB n) (arrN n st) n.Legs.length x0 (plcs n).length := e
        exact absurd (by rw [e']) hv
      | false => exact .inl ⟨_, rfl, by rw [done _ hle e]⟩
    · exact .inl ⟨_, stop _ hle hlt, rfl⟩) (x0, 0) ⟨rfl, Nat.zero_le _⟩ (show (plcs n).length < 1000000000000 by omega)
  rw [h1, h2]
def bestV (n : Network) (a : ByteArray) (at0 legs : Int) : List Int :=
  if ¬ idxV (plcs n) a < 0 ∧ ¬ at0 > 100000 ∧ ¬ legs < 0 then X (iA n) (iB n) (arrN n (idxV (plcs n) a).toNat) n.Legs.length (x0N n (idxV (plcs n) a).toNat at0) legs.toNat else []
theorem arrivals_eq (n : Network) (h : NetS n) (hn : netB n = true) (hFl : F.l.length ≤ 1048576) (hFc : F.c.length ≤ 1048576) (a : ByteArray) (at0 legs : Int) : impl_arrivals_at1fn94 n (n, F.c, F.l, F.w) a at0 legs = some (bestV n a at0 legs) := by
  have hp := plcs_len n h
  unfold impl_arrivals_at1fn94 bestV
  rw [impl_PlacesOf_eq n h]
  simp only [Option.bind_some, placeAt_eq _ _ (show (plcs n).length ≤ 4000000 by omega)]
  by_cases h1 : idxV (plcs n) a < 0
  · simp [h1]
  by_cases h2 : at0 > 100000
  · simp [h1, h2]
  by_cases h3 : legs < 0
  · simp [h1, h2, h3]
  obtain ⟨st, e, hst⟩ := idx_lt h1
  obtain ⟨S, hs⟩ := x0_start hst h2
  simp only [h1, h2, h3, cond_false, decide_false, not_false_eq_true, and_self, if_true]
  rw [fill_eq n h, e]
  have hg : gi (List.replicate (plcs n).length (-1 : Int)) (st : Int) = some (-1) := by rw [gi_nat (by simpa using hst)]; simp
  have hr := impl_rounds n h hn hFl hFc S hs legs (by omega)
  simp only [Option.bind_some, impl_arrivals_at1fn94_L1_k, impl_arrivals_at1fn94_L1_a, hg, Int.toNat_natCast]
  rw [show (List.replicate (plcs n).length (-1 : Int)).set st (if 0 > at0 then 0 else at0) = x0N n st at0 from rfl, hr]
  simp only [Option.bind_some, impl_arrivals_at1fn94_L2_k, impl_arrivals_at1fn94_L2_a]
theorem best_spec (n : Network) (h : NetS n) (hbk : bokB n F.l = true) (hw : ¬ F.w < 1) (hFl : F.l.length ≤ 1048576) (hFc : F.c.length ≤ 1048576) (a : ByteArray) (at0 legs : Int) : spec_BestFree n F.l F.c a at0 F.w legs = some (bestV n a at0 legs) := by
  have hp := plcs_len n h
  have hn := bok_net hbk
  unfold spec_BestFree bestV
  rw [spec_PlacesOf_eq n h, spec_AreBookings_eq n h F.l hFl, hbk]
  simp only [Option.bind_some, index_eq _ _ (show (plcs n).length ≤ 4000000 by omega), Bool.not_true, cond_false]
  by_cases h1 : idxV (plcs n) a < 0
  · simp [h1]
  by_cases h2 : at0 > 100000
  · simp [h1, h2]
  by_cases h3 : legs < 0
  · simp [h1, h2, h3, hw]
  obtain ⟨st, e, hst⟩ := idx_lt h1
  obtain ⟨S, hs⟩ := x0_start hst h2
  simp only [h1, h2, h3, hw, cond_false, decide_false, not_false_eq_true, and_self, if_true]
  have hst0 : decide ((st : Int) < 0) = false := by simp
  rw [e]
  simp only [hst0, cond_false, first_eq0 n h st hst, Option.bind_some, spec_rounds n h hn hFl hFc S hs legs (by omega), spec_BestFree_L1_k, spec_BestFree_L1_a, Int.toNat_natCast]
theorem nxt_mono {n : Network} {leg r r' : Int} {d : Nat} (hr : r' ≤ r) (h : (List.range 61).find? (nxtB n leg r) = some d) : ∃ d', (List.range 61).find? (nxtB n leg r') = some d' ∧ d' ≤ d := by
  obtain ⟨h1, h2, h3⟩ := List.find?_range_eq_some.1 h
  have h1' : nxtB n leg r' d = true := by
    have h1 := nxtB_eq.1 h1
    exact nxtB_eq.2 ⟨h1.1, by omega, h1.2.2⟩
  cases hf : (List.range 61).find? (nxtB n leg r') with
  | none => exact absurd h1' (by simpa using List.find?_eq_none.1 hf d h2)
  | some d' =>
    refine ⟨d', rfl, ?_⟩
    obtain ⟨g1, g2, g3⟩ := List.find?_range_eq_some.1 hf
    by_cases hh : d < d'
    · have := g3 d hh
      rw [h1'] at this; cases this
    · omega
/-- an arrival along one leg, said without the search -/
theorem arr_some {n : Network} {st i : Nat} {x e : Int} (h : arrN n st i x = some e) : x ≤ 1000000 ∧ ∃ d, (List.range 61).find? (nxtB n i (rdyN n st i x)) = some d ∧ e = enT n ⟨i, d⟩ := by
  unfold arrN at h
  split at h
  · rename_i hx
    refine ⟨hx, ?_⟩
    cases hf : (List.range 61).find? (nxtB n i (rdyN n st i x)) with
    | none => rw [hf] at h; cases h
    | some d => rw [hf] at h; injection h with h; exact ⟨d, rfl, h.symm⟩
  · cases h
/-- WHO IS READY EARLIER ARRIVES NO LATER -/
theorem arr_mono {n : Network} (hn : netB n = true) {st st' i : Nat} {x x' e : Int} (h0 : 0 ≤ x') (hx : x' ≤ 1000000) (hr : rdyN n st' i x' ≤ rdyN n st i x) (h : arrN n st i x = some e) : ∃ e', arrN n st' i x' = some e' ∧ e' ≤ e := by
  obtain ⟨_, d, hd, rfl⟩ := arr_some h
  obtain ⟨d', h1, h2⟩ := nxt_mono hr hd
  refine ⟨enT n ⟨i, d'⟩, ?_, (enT_mono n i h2).1⟩
  unfold arrN
  rw [if_pos hx, h1]
/-- the rounds from a place at a time -/
abbrev XN (n : Network) (st : Nat) (at0 : Int) (k : Nat) : List Int := X (iA n) (iB n) (arrN n st) n.Legs.length (x0N n st at0) k
/-- the end of the rounds -/
abbrev DN (n : Network) (st : Nat) (at0 : Int) (v : Nat) : Int := g (XN n st at0 (plcs n).length) v
section
variable {n : Network} (hn : netB n = true) {st : Nat} (hst : st < (plcs n).length) {at0 : Int} (ha : ¬ at0 > 100000)
include hn hst ha
theorem XN_big (k v : Nat) : g (XN n st at0 k) v ≤ 1000000 := X_big hn (x0_start hst ha).1 (x0_start hst ha).2 k v
theorem XN_st (k : Nat) : g (XN n st at0 k) st = v0N at0 := by
  have := Relax.X_start (A := iA n) (relax_ok hn st) (x0_start hst ha).1 k
  rw [this, g_x0 hst, if_pos rfl]
theorem XN_low (k v : Nat) (h : 0 ≤ g (XN n st at0 k) v) : v0N at0 ≤ g (XN n st at0 k) v := by
  have := Relax.X_low (A := iA n) (relax_ok hn st) (x0_start hst ha).1 k v h
  rw [g_x0 hst, if_pos rfl] at this
  exact this
theorem XN_more (k j v : Nat) (h : 0 ≤ g (XN n st at0 k) v) : 0 ≤ g (XN n st at0 (k + j)) v ∧ g (XN n st at0 (k + j)) v ≤ g (XN n st at0 k) v :=
  Relax.X_mono (A := iA n) (relax_ok hn st) (x0_start hst ha).1 k v h j
theorem XN_neg (k v : Nat) : g (XN n st at0 k) v = -1 ∨ 0 ≤ g (XN n st at0 k) v := by
  induction k with
  | zero =>
    have h0 := g_x0 (at0 := at0) hst v
    show g (x0N n st at0) v = -1 ∨ 0 ≤ g (x0N n st at0) v
    rw [h0]
    split
    · refine .inr ?_; unfold v0N; split <;> omega
    · exact .inl rfl
  | succ k ih =>
    rcases (Relax.inv (A := iA n) (relax_ok hn st) _ (Relax.X_len (A := iA n) (relax_ok hn st) (x0_start hst ha).1 k) n.Legs.length (Nat.le_refl _)).from_ v with e | ⟨e1, _⟩
    · have e : g (XN n st at0 (k + 1)) v = g (XN n st at0 k) v := e
      rw [e]
      exact ih
    · exact .inr e1
theorem XN_step {k i : Nat} {e : Int} (hi : i < n.Legs.length) (h0 : 0 ≤ g (XN n st at0 k) (iA n i)) (he : arrN n st i (g (XN n st at0 k) (iA n i)) = some e) :
    0 ≤ g (XN n st at0 (k + 1)) (iB n i) ∧ g (XN n st at0 (k + 1)) (iB n i) ≤ e := Relax.X_step (relax_ok hn st) (x0_start hst ha).1 hi h0 he
theorem DN_closed {i : Nat} {e : Int} (hi : i < n.Legs.length) (h0 : 0 ≤ DN n st at0 (iA n i)) (he : arrN n st i (DN n st at0 (iA n i)) = some e) :
    0 ≤ DN n st at0 (iB n i) ∧ DN n st at0 (iB n i) ≤ e := Relax.X_closed (relax_ok hn st) (x0_start hst ha).1 (Nat.le_succ _) hi h0 he
theorem XN_end {k : Nat} (hk : (plcs n).length ≤ k) : XN n st at0 k = XN n st at0 (plcs n).length := Relax.X_end (A := iA n) (relax_ok hn st) (x0_start hst ha).1 hk
theorem XN_ind (P : Nat → Nat → Int → Prop) (h0 : P 0 st (v0N at0)) (hk : ∀ k v u, P k v u → P (k + 1) v u)
    (hs : ∀ k i u e, i < n.Legs.length → 0 ≤ u → P k (iA n i) u → arrN n st i u = some e → P (k + 1) (iB n i) e) : ∀ k v, 0 ≤ g (XN n st at0 k) v → P k v (g (XN n st at0 k) v) :=
  Relax.X_ind (relax_ok hn st) (x0_start hst ha).1 P (by rw [g_x0 hst, if_pos rfl]; exact h0) hk hs
end
theorem XN_len {n : Network} (hn : netB n = true) {st : Nat} (hst : st < (plcs n).length) {at0 : Int} (ha : ¬ at0 > 100000) (k : Nat) : (XN n st at0 k).length = (plcs n).length := Relax.X_len (A := iA n) (relax_ok hn st) (x0_start hst ha).1 k
theorem best_at {n : Network} {at0 : Int} {a : ByteArray} {st : Nat} (hf : Fine n a at0) (hai : idxV (plcs n) a = (st : Int)) (k : Nat) : bestV n a at0 (k : Int) = XN n st at0 k := by
  unfold bestV
  rw [if_pos ⟨hf.2.1, hf.2.2, by omega⟩, hai, Int.toNat_natCast, Int.toNat_natCast]
/-- leg i ends at place x at the time due, taken from the arrivals bf -/
def stpB (n : Network) (st : Nat) (bf : List Int) (x : Nat) (due : Int) (i : Nat) : Bool :=
  decide (iB n i = x) && !decide (g bf (iA n i) < 0) && (arrN n st i (g bf (iA n i)) == some due)
/-- the first such leg -/
def stpI (n : Network) (st : Nat) (bf : List Int) (x : Nat) (due : Int) : Option Nat := (List.range n.Legs.length).find? (stpB n st bf x due)
/-- the day on which leg i starts next from a time on -/
def dayN (n : Network) (i : Nat) (r : Int) : Int := match (List.range 61).find? (nxtB n i r) with | some d => (d : Int) | none => -1
def stpT (n : Network) (st : Nat) (bf : List Int) (i : Nat) : Trip := ⟨(i : Int), dayN n i (rdyN n st i (g bf (iA n i)))⟩
/-- the way to x with k legs, that arrives at the time due -/
def bckW (n : Network) (st : Nat) (at0 : Int) : Nat → Nat → Int → List Trip
  | 0, _, _ => []
  | k + 1, x, due => match stpI n st (XN n st at0 k) x due with
    | some i => bckW n st at0 k (iA n i) (g (XN n st at0 k) (iA n i)) ++ [stpT n st (XN n st at0 k) i]
    | none => []
/-- at place x the arrivals turn for the last time in round k -/
structure Tight (n : Network) (st : Nat) (at0 : Int) (k x : Nat) (due : Int) : Prop where
  pos : 0 ≤ due
  now : g (XN n st at0 k) x = due
  old : ∀ j, k = j + 1 → g (XN n st at0 j) x ≠ due
section
variable {n : Network} (hn : netB n = true) {st : Nat} (hst : st < (plcs n).length) {at0 : Int} (ha : ¬ at0 > 100000)
include hn hst ha
theorem tight_step {k x : Nat} {due : Int} (T : Tight n st at0 (k + 1) x due) : ∃ i, stpI n st (XN n st at0 k) x due = some i ∧ i < n.Legs.length ∧ iB n i = x ∧ 0 ≤ g (XN n st at0 k) (iA n i) ∧ arrN n st i (g (XN n st at0 k) (iA n i)) = some due ∧
    Tight n st at0 k (iA n i) (g (XN n st at0 k) (iA n i)) := by
  have hne := T.old k rfl
  have I := Relax.inv (A := iA n) (relax_ok hn st) _ (XN_len hn hst ha k) n.Legs.length (Nat.le_refl _)
  have hnow : g (XN n st at0 (k + 1)) x = due := T.now
  rcases I.from_ x with e | ⟨_, _, j, hj, hB, h0, he⟩
  · have e : g (XN n st at0 (k + 1)) x = g (XN n st at0 k) x := e
    exact absurd (e.symm.trans hnow) hne
  · have he : arrN n st j (g (XN n st at0 k) (iA n j)) = some (g (XN n st at0 (k + 1)) x) := he
    rw [hnow] at he
    have hjb : stpB n st (XN n st at0 k) x due j = true := by
      unfold stpB
      have h0' : ¬ g (XN n st at0 k) (iA n j) < 0 := by omega
      simp [hB, h0', he]
    cases hf : stpI n st (XN n st at0 k) x due with
    | none => exact absurd hjb (by simpa using List.find?_eq_none.1 hf j (by simpa using hj))
    | some i =>
      have hp := List.find?_some hf
      have hm := List.mem_of_find?_eq_some hf
      simp only [stpB, Bool.and_eq_true, decide_eq_true_eq, Bool.not_eq_true', decide_eq_false_iff_not] at hp
      obtain ⟨⟨p1, p2⟩, p3⟩ := hp
      have p3 : arrN n st i (g (XN n st at0 k) (iA n i)) = some due := by simpa using p3
      have hi : i < n.Legs.length := by simpa using hm
      refine ⟨i, rfl, hi, p1, by omega, p3, ⟨by omega, rfl, fun j' hj' => ?_⟩⟩
      subst hj'
      intro heq
      rw [← heq] at p3
      have h3 : 0 ≤ g (XN n st at0 j') (iA n i) := by omega
      have h1 := XN_step hn hst ha hi h3 p3
      have h2 := XN_more hn hst ha (j' + 1) 1 x (by rw [← p1]; exact h1.1)
      rw [p1] at h1
      have hnow : g (XN n st at0 (j' + 1 + 1)) x = due := hnow
      exact hne (by omega)
theorem tight_zero {x : Nat} {due : Int} (T : Tight n st at0 0 x due) : x = st ∧ due = v0N at0 := by
  have _ := hn
  have _ := ha
  have h := T.now
  have hp := T.pos
  have h0 := g_x0 (at0 := at0) hst x
  have h : g (x0N n st at0) x = due := h
  by_cases hx : x = st
  · rw [if_pos hx] at h0; exact ⟨hx, by omega⟩
  · rw [if_neg hx] at h0; omega
end
section
variable {n : Network} (hn : netB n = true) {st : Nat} (hst : st < (plcs n).length) {at0 : Int} (ha : ¬ at0 > 100000)
include hn hst ha
theorem tight_trip {i : Nat} {bf : List Int} {due : Int} (hi : i < n.Legs.length) (he : arrN n st i (g bf (iA n i)) = some due) : tripB n (stpT n st bf i) = true ∧ rdyN n st i (g bf (iA n i)) ≤ stT n (stpT n st bf i) ∧ enT n (stpT n st bf i) = due ∧ (stpT n st bf i).Leg = (i : Int) := by
  have _ := hst
  have _ := ha
  obtain ⟨_, d, hd, rfl⟩ := arr_some he
  obtain ⟨h1, h2⟩ := nxt_trip hn hd
  have e : stpT n st bf i = ⟨(i : Int), (d : Int)⟩ := by unfold stpT dayN; rw [hd]
  rw [e]
  exact ⟨h1, h2, rfl, rfl⟩
theorem bck_len : ∀ (k x : Nat) (due : Int), Tight n st at0 k x due → (bckW n st at0 k x due).length = k
  | 0, x, due, T => rfl
  | k + 1, x, due, T => by
    obtain ⟨i, h1, _, _, _, _, h6⟩ := tight_step hn hst ha T
    unfold bckW
    rw [h1]
    simp only [List.length_append, List.length_singleton]
    rw [bck_len k _ _ h6]
theorem bck_walk {p0 : ByteArray} (hp0 : idxV (plcs n) p0 = (st : Int)) {t0 : Int} (ht0 : t0 ≤ v0N at0) : ∀ (k x : Nat) (due : Int), x < (plcs n).length → Tight n st at0 k x due →
    ∃ p, (plcs n)[x]? = some p ∧ each (X := ByteArray × Int) (R := Bool) (fun _ t s => wayF n t s) 0 (bckW n st at0 k x due) (p0, t0) = .inl (p, if k = 0 then t0 else due + n.Change)
  | 0, x, due, hx, T => by
    obtain ⟨rfl, _⟩ := tight_zero hn hst ha T
    exact ⟨p0, idx_get hp0, rfl⟩
  | k + 1, x, due, hx, T => by
    obtain ⟨i, h1, h2, h3, h4, h5, h6⟩ := tight_step hn hst ha T
    obtain ⟨p, hp, hw⟩ := bck_walk hp0 ht0 k (iA n i) _ (iA_spec h2).2 h6
    have hA := iA_get h2
    rw [hA] at hp
    have hp := Option.some.inj hp
    subst hp
    obtain ⟨q1, q2, q3, q4⟩ := tight_trip hn hst ha h2 h5
    have hbg := XN_big hn hst ha k (iA n i)
    have hc := change_in hn
    have hB := idx_get (iB_spec h2).1
    rw [h3] at hB
    refine ⟨n.Legs[i].To, hB, ?_⟩
    unfold bckW
    rw [h1]
    simp only
    rw [each_snoc _ _ _ _ _ _ hw, wayF_ok q1 (by rw [q4, legA_get h2]) ?_, q4, legA_get h2, q3, if_neg (Nat.succ_ne_zero k)]
    rw [rdy_eq hn h4 hbg] at q2
    show (if k = 0 then t0 else g (XN n st at0 k) (iA n i) + n.Change) ≤ _
    by_cases hk : k = 0
    · rw [if_pos hk]
      subst hk
      obtain ⟨e1, e2⟩ := tight_zero hn hst ha h6
      rw [if_pos e1] at q2
      omega
    · rw [if_neg hk]
      have hne : ¬ iA n i = st := fun e => by
        obtain ⟨j, rfl⟩ : ∃ j, k = j + 1 := ⟨k - 1, by omega⟩
        have := h6.old j rfl
        rw [e] at this
        exact this (by rw [XN_st hn hst ha, XN_st hn hst ha])
      rw [if_neg hne] at q2
      exact q2
/-- the arrivals turn for the last time in the first round that has the last value -/
theorem tight_first {x k : Nat} (hpos : 0 ≤ DN n st at0 x) (hk : g (XN n st at0 k) x = DN n st at0 x) (hmin : ∀ j, j < k → g (XN n st at0 j) x ≠ DN n st at0 x) : Tight n st at0 k x (DN n st at0 x) := by
  have _ := hn
  have _ := hst
  have _ := ha
  exact ⟨hpos, hk, fun j hj => hmin j (by omega)⟩
end
theorem stpB_eq {n : Network} {st : Nat} {bf : List Int} {x : Nat} {due : Int} {i : Nat} (hb : g bf (iA n i) ≤ 1000000) :
    stpB n st bf x due i = (decide (iB n i = x) && !decide (g bf (iA n i) < 0) && (match (List.range 61).find? (nxtB n i (rdyN n st i (g bf (iA n i)))) with | some d => decide (enT n ⟨(i : Int), (d : Int)⟩ = due) | none => false)) := by
  unfold stpB arrN
  rw [if_pos hb]
  cases (List.range 61).find? (nxtB n i (rdyN n st i (g bf (iA n i)))) with
  | none => rfl
  | some d =>
    congr 1
section
variable {n : Network} (h : NetS n) (hn : netB n = true) (hFl : F.l.length ≤ 1048576) (hFc : F.c.length ≤ 1048576) {st : Nat} {bf : List Int} (hl : bf.length = (plcs n).length) (hb : ∀ v, g bf v ≤ 1000000) {x : Nat} (hx : x < (plcs n).length) (due : Int)
include h hn hFl hFc hl hb hx
theorem implStep_eq {p0 : ByteArray} (hp0 : idxV (plcs n) p0 = (st : Int)) : impl_lastLeg_at1fn94 n (n, F.c, F.l, F.w) (plcs n) bf p0 (x : Int) due = some (match stpI n st bf x due with | some i => (stpT n st bf i, true) | none => (⟨0, 0⟩, false)) := by
  have hp := plcs_len n h
  have hL := h.legs
  unfold impl_lastLeg_at1fn94
  obtain ⟨y, h1, h2⟩ := loopM_up (body := impl_lastLeg_at1fn94_L1 n (n, F.c, F.l, F.w) (plcs n) bf p0 (x : Int) due) n.Legs.length (fun i s => s = (i : Int) ∧ ∀ j, j < i → stpB n st bf x due j = false) (fun y => (y = .inl () ∧ stpI n st bf x due = none) ∨ ∃ i, stpI n st bf x due = some i ∧ y = .inr (stpT n st bf i, true)) (fun i s hi hs => by
    obtain ⟨rfl, hm⟩ := hs
    have hws := w64_succ (show i ≤ 1048576 by omega)
    obtain ⟨a1, a2⟩ := iA_spec hi
    have ha : gi bf (iA n i : Int) = some (g bf (iA n i)) := gi_g (by omega)
    have hgx : gi (plcs n) (x : Int) = some (plcs n)[x] := gi_nat hx
    have hB := stpB_eq (n := n) (st := st) (x := x) (due := due) (hb (iA n i))
    have next : stpB n st bf x due i = false → ∃ s' : Int, (some (Ctl.next (τ := Unit) (ρ := Trip × Bool) ((i + 1 : Nat) : Int)) : Option _) = some (.next s') ∧ s' = ((i + 1 : Nat) : Int) ∧ ∀ j, j < i + 1 → stpB n st bf x due j = false := fun hf => ⟨_, rfl, rfl, fun j hj => by
      by_cases hji : j = i
      · rw [hji]; exact hf
      · exact hm j (by omega)⟩
    have hr : impl_readyAt n (g bf (iA n i)) (n.Legs[i].From.toList == p0.toList) = some (rdyN n st i (g bf (iA n i))) := by
      unfold impl_readyAt rdyN
      rw [bytes_eq_decide]
      by_cases hs : iA n i = st
      · have : n.Legs[i].From = p0 := idx_inj (by rw [a1, hs]) hp0
        simp [hs, this]
      · have : ¬ n.Legs[i].From = p0 := fun e => by rw [e, hp0] at a1; omega
        simp [hs, this]
    show (∃ s', impl_lastLeg_at1fn94_L1_b n (n, F.c, F.l, F.w) (plcs n) bf p0 (x : Int) due (i : Int) = some (.next s') ∧ _) ∨ (∃ t, impl_lastLeg_at1fn94_L1_b n (n, F.c, F.l, F.w) (plcs n) bf p0 (x : Int) due (i : Int) = some (.brk t) ∧ _) ∨ (∃ r, impl_lastLeg_at1fn94_L1_b n (n, F.c, F.l, F.w) (plcs n) bf p0 (x : Int) due (i : Int) = some (.ret r) ∧ _)
    unfold impl_lastLeg_at1fn94_L1_b
    simp only [Int.ofNat_lt, hi, decide_true, cond_true, gi_nat hi, Option.bind_some, placeAt_eq _ _ (show (plcs n).length ≤ 4000000 by omega), a1, ha, hgx, hws, to_eq hi hx]
    by_cases c1 : iB n i = x
    · by_cases c2 : g bf (iA n i) < 0
      · simp only [c1, c2, decide_true, Bool.not_true, cond_false, cond_true]
        exact .inl (next (by rw [hB]; simp [c2]))
      · simp only [c1, c2, decide_true, decide_false, Bool.not_true, cond_false, hr, Option.bind_some, impl_next_eq n h hn hFl hFc, impl_lastLeg_at1fn94_j1, hws]
        cases hf : (List.range 61).find? (nxtB n i (rdyN n st i (g bf (iA n i)))) with
        | none => exact .inl (next (by rw [hB, hf]; simp))
        | some d =>
          obtain ⟨ht, _⟩ := nxt_trip hn hf
          simp only [cond_true, ends_eq' ht, Option.bind_some]
          by_cases c3 : enT n ⟨(i : Int), (d : Int)⟩ = due
          · have hBt : stpB n st bf x due i = true := by rw [hB, hf]; simp [c1, c2, c3]
            have e : stpT n st bf i = ⟨(i : Int), (d : Int)⟩ := by unfold stpT dayN; rw [hf]
            refine .inr (.inr ⟨(⟨(i : Int), (d : Int)⟩, true), by simp [c3], .inr ⟨i, find_first hi hBt hm, by rw [e]⟩⟩)
          · have c3' : (enT n ⟨(i : Int), (d : Int)⟩ == due) = false := by simp [c3]
            simp only [c3', cond_false]
            exact .inl (next (by rw [hB, hf]; simp [c3]))
    · simp only [c1, decide_false, Bool.not_false, cond_true]
      exact .inl (next (by rw [hB]; simp [c1]))) (fun s hs => by
    obtain ⟨rfl, hm⟩ := hs
    refine .inl ⟨(), ?_, .inl ⟨rfl, find_none hm⟩⟩
    show impl_lastLeg_at1fn94_L1_b n (n, F.c, F.l, F.w) (plcs n) bf p0 (x : Int) due (n.Legs.length : Int) = _
    simp [impl_lastLeg_at1fn94_L1_b]) (0 : Int) ⟨rfl, fun j hj => absurd hj (Nat.not_lt_zero j)⟩ (show n.Legs.length < 1000000000000 by omega)
  rw [h1]
  rcases h2 with ⟨rfl, e⟩ | ⟨i, e, rfl⟩
  · rw [e]; rfl
  · rw [e]; rfl
end
/-- the number of legs with which the last arrival is first had -/
def lgsN (n : Network) (st : Nat) (at0 : Int) (x : Nat) : Nat := ((List.range ((plcs n).length + 1)).find? (fun k => decide (g (XN n st at0 k) x = DN n st at0 x))).getD 0
theorem lgs_spec (n : Network) (st : Nat) (at0 : Int) (x : Nat) : lgsN n st at0 x ≤ (plcs n).length ∧ g (XN n st at0 (lgsN n st at0 x)) x = DN n st at0 x ∧ ∀ j, j < lgsN n st at0 x → g (XN n st at0 j) x ≠ DN n st at0 x := by
  unfold lgsN
  cases hf : (List.range ((plcs n).length + 1)).find? (fun k => decide (g (XN n st at0 k) x = DN n st at0 x)) with
  | none =>
    have := List.find?_eq_none.1 hf (plcs n).length (by simp)
    simp at this
  | some k =>
    obtain ⟨h1, h2, h3⟩ := List.find?_range_eq_some.1 hf
    simp only [Option.getD_some]
    refine ⟨by have := List.mem_range.1 h2; omega, by simpa using h1, fun j hj => by have := h3 j hj; simpa using this⟩
/-- all arrivals, by the number of legs -/
def allN (n : Network) (st : Nat) (at0 : Int) (m : Nat) : List (List Int) := (List.range m).map (XN n st at0)
theorem all_get {n : Network} {st : Nat} {at0 : Int} {m k : Nat} (hk : k < m) : gi (allN n st at0 m) (k : Int) = some (XN n st at0 k) := by
  have hl : k < (allN n st at0 m).length := by simp [allN]; exact hk
  rw [gi_nat hl]
  simp [allN]
section
variable {n : Network} (h : NetS n) (hn : netB n = true) (hFl : F.l.length ≤ 1048576) (hFc : F.c.length ≤ 1048576) {st : Nat} (hst : st < (plcs n).length) {at0 : Int} (ha : ¬ at0 > 100000) {a : ByteArray} (hai : idxV (plcs n) a = (st : Int))
include h hn hFl hFc hst ha hai
theorem impl_back (m : Nat) (hm : m = (plcs n).length + 1) : ∀ (k x : Nat) (due : Int) (back : List Trip) (f : Nat), x < (plcs n).length → Tight n st at0 k x due → back.length + k ≤ 1000 → k < m → k < f →
    loopM (impl_wayTo_at1fn94_L3 n (n, F.c, F.l, F.w) a (allN n st at0 m)) f (plcs n, (x : Int), due, (k : Int), back) = some (.inl (back ++ (bckW n st at0 k x due).reverse))
  | 0, x, due, back, f + 1, hx, T, hw, hkm, hfu => loopM_bk (by show impl_wayTo_at1fn94_L3_b n (n, F.c, F.l, F.w) a (allN n st at0 m) (plcs n) (x : Int) due ((0 : Nat) : Int) back = _; simp [impl_wayTo_at1fn94_L3_b, bckW])
  | k + 1, x, due, back, f + 1, hx, T, hw, hkm, hfu => by
    have hp := plcs_len n h
    obtain ⟨i, h1, h2, h3, h4, h5, h6⟩ := tight_step hn hst ha T
    obtain ⟨q1, q2, q3, q4⟩ := tight_trip hn hst ha h2 h5
    have hlen := XN_len hn hst ha k
    have hws : w64 (((k + 1 : Nat) : Int) - 1) = (k : Int) := by rw [w64_id (by omega) (by omega)]; omega
    have hst' := implStep_eq h hn hFl hFc (st := st) hlen (XN_big hn hst ha k) hx due hai
    rw [h1] at hst'
    have hap : ap 16 back ([stpT n st (XN n st at0 k) i] : List Trip) = some (back ++ [stpT n st (XN n st at0 k) i]) := ap_eq (by simp <;> omega) (by simp <;> omega)
    have hgl : gi n.Legs (stpT n st (XN n st at0 k) i).Leg = some n.Legs[i] := by rw [q4]; exact gi_nat h2
    obtain ⟨a1, a2⟩ := iA_spec h2
    have hgi : gi (XN n st at0 k) (iA n i : Int) = some (g (XN n st at0 k) (iA n i)) := gi_g (by omega)
    have hall := all_get (n := n) (st := st) (at0 := at0) (m := m) (k := k) (by omega)
    rw [loopM_nx (s' := (plcs n, (iA n i : Int), g (XN n st at0 k) (iA n i), (k : Int), back ++ [stpT n st (XN n st at0 k) i])) (by
      show impl_wayTo_at1fn94_L3_b n (n, F.c, F.l, F.w) a (allN n st at0 m) (plcs n) (x : Int) due ((k + 1 : Nat) : Int) back = _
      unfold impl_wayTo_at1fn94_L3_b
      have hpos : decide (((k + 1 : Nat) : Int) > 0) = true := by simp <;> omega
      simp only [hpos, cond_true, hws, hall, Option.bind_some, hst', impl_wayTo_at1fn94_j1, Bool.not_true, cond_false, hap, hgl, placeAt_eq _ _ (show (plcs n).length ≤ 4000000 by omega), a1, hgi])]
    rw [impl_back m hm k (iA n i) _ _ f a2 h6 (by simp <;> omega) (by omega) (by omega)]
    have hb : bckW n st at0 (k + 1) x due = bckW n st at0 k (iA n i) (g (XN n st at0 k) (iA n i)) ++ [stpT n st (XN n st at0 k) i] := by
      rw [bckW, h1]
    rw [hb, List.reverse_append, List.append_assoc]
    rfl
end
end Fr
end Go.Sx
