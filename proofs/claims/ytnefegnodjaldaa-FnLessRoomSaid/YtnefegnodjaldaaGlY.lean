/- The next trip with room, and the bookings that stay: what the functions compute; the two exact laws answer true. -/
import Derived.Test.YtnefegnodjaldaaGlV
import Derived.Test.YtnefegnodjaldaaGlW3
namespace Go.Sx
set_option linter.unusedVariables false

theorem closed_eq (l : List Trip) (t : Trip) (hl : l.length ≤ 1048576) : spec_l6Closed l t = some (l.any fun x => decide (x = t)) := by
  unfold spec_l6Closed
  have := loopM_each' (body := spec_l6Closed_L1 l t) (X := Unit) l (fun _ i => i) (fun _ x _ => bif decide (x = t) then .inr true else .inl ()) (fun x => x) () (fun i hi y => by
    simp only [spec_l6Closed_L1, spec_l6Closed_L1_b, gi_nat hi, Option.bind_some, Int.ofNat_lt, hi, decide_true, cond_true, w64_succ (Nat.le_of_lt (Nat.lt_of_lt_of_le hi hl))]
    cases decide (l[i] = t) <;> simp [ctl]) (fun x => by simp [spec_l6Closed_L1, spec_l6Closed_L1_b]) hl
  rw [this, each_any (fun x : Trip => decide (x = t))]
  cases l.any fun x => decide (x = t) <;> simp [fin, spec_l6Closed_L1_k, spec_l6Closed_L1_a]
theorem hasTrip_eq (l : List Trip) (t : Trip) (hl : l.length ≤ 1048576) : impl_hasTrip l t = some (l.any fun x => decide (x = t)) := by
  unfold impl_hasTrip
  have := loopM_each' (body := impl_hasTrip_L1 l t) (X := Unit) l (fun _ i => i) (fun _ x _ => bif decide (x = t) then .inr true else .inl ()) (fun x => x) () (fun i hi y => by
    simp only [impl_hasTrip_L1, impl_hasTrip_L1_b, gi_nat hi, Option.bind_some, Int.ofNat_lt, hi, decide_true, cond_true, w64_succ (Nat.le_of_lt (Nat.lt_of_lt_of_le hi hl))]
    cases decide (l[i] = t) <;> simp [ctl]) (fun x => by simp [impl_hasTrip_L1, impl_hasTrip_L1_b]) hl
  rw [this, each_any (fun x : Trip => decide (x = t))]
  cases l.any fun x => decide (x = t) <;> simp [fin, impl_hasTrip_L1_k, impl_hasTrip_L1_a]
theorem l6Next_eq (n : Network) (h : NetS n) (hn : netB n = true) (l : List Booking) (hl : l.length ≤ 1048576) (c : List Trip) (hc : c.length ≤ 1048576) (leg at0 w : Int) :
    spec_l6Next n l c leg at0 w = some (match (List.range 61).find? (freB n l c leg at0 w) with | some d => (d : Int) | none => -1) := by
  unfold spec_l6Next
  have := loopM_each' (body := spec_l6Next_L1 n l c leg at0 w) (X := Unit) (List.range 61) (fun _ i => i) (fun _ d _ => bif freB n l c leg at0 w d then .inr (d : Int) else .inl ()) (fun x => x) () (fun i hi y => by
    have h61 : i < 61 := by simpa using hi
    have hle : (i : Int) ≤ 60 := by omega
    rw [range61 hi]
    simp only [spec_l6Next_L1, spec_l6Next_L1_b, hle, decide_true, cond_true, spec_runs_eq n h, Option.bind_some, w64_succ (by omega : i ≤ 1048576), freB]
    cases hr : runB n leg i with
    | false => simp [ctl]
    | true =>
      have ht : tripB n ⟨leg, i⟩ = true := by simp [tripB, hn, hr]
      obtain ⟨_, t1, t2, _⟩ := trip_in ht
      simp only [cond_true, starts_eq ht, Option.bind_some, Bool.true_and, closed_eq c _ hc, spec_LoadOf_eq l _ hl, gi_leg t1 t2]
      cases decide (stT n ⟨leg, i⟩ ≥ at0) <;> simp [ctl]
      cases (c.any fun x => decide (x = ⟨leg, i⟩)) <;> simp
      by_cases hw : w ≤ w64 ((legA n leg).Room - ldW l ⟨leg, i⟩) <;> simp [hw]) (fun x => by simp [spec_l6Next_L1, spec_l6Next_L1_b]) (by simp)
  rw [each_find (freB n l c leg at0 w) (fun d => (d : Int))] at this
  rw [this]
  cases (List.range 61).find? (freB n l c leg at0 w) <;> simp [fin, spec_l6Next_L1_k, spec_l6Next_L1_a]
theorem freeOf_eq (n : Network) (h : NetS n) (hn : netB n = true) (l : List Booking) (hl : l.length ≤ 1048576) (c : List Trip) (hc : c.length ≤ 1048576) (leg at0 w : Int) :
    impl_freeOf_c1 leg at0 n c l w = some (match (List.range 61).find? (freB n l c leg at0 w) with | some d => (⟨leg, d⟩, true) | none => (⟨0, 0⟩, false)) := by
  unfold impl_freeOf_c1
  have := loopM_each' (body := impl_freeOf_c1_L1 leg at0 n c l w) (X := Unit) (List.range 61) (fun _ i => i) (fun _ d _ => bif freB n l c leg at0 w d then .inr ((⟨leg, d⟩ : Trip), true) else .inl ()) (fun x => x) () (fun i hi y => by
    have h61 : i < 61 := by simpa using hi
    have hle : (i : Int) ≤ 60 := by omega
    rw [range61 hi]
    simp only [impl_freeOf_c1_L1, impl_freeOf_c1_L1_b, hle, decide_true, cond_true, impl_runs_eq n h, Option.bind_some, w64_succ (by omega : i ≤ 1048576), freB]
    cases hr : runB n leg i with
    | false => simp [ctl]
    | true =>
      have ht : tripB n ⟨leg, i⟩ = true := by simp [tripB, hn, hr]
      obtain ⟨_, t1, t2, _⟩ := trip_in ht
      simp only [cond_true, starts_eq' ht, Option.bind_some, Bool.true_and, hasTrip_eq c _ hc, impl_LoadOf_eq l _ hl, gi_leg t1 t2]
      cases decide (stT n ⟨leg, i⟩ ≥ at0) <;> simp [ctl]
      cases (c.any fun x => decide (x = ⟨leg, i⟩)) <;> simp
      by_cases hw : w ≤ w64 ((legA n leg).Room - ldW l ⟨leg, i⟩) <;> simp [hw]) (fun x => by simp [impl_freeOf_c1_L1, impl_freeOf_c1_L1_b]) (by simp)
  rw [each_find (freB n l c leg at0 w) (fun d => ((⟨leg, d⟩ : Trip), true))] at this
  rw [this]
  cases (List.range 61).find? (freB n l c leg at0 w) <;> simp [fin, impl_freeOf_c1_L1_k, impl_freeOf_c1_L1_a]
end Go.Sx
