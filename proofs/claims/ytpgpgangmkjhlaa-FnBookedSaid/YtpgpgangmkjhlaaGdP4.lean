/- Part of a proof: GdMmV GdMmY GdMmK GdMmA. -/
import Derived.Test.YtpgpgangmkjhlaaGdP3
section
/- Bookings: what the functions of the program compute, as plain laws. -/
namespace Go.Sx
set_option linter.unusedVariables false

theorem spec_LoadOf_eq (l : List Booking) (t : Trip) (hl : l.length ≤ 1048576) : spec_LoadOf l t = some (ldW l t) := by
  unfold spec_LoadOf
  have h1 := loopM_each' (body := spec_LoadOf_L1 l t) (X := Int) l (fun x i => (x, i)) (fun _ b x => .inl (bif decide (b.Trip = t) then w64 (x + b.Weight) else x)) (fun x => x) 0 (fun i hi x => by
    simp only [spec_LoadOf_L1, spec_LoadOf_L1_b, gi_nat hi, Option.bind_some, Int.ofNat_lt, hi, decide_true, cond_true, w64_succ (Nat.le_of_lt (Nat.lt_of_lt_of_le hi hl))]
    cases decide (l[i].Trip = t) <;> simp [ctl]) (fun x => by simp [spec_LoadOf_L1, spec_LoadOf_L1_b]) hl
  rw [h1]
  unfold ldW ldE
  generalize each (X := Int) (R := Int) (fun _ b x => .inl (bif decide (b.Trip = t) then w64 (x + b.Weight) else x)) 0 l 0 = y
  cases y <;> simp [fin, spec_LoadOf_L1_k, spec_LoadOf_L1_a]
theorem impl_LoadOf_eq (l : List Booking) (t : Trip) (hl : l.length ≤ 1048576) : impl_LoadOf l t = some (ldW l t) := by
  unfold impl_LoadOf
  have h1 := loopM_each' (body := impl_LoadOf_L1 l t) (X := Int) l (fun x i => (x, i)) (fun _ b x => .inl (bif decide (b.Trip = t) then w64 (x + b.Weight) else x)) (fun x => x) 0 (fun i hi x => by
    simp only [impl_LoadOf_L1, impl_LoadOf_L1_b, gi_nat hi, Option.bind_some, Int.ofNat_lt, hi, decide_true, cond_true, w64_succ (Nat.le_of_lt (Nat.lt_of_lt_of_le hi hl))]
    cases decide (l[i].Trip = t) <;> simp [ctl]) (fun x => by simp [impl_LoadOf_L1, impl_LoadOf_L1_b]) hl
  rw [h1]
  unfold ldW ldE
  generalize each (X := Int) (R := Int) (fun _ b x => .inl (bif decide (b.Trip = t) then w64 (x + b.Weight) else x)) 0 l 0 = y
  cases y <;> simp [fin, impl_LoadOf_L1_k, impl_LoadOf_L1_a]
theorem impl_TripsOf_eq (l : List Booking) (t : Int) (hl : l.length ≤ 1048576) : impl_TripsOf l t = some (tofV l t) := by
  unfold impl_TripsOf
  have := loopM_each (body := impl_TripsOf_L1 l t) (R := List Trip) l (fun x i => (x, i)) (fun _ b x => .inl (bif b.Thing == t then x ++ [b.Trip] else x)) (fun x => x) (fun i x => x.length ≤ i) [] (by simp) (fun i hi x hx => by
    simp only [impl_TripsOf_L1, impl_TripsOf_L1_b, gi_nat hi, Option.bind_some, Int.ofNat_lt, hi, decide_true, cond_true, w64_succ (Nat.le_of_lt (Nat.lt_of_lt_of_le hi hl))]
    cases l[i].Thing == t with
    | false => exact ⟨by simp [ctl], fun x' e => by simp at e; subst e; omega⟩
    | true =>
      rw [cond_true, ap_eq (by simp; omega) (by omega)]
      exact ⟨by simp [ctl], fun x' e => by simp at e; subst e; simp; omega⟩) (fun x hx => by simp [impl_TripsOf_L1, impl_TripsOf_L1_b]) hl
  rw [each_filter (fun b : Booking => b.Thing == t) (·.Trip)] at this
  rw [this]
  simp [fin, impl_TripsOf_L1_k, impl_TripsOf_L1_a, tofV]
theorem before_eq (a b : Booking) : spec_l6Before a b = some (befB a b) := by
  unfold spec_l6Before befB
  simp only [bneI]
  by_cases h1 : a.Trip.Day = b.Trip.Day <;> by_cases h2 : a.Trip.Leg = b.Trip.Leg <;> simp [h1, h2]
theorem compareInts_eq (a b : Int) : impl_compareInts a b = some (cmpI a b) := by
  unfold impl_compareInts cmpI
  by_cases h1 : a < b
  · simp [h1]
  · by_cases h2 : a > b <;> simp [h1, h2]
theorem first_eq (l : List Int) (hl : l.length ≤ 1048576) : impl_first l = some (fst0 l) := by
  unfold impl_first
  have := loopM_each' (body := impl_first_L1 l) (X := Unit) l (fun _ i => i) (fun _ t _ => bif t != 0 then .inr t else .inl ()) (fun x => x) () (fun i hi y => by
    simp only [impl_first_L1, impl_first_L1_b, gi_nat hi, Option.bind_some, Int.ofNat_lt, hi, decide_true, cond_true, w64_succ (Nat.le_of_lt (Nat.lt_of_lt_of_le hi hl))]
    cases l[i] != 0 <;> simp [ctl]) (fun x => by simp [impl_first_L1, impl_first_L1_b]) hl
  have key : ∀ (l : List Int) (i : Nat), each (X := Unit) (R := Int) (fun _ t _ => bif t != 0 then .inr t else .inl ()) i l () = if fst0 l ≠ 0 then .inr (fst0 l) else .inl () := by
    intro l
    induction l with
    | nil => intro i; rfl
    | cons a l ih =>
      intro i
      rw [each, fst0]
      by_cases ha : a = 0
      · subst ha; simpa [bneI] using ih (i + 1)
      · simp [bneI, ha]
  rw [this, key]
  by_cases h0 : fst0 l = 0
  · simp [h0, fin, impl_first_L1_k, impl_first_L1_a]
  · simp [h0, fin, impl_first_L1_k]
theorem compareBookings_eq (a b : Booking) : impl_compareBookings a b = some (cmpB a b) := by
  unfold impl_compareBookings
  simp only [compareInts_eq, Option.bind_some, first_eq _ (show [cmpI a.Trip.Day b.Trip.Day, cmpI a.Trip.Leg b.Trip.Leg, cmpI a.Thing b.Thing].length ≤ 1048576 by simp)]
  rfl
theorem spec_AreBookings_eq (n : Network) (h : NetS n) (l : List Booking) (hl : l.length ≤ 1048576) : spec_AreBookings n l = some (bokB n l) := by
  unfold spec_AreBookings bokB
  rw [spec_IsNetwork_eq n h]
  cases hn : netB n with
  | false => simp
  | true =>
    by_cases h120 : l.length ≤ 120
    · simp only [Option.bind_some, Bool.not_true, cond_false, show ¬ (l.length : Int) > 120 by omega, decide_false, h120, decide_true, Bool.true_and]
      have h1 := loopM_each' (body := spec_AreBookings_L1 n l) (X := Unit) l (fun _ i => i) (fun i t _ => bif basB n l i t then .inl () else .inr false) (fun x => x) () (fun i hi x => by
        simp only [spec_AreBookings_L1, spec_AreBookings_L1_b, gi_nat hi, Option.bind_some, Int.ofNat_lt, hi, decide_true, cond_true, w64_succ (Nat.le_of_lt (Nat.lt_of_lt_of_le hi hl)), spec_runs_eq n h, l1In_eq, basB]
        generalize hv : l[i] = v
        cases runB n v.Trip.Leg v.Trip.Day <;> simp [ctl]
        cases inB v.Thing 1 9999 <;> simp
        cases inB v.Weight 1 1000000 <;> simp
        rcases Nat.eq_zero_or_pos i with h0 | h0
        · subst h0; simp
        · have hp : gi l (w64 ((i : Int) - 1)) = some (l[i - 1]?.getD default) := by
            rw [w64_id (by omega) (by omega), show ((i : Int) - 1) = ((i - 1 : Nat) : Int) by omega, gi_nat (by omega : i - 1 < l.length)]
            simp [show i - 1 < l.length by omega]
          simp only [h0, decide_true, cond_true, hp, Option.bind_some, before_eq, show ¬ i = 0 by omega, decide_false, Bool.false_or]
          cases befB (l[i - 1]?.getD default) v <;> simp) (fun x => by simp [spec_AreBookings_L1, spec_AreBookings_L1_b]) hl
      rw [each_all (basB n l)] at h1
      rw [h1]
      cases hb : allI (basB n l) 0 l with
      | false => simp [fin, spec_AreBookings_L1_k]
      | true =>
        have hrun : ∀ i (hi : i < l.length), 0 ≤ l[i].Trip.Leg ∧ l[i].Trip.Leg < n.Legs.length := fun i hi => by
          have := allI_iff.1 hb i hi
          simp only [basB, runB, Bool.and_eq_true, decide_eq_true_eq] at this
          exact this.1.1.1.1.1.1
        have h2 := loopM_each' (body := spec_AreBookings_L2 n l) (X := Unit) l (fun _ i => i) (fun _ t _ => bif lodB n l t then .inl () else .inr false) (fun x => x) () (fun i hi x => by
          have hr := hrun i hi
          simp only [spec_AreBookings_L2, spec_AreBookings_L2_b, gi_nat hi, Option.bind_some, Int.ofNat_lt, hi, decide_true, cond_true, w64_succ (Nat.le_of_lt (Nat.lt_of_lt_of_le hi hl)), spec_LoadOf_eq l _ hl, gi_leg hr.1 hr.2, lodB]
          by_cases hc : ldW l l[i].Trip ≤ (legA n l[i].Trip.Leg).Room
          · simp [hc, ctl, show ¬ (legA n l[i].Trip.Leg).Room < ldW l l[i].Trip by omega]
          · simp [hc, ctl, show (legA n l[i].Trip.Leg).Room < ldW l l[i].Trip by omega]) (fun x => by simp [spec_AreBookings_L2, spec_AreBookings_L2_b]) hl
        rw [each_allP (lodB n l)] at h2
        simp only [cond_true, fin, Option.bind_some, spec_AreBookings_L1_k, spec_AreBookings_L1_a, h2, Bool.true_and]
        cases l.all (lodB n l) <;> simp [fin, spec_AreBookings_L2_k, spec_AreBookings_L2_a]
    · simp [h120, show (l.length : Int) > 120 by omega]
theorem impl_AreBookings_eq (n : Network) (h : NetS n) (l : List Booking) (hl : l.length ≤ 1048576) : impl_AreBookings n l = some (bokB n l) := by
  unfold impl_AreBookings bokB
  rw [impl_IsNetwork_eq n h]
  cases hn : netB n with
  | false => simp
  | true =>
    by_cases h120 : l.length ≤ 120
    · simp only [Option.bind_some, Bool.not_true, cond_false, show ¬ (l.length : Int) > 120 by omega, decide_false, h120, decide_true, Bool.true_and]
      have h1 := loopM_each' (body := impl_AreBookings_L1 n l) (X := Unit) l (fun _ i => i) (fun i t _ => bif basB n l i t && lodB n l t then .inl () else .inr false) (fun x => x) () (fun i hi x => by
        simp only [impl_AreBookings_L1, impl_AreBookings_L1_b, gi_nat hi, Option.bind_some, Int.ofNat_lt, hi, decide_true, cond_true, w64_succ (Nat.le_of_lt (Nat.lt_of_lt_of_le hi hl)), impl_IsTrip_eq n h, within_eq, basB, impl_LoadOf_eq l _ hl]
        generalize hv : l[i] = v
        have tail : (Option.some (tripB n v.Trip)).bind (fun v15 => bif (!v15) then some (Ctl.ret (σ := Int) (τ := Unit) false) else (Option.some (inB v.Thing 1 9999)).bind fun v18 => bif (!v18) then some (.ret false) else (Option.some (inB v.Weight 1 1000000)).bind fun v21 => bif (!v21) then some (.ret false) else (Option.some (ldW l v.Trip)).bind fun v24 => (gi n.Legs v.Trip.Leg).bind fun v26 => bif (decide (v24 > v26.Room)) then some (.ret false) else some (.next ((i + 1 : Nat) : Int))) =
            some (bif (runB n v.Trip.Leg v.Trip.Day && inB v.Thing 1 9999 && inB v.Weight 1 1000000) && lodB n l v then .next ((i + 1 : Nat) : Int) else .ret false) := by
          have ht : tripB n v.Trip = runB n v.Trip.Leg v.Trip.Day := by simp [tripB, hn]
          cases hr : tripB n v.Trip with
          | false => rw [ht] at hr; simp [hr]
          | true =>
            obtain ⟨_, t1, t2, _⟩ := trip_in hr
            rw [ht] at hr
            cases inB v.Thing 1 9999 <;> simp [hr]
            cases inB v.Weight 1 1000000 <;> simp
            rw [gi_leg t1 t2]
            simp only [Option.bind_some, lodB]
            by_cases hc : ldW l v.Trip ≤ (legA n v.Trip.Leg).Room
            · simp [hc, show ¬ (legA n v.Trip.Leg).Room < ldW l v.Trip by omega]
            · simp [hc, show (legA n v.Trip.Leg).Room < ldW l v.Trip by omega]
        simp only [Option.bind_some] at tail
        rcases Nat.eq_zero_or_pos i with h0 | h0
        · subst h0
          simp only [show ¬ ((0 : Nat) : Int) > 0 by simp, decide_false, cond_false, decide_true, Bool.true_or, Bool.and_true]
          rw [tail]
          cases (runB n v.Trip.Leg v.Trip.Day && inB v.Thing 1 9999 && inB v.Weight 1 1000000) && lodB n l v <;> rfl
        · have hp : gi l (w64 ((i : Int) - 1)) = some (l[i - 1]?.getD default) := by
            rw [w64_id (by omega) (by omega), show ((i : Int) - 1) = ((i - 1 : Nat) : Int) by omega, gi_nat (by omega : i - 1 < l.length)]
            simp [show i - 1 < l.length by omega]
          simp only [show (i : Int) > 0 by omega, decide_true, cond_true, hp, Option.bind_some, compareBookings_eq, show ¬ i = 0 by omega, decide_false, Bool.false_or]
          rw [tail]
          have hcm := cmpB_neg (l[i - 1]?.getD default) v
          cases hbf : befB (l[i - 1]?.getD default) v with
          | false =>
            rw [hbf] at hcm
            have : cmpB (l[i - 1]?.getD default) v ≥ 0 := by
              have := hcm.mp
              apply Classical.byContradiction
              intro hx
              have := hcm.mp (by omega)
              cases this
            simp [this, ctl]
          | true =>
            rw [hbf] at hcm
            have : ¬ cmpB (l[i - 1]?.getD default) v ≥ 0 := by
              have := hcm.mpr rfl
              omega
            simp only [this, decide_false, cond_false, Bool.and_true]
            cases (runB n v.Trip.Leg v.Trip.Day && inB v.Thing 1 9999 && inB v.Weight 1 1000000) && lodB n l v <;> rfl) (fun x => by simp [impl_AreBookings_L1, impl_AreBookings_L1_b]) hl
      rw [each_all (fun i t => basB n l i t && lodB n l t)] at h1
      rw [h1]
      have hsp : allI (fun i t => basB n l i t && lodB n l t) 0 l = (allI (basB n l) 0 l && l.all (lodB n l)) := by
        rw [Bool.eq_iff_iff]
        simp only [Bool.and_eq_true, allI_iff, List.all_eq_true]
        constructor
        · intro H
          refine ⟨fun j hj => (H j hj).1, fun b hb => ?_⟩
          obtain ⟨j, hj, rfl⟩ := List.getElem_of_mem hb
          exact (H j hj).2
        · rintro ⟨H1, H2⟩ j hj
          exact ⟨H1 j hj, H2 _ (List.getElem_mem hj)⟩
      rw [hsp]
      cases allI (basB n l) 0 l && l.all (lodB n l) <;> simp [fin, impl_AreBookings_L1_k, impl_AreBookings_L1_a]
    · simp [h120, show (l.length : Int) > 120 by omega]
end Go.Sx
end
section
/- The next trip with room, and the bookings that stay: what the functions compute; the two exact laws answer true. -/
namespace Go.Sx
set_option linter.unusedVariables false

theorem closed_eq (l : List Trip) (t : Trip) (hl : l.length ≤ 1048576) : spec_l6Closed l t = some (l.any fun x => decide (x = t)) := by
  unfold spec_l6Closed
  have := loopM_each' (body := spec_l6Closed_L1 l t) (X := Unit) l (fun _ i => i) (fun _ x _ => bif decide (x = t) then .inr true else .inl ()) (fun x => x) () (fun i hi y => by
    simp only [spec_l6Closed_L1, spec_l6Closed_L1_b, gi_nat hi, Option.bind_some, Int.ofNat_lt, hi, decide_true, cond_true, w64_succ (Nat.le_of_lt (Nat.lt_of_lt_of_le hi hl))]
    cases decide (l[i] = t) <;> simp [ctl]) (fun x => by simp [spec_l6Closed_L1, spec_l6Closed_L1_b]) hl
  rw [this, each_any (fun x : Trip => decide (x = t))]
  cases l.any fun x => decide (x = t) <;> simp [fin, spec_l6Closed_L1_k, spec_l6Closed_L1_a]
theorem l6Next_eq (n : Network) (h : NetS n) (hn : netB n = true) (l : List Booking) (hl : l.length ≤ 1048576) (c : List Trip) (hc : c.length ≤ 1048576) (leg at0 w : Int) :
    spec_l6Next n l c leg at0 w = some (match (List.range 61).find? (freB n l c leg at0 w) with | some d => (d : Int) | none => -1) := by
  unfold spec_l6Next
  have := loopM_each' (body := spec_l6Next_L1 n l c leg at0 w) (X := Unit) (List.range 61) (fun _ i => i) (fun _ d _ => bif freB n l c leg at0 w d then .inr (d : Int) else .inl ()) (fun x => x) () (fun i hi y => by
    have h61 : i < 61 := by simpa using hi
    have hle : (i : Int) ≤ 60 := by omega
    rw [range61 hi]
    simp only [spec_l6Next_L1, spec_l6Next_L1_b, hle, decide_true, cond_true, spec_runs_eq n h, Option.bind_some, w64_succ (by omega : i ≤ 1048576), freB]
    cases hr : runB n leg i with
    | false => simp [ctl]
    | true =>
      have ht : tripB n ⟨leg, i⟩ = true := by simp [tripB, hn, hr]
      obtain ⟨_, t1, t2, _⟩ := trip_in ht
      simp only [cond_true, starts_eq ht, Option.bind_some, Bool.true_and, closed_eq c _ hc, spec_LoadOf_eq l _ hl, gi_leg t1 t2]
      cases decide (stT n ⟨leg, i⟩ ≥ at0) <;> simp [ctl]
      cases (c.any fun x => decide (x = ⟨leg, i⟩)) <;> simp
      by_cases hw : w ≤ w64 ((legA n leg).Room - ldW l ⟨leg, i⟩) <;> simp [hw]) (fun x => by simp [spec_l6Next_L1, spec_l6Next_L1_b]) (by simp)
  rw [each_find (freB n l c leg at0 w) (fun d => (d : Int))] at this
  rw [this]
  cases (List.range 61).find? (freB n l c leg at0 w) <;> simp [fin, spec_l6Next_L1_k, spec_l6Next_L1_a]
end Go.Sx
end
section
/- Finding room and booking end; the draw of rides; a thing rides what it has booked. -/
namespace Go.Sx
open Relax (g g_set X)
set_option linter.unusedVariables false

theorem fre_trip {n : Network} (hn : netB n = true) {l : List Booking} {c : List Trip} {leg at0 w : Int} {d : Nat} (h : (List.range 61).find? (freB n l c leg at0 w) = some d) : tripB n ⟨leg, d⟩ = true := by
  have := List.find?_some h
  unfold freB at this
  simp only [Bool.and_eq_true] at this
  simp [tripB, hn, this]
theorem ready_tot (n : Network) (x : Int) (b : Bool) : ∃ v, spec_l4Ready n x b = some v := by
  unfold spec_l4Ready
  cases b <;> simp
/-- one leg of a round with room ends -/
theorem l6Round_tot (n : Network) (h : NetS n) (hn : netB n = true) (l : List Booking) (hl : l.length ≤ 1048576) (w : Int) (old : List Int) (ho : old.length = (plcs n).length) (f : Int) :
    ∃ r, spec_l6Round n l [] w (plcs n) old f = some r ∧ r.length = (plcs n).length := by
  have hp := plcs_len n h
  have hL := h.legs
  unfold spec_l6Round spec_l1Ints
  rw [ap_eq (by simp; omega) (by omega)]
  obtain ⟨x, h1, y, rfl, h2⟩ := loopM_up (body := spec_l6Round_L1 n l [] w (plcs n) old f) n.Legs.length (fun i s => s.2 = (i : Int) ∧ s.1.length = (plcs n).length) (fun x => ∃ y, x = .inl y ∧ y.length = (plcs n).length) (fun i s hi hs => by
    obtain ⟨s1, s2⟩ := s
    obtain ⟨e1, e2⟩ := hs
    simp only at e1 e2
    subst e1
    have hws := w64_succ (show i ≤ 1048576 by omega)
    obtain ⟨a1, a2⟩ := iA_spec hi
    obtain ⟨b1, b2⟩ := iB_spec hi
    have ha : gi old (iA n i : Int) = some (g old (iA n i)) := gi_g (by omega)
    have hb : gi s1 (iB n i : Int) = some (g s1 (iB n i)) := gi_g (by omega)
    refine .inl ?_
    show ∃ s', spec_l6Round_L1_b n l [] w (plcs n) old f s1 (i : Int) = some (.next s') ∧ _
    unfold spec_l6Round_L1_b
    have same : ∃ s' : List Int × Int, (some (Ctl.next (τ := List Int) (ρ := List Int) (s1, ((i + 1 : Nat) : Int))) : Option _) = some (.next s') ∧ s'.2 = ((i + 1 : Nat) : Int) ∧ s'.1.length = (plcs n).length := ⟨_, rfl, rfl, e2⟩
    have put : ∀ z, ∃ s' : List Int × Int, (some (Ctl.next (τ := List Int) (ρ := List Int) (List.set s1 (Int.toNat (iB n i : Int)) z, ((i + 1 : Nat) : Int))) : Option _) = some (.next s') ∧ s'.2 = ((i + 1 : Nat) : Int) ∧ s'.1.length = (plcs n).length := fun z => ⟨_, rfl, rfl, by show (List.set s1 _ z).length = _; rw [List.length_set]; exact e2⟩
    simp only [Int.ofNat_lt, hi, decide_true, cond_true, gi_nat hi, Option.bind_some, index_eq _ _ (show (plcs n).length ≤ 4000000 by omega), a1, b1, ha, hws]
    cases decide (g old (iA n i) < 0) with
    | true => exact same
    | false =>
      obtain ⟨rd, hrd⟩ := ready_tot n (g old (iA n i)) (((iA n i : Nat) : Int) == f)
      simp only [cond_false, hrd, Option.bind_some, l6Next_eq n h hn l hl [] (by simp) i rd w]
      cases hf : (List.range 61).find? (freB n l [] i rd w) with
      | none => exact same
      | some d =>
        have ht := fre_trip hn hf
        have hd0 : decide ((d : Int) < 0) = false := by simp
        simp only [hd0, cond_false, ends_eq ht, Option.bind_some, hb]
        cases decide (g s1 (iB n i) < 0) with
        | true => exact put _
        | false =>
          cases decide (enT n ⟨(i : Int), (d : Int)⟩ < g s1 (iB n i)) with
          | true => exact put _
          | false => exact same) (fun s hs => by
    obtain ⟨s1, s2⟩ := s
    obtain ⟨e1, e2⟩ := hs
    simp only at e1 e2
    subst e1
    refine .inl ⟨s1, ?_, s1, rfl, e2⟩
    show spec_l6Round_L1_b n l [] w (plcs n) old f s1 (n.Legs.length : Int) = _
    simp [spec_l6Round_L1_b]) (([] : List Int) ++ old, 0) ⟨rfl, by simpa using ho⟩ (show n.Legs.length < 1000000000000 by omega)
  refine ⟨y, ?_, h2⟩
  simp only [Option.bind_some]
  rw [h1]
  simp [spec_l6Round_L1_k, spec_l6Round_L1_a]
theorem bestFree_tot (n : Network) (h : NetS n) (l : List Booking) (hl : l.length ≤ 1048576) (a : ByteArray) (t w k : Int) :
    ∃ r, spec_BestFree n l [] a t w k = some r ∧ (r = [] ∨ r.length = (plcs n).length) ∧ (r ≠ [] → bokB n l = true ∧ ¬ idxV (plcs n) a < 0 ∧ ¬ t > 100000 ∧ ¬ w < 1) ∧ (bokB n l = true → ¬ idxV (plcs n) a < 0 → ¬ t > 100000 → ¬ w < 1 → ¬ k < 0 → r.length = (plcs n).length) := by
  have hp := plcs_len n h
  unfold spec_BestFree
  rw [spec_PlacesOf_eq n h, spec_AreBookings_eq n h l hl]
  simp only [Option.bind_some, index_eq _ _ (show (plcs n).length ≤ 4000000 by omega)]
  cases hb : bokB n l with
  | false => exact ⟨[], by simp, .inl rfl, fun hh => absurd rfl hh, fun hh => by cases hh⟩
  | true =>
    by_cases h1 : idxV (plcs n) a < 0
    · exact ⟨[], by simp [h1], .inl rfl, fun hh => absurd rfl hh, fun _ hh => absurd h1 hh⟩
    by_cases h2 : t > 100000
    · exact ⟨[], by simp [h1, h2], .inl rfl, fun hh => absurd rfl hh, fun _ _ hh => absurd h2 hh⟩
    by_cases h3 : w < 1
    · exact ⟨[], by simp [h1, h2, h3], .inl rfl, fun hh => absurd rfl hh, fun _ _ _ hh => absurd h3 hh⟩
    by_cases h4 : k < 0
    · exact ⟨[], by simp [h1, h2, h3, h4], .inl rfl, fun hh => absurd rfl hh, fun _ _ _ _ hh => absurd h4 hh⟩
    have hn := bok_net hb
    obtain ⟨st, e, hst⟩ := idx_lt h1
    have key : ∀ (m : Nat) (s : List Int × Int), 0 ≤ s.2 → ((plcs n).length : Int) - s.2 ≤ m → s.1.length = (plcs n).length → ∃ y, loopM (spec_BestFree_L1 n l [] w k (plcs n) (st : Int)) big s = some (.inl y) ∧ y.length = (plcs n).length := by
      intro m s hs0 hs1 hs2
      obtain ⟨x, hx, y, rfl, hy⟩ := loopM_tot (body := spec_BestFree_L1 n l [] w k (plcs n) (st : Int)) (fun s => 0 ≤ s.2 ∧ s.1.length = (plcs n).length) (fun s => (((plcs n).length : Int) - s.2).toNat) (fun x => ∃ y, x = .inl y ∧ y.length = (plcs n).length) (fun s hs => by
        obtain ⟨s1, s2⟩ := s
        obtain ⟨g0, g1⟩ := hs
        simp only at g0 g1
        show (∃ s', spec_BestFree_L1_b n l [] w k (plcs n) (st : Int) s1 s2 = some (.next s') ∧ _) ∨ (∃ t, spec_BestFree_L1_b n l [] w k (plcs n) (st : Int) s1 s2 = some (.brk t) ∧ _) ∨ _
        unfold spec_BestFree_L1_b
        by_cases c1 : s2 < k
        · by_cases c2 : s2 < ((plcs n).length : Int)
          · obtain ⟨r, hr, hrl⟩ := l6Round_tot n h hn l hl w s1 g1 (st : Int)
            have hws : w64 (s2 + 1) = s2 + 1 := w64_id (by omega) (by omega)
            refine .inl ⟨(r, s2 + 1), by simp only [c1, c2, decide_true, cond_true, hr, Option.bind_some, hws], ⟨by show 0 ≤ s2 + 1; omega, hrl⟩, ?_⟩
            show (((plcs n).length : Int) - (s2 + 1)).toNat < (((plcs n).length : Int) - s2).toNat
            omega
          · exact .inr (.inl ⟨s1, by simp [c1, c2], s1, rfl, g1⟩)
        · exact .inr (.inl ⟨s1, by simp [c1], s1, rfl, g1⟩)) big s ⟨hs0, hs2⟩ (by unfold big; omega)
      exact ⟨y, hx, hy⟩
    obtain ⟨y, hy, hyl⟩ := key (plcs n).length (x0N n st t, 0) (Int.le_refl _) (by simp) (by simp [x0N])
    refine ⟨y, ?_, .inr hyl, fun _ => ⟨rfl, h1, h2, h3⟩, fun _ _ _ _ _ => hyl⟩
    have hst0 : decide ((st : Int) < 0) = false := by simp
    simp only [h2, h3, h4, Bool.not_true, decide_false, cond_false, e, hst0, first_eq0 n h st hst, Option.bind_some, hy, spec_BestFree_L1_k, spec_BestFree_L1_a]
theorem l6Step_tot (n : Network) (h : NetS n) (hn : netB n = true) (hL : 0 < n.Legs.length) (l : List Booking) (hl : l.length ≤ 1048576) (w : Int) (bf : List Int) (hb : bf.length = (plcs n).length) (f x e : Int) (hx0 : 0 ≤ x) (hx : x < (plcs n).length) :
    ∃ t, spec_l6Step n l [] w (plcs n) bf f x e = some t ∧ 0 ≤ t.Leg ∧ t.Leg < n.Legs.length := by
  have hp := plcs_len n h
  have hLl := h.legs
  unfold spec_l6Step
  obtain ⟨y, h1, h2⟩ := loopM_up (body := spec_l6Step_L1 n l [] w (plcs n) bf f x e) n.Legs.length (fun i s => s = (i : Int)) (fun y => y = .inl () ∨ ∃ t : Trip, y = .inr t ∧ 0 ≤ t.Leg ∧ t.Leg < n.Legs.length) (fun i s hi hs => by
    subst hs
    have hws := w64_succ (show i ≤ 1048576 by omega)
    obtain ⟨a1, a2⟩ := iA_spec hi
    have ha : gi bf (iA n i : Int) = some (g bf (iA n i)) := gi_g (by omega)
    have hgx := gi_eq hx0 hx
    show (∃ s', spec_l6Step_L1_b n l [] w (plcs n) bf f x e (i : Int) = some (.next s') ∧ _) ∨ _ ∨ (∃ r, spec_l6Step_L1_b n l [] w (plcs n) bf f x e (i : Int) = some (.ret r) ∧ _)
    unfold spec_l6Step_L1_b
    have same : ∃ s' : Int, (some (Ctl.next (τ := Unit) (ρ := Trip) ((i + 1 : Nat) : Int)) : Option _) = some (.next s') ∧ s' = ((i + 1 : Nat) : Int) := ⟨_, rfl, rfl⟩
    simp only [Int.ofNat_lt, hi, decide_true, cond_true, gi_nat hi, Option.bind_some, index_eq _ _ (show (plcs n).length ≤ 4000000 by omega), a1, ha, hgx, hws]
    cases (!n.Legs[i].To.toList == ((plcs n)[x.toNat]'(by omega)).toList) with
    | true => exact .inl same
    | false =>
      cases decide (g bf (iA n i) < 0) with
      | true => exact .inl same
      | false =>
        obtain ⟨rd, hrd⟩ := ready_tot n (g bf (iA n i)) (((iA n i : Nat) : Int) == f)
        simp only [cond_false, hrd, Option.bind_some, l6Next_eq n h hn l hl [] (by simp) i rd w, spec_l6Step_j1, hws]
        cases hf : (List.range 61).find? (freB n l [] i rd w) with
        | none => exact .inl same
        | some d =>
          have ht := fre_trip hn hf
          have hd0 : decide ((d : Int) ≥ 0) = true := by simp
          simp only [hd0, cond_true, ends_eq ht, Option.bind_some]
          cases (enT n ⟨(i : Int), (d : Int)⟩ == e) with
          | true => exact .inr (.inr ⟨⟨(i : Int), (d : Int)⟩, rfl, .inr ⟨_, rfl, by show 0 ≤ (i : Int); omega, by show (i : Int) < _; omega⟩⟩)
          | false => exact .inl same) (fun s hs => by
    subst hs
    refine .inl ⟨(), ?_, .inl rfl⟩
    show spec_l6Step_L1_b n l [] w (plcs n) bf f x e (n.Legs.length : Int) = _
    simp [spec_l6Step_L1_b]) (0 : Int) rfl (show n.Legs.length < 1000000000000 by omega)
  rw [h1]
  rcases h2 with rfl | ⟨t, rfl, t0, t1⟩
  · exact ⟨⟨0, 0⟩, rfl, by simp, by show (0 : Int) < _; omega⟩
  · exact ⟨t, rfl, t0, t1⟩
end Go.Sx
end
section
/- Finding room, booking, the draw of rides; a thing rides what it has booked. -/
namespace Go.Sx
open Relax (g g_set X)
set_option linter.unusedVariables false

theorem findRoom_tot (n : Network) (h : NetS n) (l : List Booking) (hl : l.length ≤ 1048576) (a b : ByteArray) (t w : Int) : ∃ r ok, spec_FindRoom n l [] a b t w = some (r, ok) ∧ r.length ≤ 40 := by
  have hp := plcs_len n h
  obtain ⟨bf, e1, hb1, hb2, _⟩ := bestFree_tot n h l hl a t w (plcs n).length
  unfold spec_FindRoom
  rw [spec_PlacesOf_eq n h]
  simp only [Option.bind_some, index_eq _ _ (show (plcs n).length ≤ 4000000 by omega), e1]
  by_cases h1 : idxV (plcs n) b < 0
  · exact ⟨[], false, by simp [h1], by simp⟩
  rcases hb1 with rfl | hbl
  · exact ⟨[], false, by simp [h1], by simp⟩
  obtain ⟨x, ex, hx⟩ := idx_lt h1
  have hne : bf ≠ [] := fun e => by rw [e] at hbl; simp only [List.length_nil] at hbl; omega
  obtain ⟨hbk, ha, ht, hw⟩ := hb2 hne
  have hn := bok_net hbk
  have hp40 := plcs_le hn
  have hz : ((bf.length : Int) == 0) = false := by rw [hbl]; exact beq_eq_false_iff_ne.2 (by omega)
  have hg : gi bf (x : Int) = some (g bf x) := gi_g (by omega)
  have h1' : decide (idxV (plcs n) b < 0) = false := by simp [h1]
  rw [h1', hz, ex]
  simp only [cond_false, hg, Option.bind_some]
  by_cases h2 : g bf x < 0
  · exact ⟨[], false, by simp [h2], by simp⟩
  simp only [h2, decide_false, cond_false]
  -- how many legs
  obtain ⟨y, hy, k, rfl, hk⟩ := loopM_up (body := spec_FindRoom_L1 n l [] a t w (x : Int) (g bf x)) (plcs n).length (fun i s => s = (i : Int)) (fun y => ∃ k : Nat, y = .inl (k : Int) ∧ k ≤ (plcs n).length) (fun i s hi hs => by
    subst hs
    obtain ⟨bi, e2, _, _, hb3⟩ := bestFree_tot n h l hl a t w (i : Int)
    have hbi := hb3 hbk ha ht hw (by omega)
    have hgi : gi bi (x : Int) = some (g bi x) := gi_g (by omega)
    have hws := w64_succ (show i ≤ 1048576 by omega)
    show (∃ s', spec_FindRoom_L1_b n l [] a t w (x : Int) (g bf x) (i : Int) = some (.next s') ∧ _) ∨ (∃ t', spec_FindRoom_L1_b n l [] a t w (x : Int) (g bf x) (i : Int) = some (.brk t') ∧ _) ∨ _
    unfold spec_FindRoom_L1_b
    simp only [e2, Option.bind_some, hgi, hws]
    cases (g bi x != g bf x) with
    | true => exact .inl ⟨_, rfl, rfl⟩
    | false => exact .inr (.inl ⟨_, rfl, i, rfl, by omega⟩)) (fun s hs => by
    subst hs
    refine .inl ⟨((plcs n).length : Int), ?_, _, rfl, Nat.le_refl _⟩
    show spec_FindRoom_L1_b n l [] a t w (x : Int) (g bf x) ((plcs n).length : Int) = _
    unfold spec_FindRoom_L1_b
    simp [e1, hg]) (0 : Int) rfl (show (plcs n).length < 1000000000000 by omega)
  rw [hy]
  simp only [Option.bind_some, spec_FindRoom_L1_k, spec_FindRoom_L1_a]
  have hL := places_legs hx
  -- back along the legs
  obtain ⟨y2, hy2, w2, rfl, hw2⟩ := loopM_tot (body := spec_FindRoom_L2 n l [] a t w (plcs n) (idxV (plcs n) a)) (fun s => 0 ≤ s.1 ∧ s.1 < (plcs n).length ∧ 0 ≤ s.2.2.2 ∧ (s.2.1.length : Int) + s.2.2.2 ≤ 40) (fun s => s.2.2.2.toNat) (fun y => ∃ w2, y = .inl w2 ∧ w2.length ≤ 40) (fun s hs => by
    obtain ⟨z, wy, ee, m⟩ := s
    obtain ⟨z0, z1, m0, m1⟩ := hs
    simp only at z0 z1 m0 m1
    show (∃ s', spec_FindRoom_L2_b n l [] a t w (plcs n) (idxV (plcs n) a) z wy ee m = some (.next s') ∧ _) ∨ (∃ t', spec_FindRoom_L2_b n l [] a t w (plcs n) (idxV (plcs n) a) z wy ee m = some (.brk t') ∧ _) ∨ _
    unfold spec_FindRoom_L2_b
    by_cases c : m > 0
    · have hwm : w64 (m - 1) = m - 1 := w64_id (by omega) (by omega)
      obtain ⟨bi, e2, _, _, hb3⟩ := bestFree_tot n h l hl a t w (m - 1)
      have hbi := hb3 hbk ha ht hw (by omega)
      obtain ⟨tr, e3, t0, t1⟩ := l6Step_tot n h hn hL l hl w bi hbi (idxV (plcs n) a) z ee z0 z1
      have hap : ap 16 ([tr] : List Trip) wy = some ([tr] ++ wy) := ap_eq (by simp <;> omega) (by simp <;> omega)
      have hleg : gi n.Legs tr.Leg = some (n.Legs[tr.Leg.toNat]'(by omega)) := gi_eq t0 t1
      obtain ⟨a1, a2⟩ := iA_spec (n := n) (i := tr.Leg.toNat) (by omega)
      have hgi : gi bi (iA n tr.Leg.toNat : Int) = some (g bi (iA n tr.Leg.toNat)) := gi_g (by omega)
      refine .inl ⟨((iA n tr.Leg.toNat : Int), [tr] ++ wy, g bi (iA n tr.Leg.toNat), m - 1), by simp only [c, decide_true, cond_true, hwm, e2, e3, hap, hleg, Option.bind_some, index_eq _ _ (show (plcs n).length ≤ 4000000 by omega), a1, hgi], ⟨?_, ?_, ?_, ?_⟩, ?_⟩
      · show 0 ≤ (iA n tr.Leg.toNat : Int); omega
      · show (iA n tr.Leg.toNat : Int) < _; omega
      · show 0 ≤ m - 1; omega
      · show ((([tr] ++ wy).length : Nat) : Int) + (m - 1) ≤ 40; simp; omega
      · show (m - 1).toNat < m.toNat; omega
    · exact .inr (.inl ⟨wy, by simp [c], wy, rfl, by omega⟩)) big ((x : Int), ([] : List Trip), g bf x, (k : Int)) ⟨by show 0 ≤ (x : Int); omega, by show (x : Int) < _; omega, by show 0 ≤ (k : Int); omega, by show ((0 : Nat) : Int) + (k : Int) ≤ 40; omega⟩ (by show ((k : Int)).toNat < big; unfold big; omega)
  exact ⟨w2, true, by rw [hy2]; rfl, hw2⟩
theorem l6Before_tot (a b : Booking) : ∃ v, spec_l6Before a b = some v := by
  unfold spec_l6Before
  cases (a.Trip.Day != b.Trip.Day) <;> cases (a.Trip.Leg != b.Trip.Leg) <;> simp
theorem l6Copy_eq (l : List Booking) (hl : l.length ≤ 1048576) : spec_l6Copy l = some l := by
  unfold spec_l6Copy
  rw [ap_eq (by simp <;> omega) (by simp <;> omega)]
  simp
theorem l6Add_tot (l : List Booking) (hl : l.length ≤ 100000) (b : Booking) : ∃ r, spec_l6Add l b = some r ∧ r.length = l.length + 1 := by
  unfold spec_l6Add
  obtain ⟨y, hy, k, rfl, hk⟩ := loopM_up (body := spec_l6Add_L1 l b) l.length (fun i s => s = (i : Int)) (fun y => ∃ k : Nat, y = .inl (k : Int) ∧ k ≤ l.length) (fun i s hi hs => by
    subst hs
    have hws := w64_succ (show i ≤ 1048576 by omega)
    obtain ⟨v, hv⟩ := l6Before_tot l[i] b
    show (∃ s', spec_l6Add_L1_b l b (i : Int) = some (.next s') ∧ _) ∨ (∃ t', spec_l6Add_L1_b l b (i : Int) = some (.brk t') ∧ _) ∨ _
    unfold spec_l6Add_L1_b
    simp only [Int.ofNat_lt, hi, decide_true, cond_true, gi_nat hi, Option.bind_some, hv, hws]
    cases v with
    | true => exact .inl ⟨_, rfl, rfl⟩
    | false => exact .inr (.inl ⟨_, rfl, i, rfl, by omega⟩)) (fun s hs => by
    subst hs
    refine .inl ⟨(l.length : Int), ?_, _, rfl, Nat.le_refl _⟩
    show spec_l6Add_L1_b l b (l.length : Int) = _
    simp [spec_l6Add_L1_b]) (0 : Int) rfl (show l.length < 1000000000000 by omega)
  rw [hy]
  simp only [Option.bind_some, spec_l6Add_L1_k, spec_l6Add_L1_a, slM_take l k hk, slM_drop l k hk]
  rw [l6Copy_eq _ (by simp <;> omega)]
  simp only [Option.bind_some]
  rw [ap_eq (by simp <;> omega) (by simp <;> omega)]
  simp only [Option.bind_some]
  rw [ap_eq (by simp <;> omega) (by simp <;> omega)]
  refine ⟨_, rfl, ?_⟩
  simp
  omega
theorem bookWay_tot (n : Network) (h : NetS n) (l : List Booking) (hl : l.length ≤ 1000) (th w : Int) (wy : List Trip) : ∃ r ok, spec_BookWay n l th w wy = some (r, ok) ∧ r.length ≤ l.length + 20 := by
  unfold spec_BookWay
  rw [l6Copy_eq l (by omega), spec_AreBookings_eq n h l (by omega)]
  simp only [Option.bind_some]
  cases bokB n l with
  | false => exact ⟨l, false, rfl, by omega⟩
  | true =>
  by_cases h1 : (wy.length : Int) > 20
  · exact ⟨l, false, by simp [h1], by omega⟩
  obtain ⟨y, hy, r, rfl, hr⟩ := loopM_up (body := spec_BookWay_L1 th w wy) wy.length (fun i s => s.2 = (i : Int) ∧ s.1.length = l.length + i) (fun y => ∃ r, y = .inl r ∧ r.length ≤ l.length + 20) (fun i s hi hs => by
    obtain ⟨s1, s2⟩ := s
    obtain ⟨e1, e2⟩ := hs
    simp only at e1 e2
    subst e1
    have hws := w64_succ (show i ≤ 1048576 by omega)
    obtain ⟨q, hq, hql⟩ := l6Add_tot s1 (by omega) (Booking.mk th wy[i] w)
    refine .inl ⟨(q, ((i + 1 : Nat) : Int)), ?_, rfl, by show q.length = _; omega⟩
    show spec_BookWay_L1_b th w wy s1 (i : Int) = _
    unfold spec_BookWay_L1_b
    simp only [Int.ofNat_lt, hi, decide_true, cond_true, gi_nat hi, Option.bind_some, hq, hws]) (fun s hs => by
    obtain ⟨s1, s2⟩ := s
    obtain ⟨e1, e2⟩ := hs
    simp only at e1 e2
    subst e1
    refine .inl ⟨s1, ?_, s1, rfl, by omega⟩
    show spec_BookWay_L1_b th w wy s1 (wy.length : Int) = _
    simp [spec_BookWay_L1_b]) (l, 0) ⟨rfl, rfl⟩ (show wy.length < 1000000000000 by omega)
  simp only [h1, Bool.not_true, decide_false, cond_false]
  rw [hy]
  simp only [Option.bind_some, spec_BookWay_L1_k, spec_BookWay_L1_a, spec_AreBookings_eq n h r (by omega)]
  cases bokB n r with
  | false => exact ⟨l, false, by simp [l6Copy_eq l (show l.length ≤ 1048576 by omega)], by omega⟩
  | true => exact ⟨r, true, rfl, hr⟩
theorem l4Of_ok2 {c : l1Cur} (h : CurOk c) {N : Nat} (hN : N ≤ 21) {n : Network} (hd : NetD N n) : ∃ v c', spec_l4Of c n = some (v, c') ∧ CurOk c' ∧ v.size = 3 :=
  l4Of_ok h ⟨hd.1, Nat.le_trans hd.2 hN, hd.3, hd.4⟩
theorem l6Draw_ok {c : l1Cur} (hc : CurOk c) {n : Network} (hd : NetD 18 n) (M : Int) (hM : 0 < M) (hM2 : M ≤ 9) : ∃ l c', spec_l6Draw c n M = some (l, c') ∧ CurOk c' ∧ l.length ≤ 200 := by
  have hS := hd.S (by omega)
  obtain ⟨v1, c1, e1, h1, b1, b2, _⟩ := l1Below_ok hc M
  have hb2 := b2 hM
  unfold spec_l6Draw
  rw [e1]
  simp only [Option.bind_some]
  obtain ⟨y, hy, c2, l, rfl, h2, hl⟩ := loopM_tot (body := spec_l6Draw_L1 n) (fun s => CurOk ⟨s.1, s.2.1, s.2.2.1⟩ ∧ 0 ≤ s.2.2.2.2 ∧ (s.2.2.2.1.length : Int) + 20 * s.2.2.2.2 ≤ 200) (fun s => s.2.2.2.2.toNat) (fun y => ∃ (c2 : l1Cur) (l : List Booking), y = .inl (c2.b, c2.i, c2.h, l) ∧ CurOk c2 ∧ l.length ≤ 200) (fun s hs => by
    obtain ⟨b, i, hh, l, k⟩ := s
    obtain ⟨hc, hk0, hlk⟩ := hs
    simp only at hc hk0 hlk
    show (∃ s', spec_l6Draw_L1_b n b i hh l k = some (.next s') ∧ _) ∨ (∃ t', spec_l6Draw_L1_b n b i hh l k = some (.brk t') ∧ _) ∨ _
    unfold spec_l6Draw_L1_b
    by_cases c0 : k > 0
    · obtain ⟨v13, c13, e13, h13, _⟩ := l1Below_ok hc 9000
      obtain ⟨v15, c15, e15, h15, _⟩ := l4Of_ok2 h13 (by omega) hd
      obtain ⟨v17, c17, e17, h17, _⟩ := l4Of_ok2 h15 (by omega) hd
      obtain ⟨v19, c19, e19, h19, _⟩ := l1Below_ok h17 100
      obtain ⟨wy, ok, e21, _⟩ := findRoom_tot n hS l (by omega) v15 v17 (w64 (60 * v19)) (w64 (1 + v13))
      obtain ⟨v23, c23, e23, h23, _⟩ := l1Below_ok h19 12
      obtain ⟨r, ok2, e25, hr⟩ := bookWay_tot n hS l (by omega) (w64 (1 + v23)) (w64 (1 + v13)) wy
      have hwk : w64 (k - 1) = k - 1 := w64_id (by omega) (by omega)
      refine .inl ⟨(c23.b, c23.i, c23.h, r, k - 1), by simp only [c0, decide_true, cond_true, e13, e15, e17, e19, e21, e23, e25, Option.bind_some, spec_l6Draw_j1, hwk], ⟨h23, ?_, ?_⟩, ?_⟩
      · show 0 ≤ k - 1; omega
      · show ((r.length : Nat) : Int) + 20 * (k - 1) ≤ 200; omega
      · show (k - 1).toNat < k.toNat; omega
    · exact .inr (.inl ⟨(b, i, hh, l), by simp [c0], ⟨b, i, hh⟩, l, rfl, hc, by omega⟩)) big (c1.b, c1.i, c1.h, ([] : List Booking), v1) ⟨h1, b1, by show ((0 : Nat) : Int) + 20 * v1 ≤ 200; omega⟩ (by show v1.toNat < big; unfold big; omega)
  rw [hy]
  exact ⟨l, c2, rfl, h2, hl⟩
theorem l6Any_ok {c : l1Cur} (hc : CurOk c) {n : Network} (hd : NetD 18 n) : ∃ l c', spec_l6Any c n = some (l, c') ∧ CurOk c' ∧ l.length ≤ 201 := by
  obtain ⟨l, c1, e1, h1, hl⟩ := l6Draw_ok hc hd 6 (by omega) (by omega)
  unfold spec_l6Any
  rw [e1]
  simp only [Option.bind_some]
  cases hz : ((l.length : Int) == 0) with
  | true => exact ⟨l, c1, rfl, h1, by omega⟩
  | false =>
  have hz' : ¬ (l.length : Int) = 0 := by simpa using hz
  obtain ⟨k, c2, e2, h2, k0, k1, _⟩ := l1Below_ok h1 (l.length : Int)
  have hk := k1 (by omega)
  obtain ⟨w, c3, e3, h3, _⟩ := l1Below_ok h2 9
  have hg := gi_eq k0 hk
  simp only [cond_false]
  rw [e2]; simp only [Option.bind_some]
  rw [e3]; simp only [Option.bind_some]
  rw [hg]; simp only [Option.bind_some]
  cases w == 0 with
  | true =>
    obtain ⟨v4, c4, e4, h4, _⟩ := l1Int_ok h3 ([0, 1, 60000, 1000001, (-1)] : List Int) (by simp)
    simp only [cond_true, e4, Option.bind_some]
    exact ⟨_, _, rfl, h4, by simp <;> omega⟩
  | false =>
  cases w == 1 with
  | true =>
    obtain ⟨v4, c4, e4, h4, _⟩ := l1Int_ok h3 ([0, 1, 9999, 10000] : List Int) (by simp)
    simp only [cond_true, cond_false, e4, Option.bind_some]
    exact ⟨_, _, rfl, h4, by simp <;> omega⟩
  | false =>
  cases w == 2 with
  | true =>
    simp only [cond_true, cond_false]
    exact ⟨_, _, rfl, h3, by simp <;> omega⟩
  | false =>
  cases w == 3 with
  | true =>
    have hap : ap 32 l ([l[k.toNat]'(by omega)] : List Booking) = some (l ++ [l[k.toNat]'(by omega)]) := ap_eq (by simp <;> omega) (by simp <;> omega)
    simp only [cond_true, cond_false, hap, Option.bind_some]
    exact ⟨_, _, rfl, h3, by simp <;> omega⟩
  | false =>
  cases w == 4 with
  | true =>
    obtain ⟨v4, c4, e4, h4, _⟩ := l1Int_ok h3 ([(-1), (n.Legs.length : Int), 0] : List Int) (by simp)
    simp only [cond_true, cond_false, e4, Option.bind_some]
    exact ⟨_, _, rfl, h4, by simp <;> omega⟩
  | false =>
    simp only [cond_false]
    exact ⟨_, _, rfl, h3, by omega⟩
theorem each_load (t : Trip) : ∀ (l : List Booking) (i : Nat) (x : Int), 0 ≤ x → x + 1000000 * (l.length : Int) ≤ 4000000000000000000 → (∀ b ∈ l, 1 ≤ b.Weight ∧ b.Weight ≤ 1000000) →
    ∃ y, each (X := Int) (R := Int) (fun _ b x => .inl (bif decide (b.Trip = t) then w64 (x + b.Weight) else x)) i l x = .inl y ∧ x ≤ y ∧ ((∃ b ∈ l, b.Trip = t) → x < y)
  | [], i, x, h0, h1, hw => ⟨x, rfl, Int.le_refl _, fun ⟨b, hb, _⟩ => by cases hb⟩
  | b :: l, i, x, h0, h1, hw => by
    have hb := hw b (by simp)
    have hlen : ((b :: l).length : Int) = (l.length : Int) + 1 := by simp
    rw [hlen] at h1
    by_cases hbt : b.Trip = t
    · have hws : w64 (x + b.Weight) = x + b.Weight := w64_id (by omega) (by omega)
      obtain ⟨y, e, hy, _⟩ := each_load t l (i + 1) (x + b.Weight) (by omega) (by omega) (fun q hq => hw q (by simp [hq]))
      refine ⟨y, ?_, by omega, fun _ => by omega⟩
      simp only [each, hbt, decide_true, cond_true, hws]
      exact e
    · obtain ⟨y, e, hy, hy2⟩ := each_load t l (i + 1) x h0 (by omega) (fun q hq => hw q (by simp [hq]))
      refine ⟨y, ?_, hy, fun ⟨q, hq, hqt⟩ => ?_⟩
      · simp only [each, hbt, decide_false, cond_false]
        exact e
      · rcases List.mem_cons.1 hq with rfl | hq
        · exact absurd hqt hbt
        · exact hy2 ⟨q, hq, hqt⟩
theorem bok_weights {n : Network} {l : List Booking} (h : bokB n l = true) : l.length ≤ 120 ∧ ∀ b ∈ l, 1 ≤ b.Weight ∧ b.Weight ≤ 1000000 := by
  simp only [bokB, Bool.and_eq_true, decide_eq_true_eq] at h
  refine ⟨h.1.1.2, fun b hb => ?_⟩
  obtain ⟨j, hj, rfl⟩ := List.getElem_of_mem hb
  have := allI_iff.1 h.1.2 j hj
  simp only [basB, Bool.and_eq_true, inB, decide_eq_true_eq] at this
  exact this.1.2
theorem load_pos {n : Network} {l : List Booking} (h : bokB n l = true) {b : Booking} (hb : b ∈ l) : 0 < ldW l b.Trip := by
  obtain ⟨h1, h2⟩ := bok_weights h
  obtain ⟨y, e, _, hy⟩ := each_load b.Trip l 0 0 (Int.le_refl _) (by omega) h2
  unfold ldW ldE
  rw [e]
  exact hy ⟨b, hb, rfl⟩
theorem rides_eq (l : List Trip) (t : Trip) (hl : l.length ≤ 1048576) : laws_rides l t = some (l.any fun x => decide (x = t)) := (rfl : laws_rides l t = spec_l6Closed l t).trans (closed_eq l t hl)
end Go.Sx
end
