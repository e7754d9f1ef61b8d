/- Bookings: what the functions of the program compute, as plain laws. -/
import Derived.Test.YtpgpgangmkjhlaaGsT
namespace Go.Sx
set_option linter.unusedVariables false

/-- the load of a trip, as it is counted -/
def ldE (l : List Booking) (t : Trip) : Int ⊕ Int := each (X := Int) (R := Int) (fun _ b x => .inl (bif decide (b.Trip = t) then w64 (x + b.Weight) else x)) 0 l 0
def ldW (l : List Booking) (t : Trip) : Int := match ldE l t with | .inl x => x | .inr x => x
theorem spec_LoadOf_eq (l : List Booking) (t : Trip) (hl : l.length ≤ 1048576) : spec_LoadOf l t = some (ldW l t) := by
  unfold spec_LoadOf
  have h1 := loopM_each' (body := spec_LoadOf_L1 l t) (X := Int) l (fun x i => (x, i)) (fun _ b x => .inl (bif decide (b.Trip = t) then w64 (x + b.Weight) else x)) (fun x => x) 0 (fun i hi x => by
    simp only [spec_LoadOf_L1, spec_LoadOf_L1_b, gi_nat hi, Option.bind_some, Int.ofNat_lt, hi, decide_true, cond_true, w64_succ (Nat.le_of_lt (Nat.lt_of_lt_of_le hi hl))]
    cases decide (l[i].Trip = t) <;> simp [ctl]) (fun x => by simp [spec_LoadOf_L1, spec_LoadOf_L1_b]) hl
  rw [h1]
  unfold ldW ldE
  generalize each (X := Int) (R := Int) (fun _ b x => .inl (bif decide (b.Trip = t) then w64 (x + b.Weight) else x)) 0 l 0 = y
  cases y <;> simp [fin, spec_LoadOf_L1_k, spec_LoadOf_L1_a]
theorem impl_LoadOf_eq (l : List Booking) (t : Trip) (hl : l.length ≤ 1048576) : impl_LoadOf l t = some (ldW l t) := by
  unfold impl_LoadOf
  have h1 := loopM_each' (body := impl_LoadOf_L1 l t) (X := Int) l (fun x i => (x, i)) (fun _ b x => .inl (bif decide (b.Trip = t) then w64 (x + b.Weight) else x)) (fun x => x) 0 (fun i hi x => by
    simp only [impl_LoadOf_L1, impl_LoadOf_L1_b, gi_nat hi, Option.bind_some, Int.ofNat_lt, hi, decide_true, cond_true, w64_succ (Nat.le_of_lt (Nat.lt_of_lt_of_le hi hl))]
    cases decide (l[i].Trip = t) <;> simp [ctl]) (fun x => by simp [impl_LoadOf_L1, impl_LoadOf_L1_b]) hl
  rw [h1]
  unfold ldW ldE
  generalize each (X := Int) (R := Int) (fun _ b x => .inl (bif decide (b.Trip = t) then w64 (x + b.Weight) else x)) 0 l 0 = y
  cases y <;> simp [fin, impl_LoadOf_L1_k, impl_LoadOf_L1_a]
def whoV (l : List Booking) (t : Trip) : List Int := (l.filter fun b => decide (b.Trip = t)).map (·.Thing)
theorem fil_le {α β : Type} (l : List α) (p : α → Bool) (f : α → β) : ((l.filter p).map f).length ≤ l.length := by simpa using List.length_filter_le p l
def tofV (l : List Booking) (th : Int) : List Trip := (l.filter fun b => b.Thing == th).map (·.Trip)
/-- the order of bookings -/
def befB (a b : Booking) : Bool := if a.Trip.Day ≠ b.Trip.Day then decide (a.Trip.Day < b.Trip.Day) else if a.Trip.Leg ≠ b.Trip.Leg then decide (a.Trip.Leg < b.Trip.Leg) else decide (a.Thing < b.Thing)
theorem before_eq (a b : Booking) : spec_l6Before a b = some (befB a b) := by
  unfold spec_l6Before befB
  simp only [bneI]
  by_cases h1 : a.Trip.Day = b.Trip.Day <;> by_cases h2 : a.Trip.Leg = b.Trip.Leg <;> simp [h1, h2]
def cmpI (a b : Int) : Int := if a < b then -1 else if a > b then 1 else 0
theorem compareInts_eq (a b : Int) : impl_compareInts a b = some (cmpI a b) := by
  unfold impl_compareInts cmpI
  by_cases h1 : a < b
  · simp [h1]
  · by_cases h2 : a > b <;> simp [h1, h2]
def fst0 : List Int → Int
  | [] => 0
  | a :: l => if a ≠ 0 then a else fst0 l
theorem first_eq (l : List Int) (hl : l.length ≤ 1048576) : impl_first l = some (fst0 l) := by
  unfold impl_first
  have := loopM_each' (body := impl_first_L1 l) (X := Unit) l (fun _ i => i) (fun _ t _ => bif t != 0 then .inr t else .inl ()) (fun x => x) () (fun i hi y => by
    simp only [impl_first_L1, impl_first_L1_b, gi_nat hi, Option.bind_some, Int.ofNat_lt, hi, decide_true, cond_true, w64_succ (Nat.le_of_lt (Nat.lt_of_lt_of_le hi hl))]
    cases l[i] != 0 <;> simp [ctl]) (fun x => by simp [impl_first_L1, impl_first_L1_b]) hl
  have key : ∀ (l : List Int) (i : Nat), each (X := Unit) (R := Int) (fun _ t _ => bif t != 0 then .inr t else .inl ()) i l () = if fst0 l ≠ 0 then .inr (fst0 l) else .inl () := by
    intro l
    induction l with
    | nil => intro i; rfl
    | cons a l ih =>
      intro i
      rw [each, fst0]
      by_cases ha : a = 0
      · subst ha; simpa [bneI] using ih (i + 1)
      · simp [bneI, ha]
  rw [this, key]
  by_cases h0 : fst0 l = 0
  · simp [h0, fin, impl_first_L1_k, impl_first_L1_a]
  · simp [h0, fin, impl_first_L1_k]
def cmpB (a b : Booking) : Int := fst0 [cmpI a.Trip.Day b.Trip.Day, cmpI a.Trip.Leg b.Trip.Leg, cmpI a.Thing b.Thing]
theorem compareBookings_eq (a b : Booking) : impl_compareBookings a b = some (cmpB a b) := by
  unfold impl_compareBookings
  simp only [compareInts_eq, Option.bind_some, first_eq _ (show [cmpI a.Trip.Day b.Trip.Day, cmpI a.Trip.Leg b.Trip.Leg, cmpI a.Thing b.Thing].length ≤ 1048576 by simp)]
  rfl
theorem cmpB_neg (a b : Booking) : (cmpB a b < 0) = (befB a b = true) := by
  unfold cmpB befB cmpI
  simp only [fst0]
  rw [eq_iff_iff]
  repeat' split
  all_goals simp at *
  all_goals omega
/-- right, but for the load -/
def basB (n : Network) (l : List Booking) (i : Nat) (b : Booking) : Bool := runB n b.Trip.Leg b.Trip.Day && inB b.Thing 1 9999 && inB b.Weight 1 1000000 && (decide (i = 0) || befB (l[i - 1]?.getD default) b)
def lodB (n : Network) (l : List Booking) (b : Booking) : Bool := decide (ldW l b.Trip ≤ (legA n b.Trip.Leg).Room)
def bokB (n : Network) (l : List Booking) : Bool := netB n && decide (l.length ≤ 120) && allI (basB n l) 0 l && l.all (lodB n l)
theorem spec_AreBookings_eq (n : Network) (h : NetS n) (l : List Booking) (hl : l.length ≤ 1048576) : spec_AreBookings n l = some (bokB n l) := by
  unfold spec_AreBookings bokB
  rw [spec_IsNetwork_eq n h]
  cases hn : netB n with
  | false => simp
  | true =>
    by_cases h120 : l.length ≤ 120
    · simp only [Option.bind_some, Bool.not_true, cond_false, show ¬ (l.length : Int) > 120 by omega, decide_false, h120, decide_true, Bool.true_and]
      have h1 := loopM_each' (body := spec_AreBookings_L1 n l) (X := Unit) l (fun _ i => i) (fun i t _ => bif basB n l i t then .inl () else .inr false) (fun x => x) () (fun i hi x => by
        simp only [spec_AreBookings_L1, spec_AreBookings_L1_b, gi_nat hi, Option.bind_some, Int.ofNat_lt, hi, decide_true, cond_true, w64_succ (Nat.le_of_lt (Nat.lt_of_lt_of_le hi hl)), spec_runs_eq n h, l1In_eq, basB]
        generalize hv : l[i] = v
        cases runB n v.Trip.Leg v.Trip.Day <;> simp [ctl]
        cases inB v.Thing 1 9999 <;> simp
        cases inB v.Weight 1 1000000 <;> simp
        rcases Nat.eq_zero_or_pos i with h0 | h0
        · subst h0; simp
        · have hp : gi l (w64 ((i : Int) - 1)) = some (l[i - 1]?.getD default) := by
            rw [w64_id (by omega) (by omega), show ((i : Int) - 1) = ((i - 1 : Nat) : Int) by omega, gi_nat (by omega : i - 1 < l.length)]
            simp [show i - 1 < l.length by omega]
          simp only [h0, decide_true, cond_true, hp, Option.bind_some, before_eq, show ¬ i = 0 by omega, decide_false, Bool.false_or]
          cases befB (l[i - 1]?.getD default) v <;> simp) (fun x => by simp [spec_AreBookings_L1, spec_AreBookings_L1_b]) hl
      rw [each_all (basB n l)] at h1
      rw [h1]
      cases hb : allI (basB n l) 0 l with
      | false => simp [fin, spec_AreBookings_L1_k]
      | true =>
        have hrun : ∀ i (hi : i < l.length), 0 ≤ l[i].Trip.Leg ∧ l[i].Trip.Leg < n.Legs.length := fun i hi => by
          have := allI_iff.1 hb i hi
          simp only [basB, runB, Bool.and_eq_true, decide_eq_true_eq] at this
          exact this.1.1.1.1.1.1
        have h2 := loopM_each' (body := spec_AreBookings_L2 n l) (X := Unit) l (fun _ i => i) (fun _ t _ => bif lodB n l t then .inl () else .inr false) (fun x => x) () (fun i hi x => by
          have hr := hrun i hi
          simp only [spec_AreBookings_L2, spec_AreBookings_L2_b, gi_nat hi, Option.bind_some, Int.ofNat_lt, hi, decide_true, cond_true, w64_succ (Nat.le_of_lt (Nat.lt_of_lt_of_le hi hl)), spec_LoadOf_eq l _ hl, gi_leg hr.1 hr.2, lodB]
          by_cases hc : ldW l l[i].Trip ≤ (legA n l[i].Trip.Leg).Room
          · simp [hc, ctl, show ¬ (legA n l[i].Trip.Leg).Room < ldW l l[i].Trip by omega]
          · simp [hc, ctl, show (legA n l[i].Trip.Leg).Room < ldW l l[i].Trip by omega]) (fun x => by simp [spec_AreBookings_L2, spec_AreBookings_L2_b]) hl
        rw [each_allP (lodB n l)] at h2
        simp only [cond_true, fin, Option.bind_some, spec_AreBookings_L1_k, spec_AreBookings_L1_a, h2, Bool.true_and]
        cases l.all (lodB n l) <;> simp [fin, spec_AreBookings_L2_k, spec_AreBookings_L2_a]
    · simp [h120, show (l.length : Int) > 120 by omega]
theorem impl_AreBookings_eq (n : Network) (h : NetS n) (l : List Booking) (hl : l.length ≤ 1048576) : impl_AreBookings n l = some (bokB n l) := by
  unfold impl_AreBookings bokB
  rw [impl_IsNetwork_eq n h]
  cases hn : netB n with
  | false => simp
  | true =>
    by_cases h120 : l.length ≤ 120
    · simp only [Option.bind_some, Bool.not_true, cond_false, show ¬ (l.length : Int) > 120 by omega, decide_false, h120, decide_true, Bool.true_and]
      have h1 := loopM_each' (body := impl_AreBookings_L1 n l) (X := Unit) l (fun _ i => i) (fun i t _ => bif basB n l i t && lodB n l t then .inl () else .inr false) (fun x => x) () (fun i hi x => by
        simp only [impl_AreBookings_L1, impl_AreBookings_L1_b, gi_nat hi, Option.bind_some, Int.ofNat_lt, hi, decide_true, cond_true, w64_succ (Nat.le_of_lt (Nat.lt_of_lt_of_le hi hl)), impl_IsTrip_eq n h, within_eq, basB, impl_LoadOf_eq l _ hl]
        generalize hv : l[i] = v
        have tail : (Option.some (tripB n v.Trip)).bind (fun v15 => bif (!v15) then some (Ctl.ret (σ := Int) (τ := Unit) false) else (Option.some (inB v.Thing 1 9999)).bind fun v18 => bif (!v18) then some (.ret false) else (Option.some (inB v.Weight 1 1000000)).bind fun v21 => bif (!v21) then some (.ret false) else (Option.some (ldW l v.Trip)).bind fun v24 => (gi n.Legs v.Trip.Leg).bind fun v26 => bif (decide (v24 > v26.Room)) then some (.ret false) else some (.next ((i + 1 : Nat) : Int))) =
            some (bif (runB n v.Trip.Leg v.Trip.Day && inB v.Thing 1 9999 && inB v.Weight 1 1000000) && lodB n l v then .next ((i + 1 : Nat) : Int) else .ret false) := by
          have ht : tripB n v.Trip = runB n v.Trip.Leg v.Trip.Day := by simp [tripB, hn]
          cases hr : tripB n v.Trip with
          | false => rw [ht] at hr; simp [hr]
          | true =>
            obtain ⟨_, t1, t2, _⟩ := trip_in hr
            rw [ht] at hr
            cases inB v.Thing 1 9999 <;> simp [hr]
            cases inB v.Weight 1 1000000 <;> simp
            rw [gi_leg t1 t2]
            simp only [Option.bind_some, lodB]
            by_cases hc : ldW l v.Trip ≤ (legA n v.Trip.Leg).Room
            · simp [hc, show ¬ (legA n v.Trip.Leg).Room < ldW l v.Trip by omega]
            · simp [hc, show (legA n v.Trip.Leg).Room < ldW l v.Trip by omega]
        simp only [Option.bind_some] at tail
        rcases Nat.eq_zero_or_pos i with h0 | h0
        · subst h0
          simp only [show ¬ ((0 : Nat) : Int) > 0 by simp, decide_false, cond_false, decide_true, Bool.true_or, Bool.and_true]
          rw [tail]
          cases (runB n v.Trip.Leg v.Trip.Day && inB v.Thing 1 9999 && inB v.Weight 1 1000000) && lodB n l v <;> rfl
        · have hp : gi l (w64 ((i : Int) - 1)) = some (l[i - 1]?.getD default) := by
            rw [w64_id (by omega) (by omega), show ((i : Int) - 1) = ((i - 1 : Nat) : Int) by omega, gi_nat (by omega : i - 1 < l.length)]
            simp [show i - 1 < l.length by omega]
          simp only [show (i : Int) > 0 by omega, decide_true, cond_true, hp, Option.bind_some, compareBookings_eq, show ¬ i = 0 by omega, decide_false, Bool.false_or]
          rw [tail]
          have hcm := cmpB_neg (l[i - 1]?.getD default) v
          cases hbf : befB (l[i - 1]?.getD default) v with
          | false =>
            rw [hbf] at hcm
            have : cmpB (l[i - 1]?.getD default) v ≥ 0 := by
              have := hcm.mp
              apply Classical.byContradiction
              intro hx
              have := hcm.mp (by omega)
              cases this
            simp [this, ctl]
          | true =>
            rw [hbf] at hcm
            have : ¬ cmpB (l[i - 1]?.getD default) v ≥ 0 := by
              have := hcm.mpr rfl
              omega
            simp only [this, decide_false, cond_false, Bool.and_true]
            cases (runB n v.Trip.Leg v.Trip.Day && inB v.Thing 1 9999 && inB v.Weight 1 1000000) && lodB n l v <;> rfl) (fun x => by simp [impl_AreBookings_L1, impl_AreBookings_L1_b]) hl
      rw [each_all (fun i t => basB n l i t && lodB n l t)] at h1
      rw [h1]
      have hsp : allI (fun i t => basB n l i t && lodB n l t) 0 l = (allI (basB n l) 0 l && l.all (lodB n l)) := by
        rw [Bool.eq_iff_iff]
        simp only [Bool.and_eq_true, allI_iff, List.all_eq_true]
        constructor
        · intro H
          refine ⟨fun j hj => (H j hj).1, fun b hb => ?_⟩
          obtain ⟨j, hj, rfl⟩ := List.getElem_of_mem hb
          exact (H j hj).2
        · rintro ⟨H1, H2⟩ j hj
          exact ⟨H1 j hj, H2 _ (List.getElem_mem hj)⟩
      rw [hsp]
      cases allI (basB n l) 0 l && l.all (lodB n l) <;> simp [fin, impl_AreBookings_L1_k, impl_AreBookings_L1_a]
    · simp [h120, show (l.length : Int) > 120 by omega]
theorem bok_trip {n : Network} {l : List Booking} (h : bokB n l = true) {b : Booking} (hb : b ∈ l) : tripB n b.Trip = true := by
  simp only [bokB, Bool.and_eq_true] at h
  obtain ⟨j, hj, rfl⟩ := List.getElem_of_mem hb
  have := allI_iff.1 h.1.2 j hj
  simp only [basB, Bool.and_eq_true] at this
  simp [tripB, h.1.1.1, this.1.1.1]
def spaV (n : Network) (l : List Booking) (t : Trip) : Int := if bokB n l && tripB n t then w64 ((legA n t.Leg).Room - ldW l t) else -1
def filV (n : Network) (l : List Booking) (t : Trip) : Int := if bokB n l && tripB n t then (if (legA n t.Leg).Room = 0 then 0 else w64 (Int.tdiv (w64 (100 * ldW l t)) (legA n t.Leg).Room)) else -1
def rdF (n : Network) (th at0 : Int) (b : Booking) : Bool := (b.Thing == th) && decide (stT n b.Trip ≤ at0) && decide (at0 < enT n b.Trip)
def ridV (n : Network) (l : List Booking) (th at0 : Int) : Trip × Bool := if bokB n l then (match l.find? (rdF n th at0) with | some b => (b.Trip, true) | none => (⟨0, 0⟩, false)) else (⟨0, 0⟩, false)
theorem each_find {α R : Type} (p : α → Bool) (r : α → R) (l : List α) (i : Nat) : each (X := Unit) (fun _ a _ => bif p a then .inr (r a) else .inl ()) i l () = match l.find? p with | some a => .inr (r a) | none => .inl () := by
  induction l generalizing i with
  | nil => rfl
  | cons a l ih =>
    rw [each]
    cases h : p a with
    | true => simp [h]
    | false => simpa [h] using ih (i + 1)
end Go.Sx
