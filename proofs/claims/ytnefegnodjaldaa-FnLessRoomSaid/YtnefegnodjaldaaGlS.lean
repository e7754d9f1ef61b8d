/- Helpers and networks: what the functions of the program compute, as plain laws. -/
import Derived.Test.YtnefegnodjaldaaGlX
import Derived.Test.YtnefegnodjaldaaGlW3
import Derived.Test.YtnefegnodjaldaaSxW
namespace Go.Sx
set_option linter.unusedVariables false

/-- the load of a trip, as it is counted -/
def ldE (l : List Booking) (t : Trip) : Int ⊕ Int := each (X := Int) (R := Int) (fun _ b x => .inl (bif decide (b.Trip = t) then w64 (x + b.Weight) else x)) 0 l 0
def ldW (l : List Booking) (t : Trip) : Int := match ldE l t with | .inl x => x | .inr x => x
def whoV (l : List Booking) (t : Trip) : List Int := (l.filter fun b => decide (b.Trip = t)).map (·.Thing)
theorem fil_le {α β : Type} (l : List α) (p : α → Bool) (f : α → β) : ((l.filter p).map f).length ≤ l.length := by simpa using List.length_filter_le p l
def tofV (l : List Booking) (th : Int) : List Trip := (l.filter fun b => b.Thing == th).map (·.Trip)
/-- the order of bookings -/
def befB (a b : Booking) : Bool := if a.Trip.Day ≠ b.Trip.Day then decide (a.Trip.Day < b.Trip.Day) else if a.Trip.Leg ≠ b.Trip.Leg then decide (a.Trip.Leg < b.Trip.Leg) else decide (a.Thing < b.Thing)
def cmpI (a b : Int) : Int := if a < b then -1 else if a > b then 1 else 0
def fst0 : List Int → Int
  | [] => 0
  | a :: l => if a ≠ 0 then a else fst0 l
def cmpB (a b : Booking) : Int := fst0 [cmpI a.Trip.Day b.Trip.Day, cmpI a.Trip.Leg b.Trip.Leg, cmpI a.Thing b.Thing]
theorem cmpB_neg (a b : Booking) : (cmpB a b < 0) = (befB a b = true) := by
  unfold cmpB befB cmpI
  simp only [fst0]
  rw [eq_iff_iff]
  repeat' split
  all_goals simp at *
  all_goals omega
/-- right, but for the load -/
def basB (n : Network) (l : List Booking) (i : Nat) (b : Booking) : Bool := runB n b.Trip.Leg b.Trip.Day && inB b.Thing 1 9999 && inB b.Weight 1 1000000 && (decide (i = 0) || befB (l[i - 1]?.getD default) b)
def lodB (n : Network) (l : List Booking) (b : Booking) : Bool := decide (ldW l b.Trip ≤ (legA n b.Trip.Leg).Room)
def bokB (n : Network) (l : List Booking) : Bool := netB n && decide (l.length ≤ 120) && allI (basB n l) 0 l && l.all (lodB n l)
theorem bok_trip {n : Network} {l : List Booking} (h : bokB n l = true) {b : Booking} (hb : b ∈ l) : tripB n b.Trip = true := by
  simp only [bokB, Bool.and_eq_true] at h
  obtain ⟨j, hj, rfl⟩ := List.getElem_of_mem hb
  have := allI_iff.1 h.1.2 j hj
  simp only [basB, Bool.and_eq_true] at this
  simp [tripB, h.1.1.1, this.1.1.1]
def spaV (n : Network) (l : List Booking) (t : Trip) : Int := if bokB n l && tripB n t then w64 ((legA n t.Leg).Room - ldW l t) else -1
def filV (n : Network) (l : List Booking) (t : Trip) : Int := if bokB n l && tripB n t then (if (legA n t.Leg).Room = 0 then 0 else w64 (Int.tdiv (w64 (100 * ldW l t)) (legA n t.Leg).Room)) else -1
def rdF (n : Network) (th at0 : Int) (b : Booking) : Bool := (b.Thing == th) && decide (stT n b.Trip ≤ at0) && decide (at0 < enT n b.Trip)
def ridV (n : Network) (l : List Booking) (th at0 : Int) : Trip × Bool := if bokB n l then (match l.find? (rdF n th at0) with | some b => (b.Trip, true) | none => (⟨0, 0⟩, false)) else (⟨0, 0⟩, false)
theorem each_find {α R : Type} (p : α → Bool) (r : α → R) (l : List α) (i : Nat) : each (X := Unit) (fun _ a _ => bif p a then .inr (r a) else .inl ()) i l () = match l.find? p with | some a => .inr (r a) | none => .inl () := by
  induction l generalizing i with
  | nil => rfl
  | cons a l ih =>
    rw [each]
    cases h : p a with
    | true => simp [h]
    | false => simpa [h] using ih (i + 1)
/-- is there room on this day? -/
def freB (n : Network) (l : List Booking) (c : List Trip) (leg at0 w : Int) (d : Nat) : Bool :=
  runB n leg d && decide (stT n ⟨leg, d⟩ ≥ at0) && !(c.any fun x => decide (x = ⟨leg, d⟩)) && decide (w64 ((legA n leg).Room - ldW l ⟨leg, d⟩) ≥ w)
theorem range61 {i : Nat} (h : i < (List.range 61).length) : (List.range 61)[i] = i := by simp
def nfrV (n : Network) (l : List Booking) (c : List Trip) (leg at0 w : Int) : Trip × Bool :=
  if bokB n l = true ∧ ¬ w < 1 then (match (List.range 61).find? (freB n l c leg at0 w) with | some d => (⟨leg, d⟩, true) | none => (⟨0, 0⟩, false)) else (⟨0, 0⟩, false)
theorem bok_net {n : Network} {l : List Booking} (h : bokB n l = true) : netB n = true := by
  simp only [bokB, Bool.and_eq_true] at h
  exact h.1.1.1
/-- does a booking stay? -/
def kepB (n : Network) (th at0 : Int) (b : Booking) : Bool := b.Thing != th || decide (stT n b.Trip < at0)
def drpV (n : Network) (l : List Booking) (th at0 : Int) : List Booking := if bokB n l = true then l.filter (kepB n th at0) else l
theorem drp_len (n : Network) (l : List Booking) (th at0 : Int) : (drpV n l th at0).length ≤ l.length := by
  unfold drpV
  split
  · exact List.length_filter_le _ _
  · exact Nat.le_refl _
/-- a loop that turns a row, whatever it writes -/
theorem mark_any {α ρ : Type} {body : List α × Int × Int → Option (Ctl (List α × Int × Int) (List α × Int) ρ)} (a0 : List α) (k0 c : Int) (hl : a0.length ≤ 1048576)
    (h : ∀ i (l : List α), i < a0.length → l.length = a0.length → ∃ l2 : List α, l2.length = a0.length ∧ body (l, k0 + c * i, (i : Int)) = some (.next (l2, k0 + c * (i + 1 : Nat), ((i + 1 : Nat) : Int))))
    (he : ∀ l : List α, l.length = a0.length → body (l, k0 + c * a0.length, (a0.length : Int)) = some (.brk (l, k0 + c * a0.length))) :
    ∃ l', loopM body big (a0, k0, 0) = some (.inl (l', k0 + c * a0.length)) := by
  refine (loopM_up (body := body) a0.length (fun i s => s.2.1 = k0 + c * i ∧ s.2.2 = (i : Int) ∧ s.1.length = a0.length) (fun x => ∃ l', x = .inl (l', k0 + c * a0.length)) (fun i s hi hs => ?_) (fun s hs => ?_) (a0, k0, 0) ⟨by simp, rfl, rfl⟩ (big_pos hl)).elim fun x hx => ?_
  · obtain ⟨l, k, j⟩ := s
    obtain ⟨h1, h2, h3⟩ := hs
    simp only at h1 h2 h3
    subst h1 h2
    obtain ⟨l2, h4, h5⟩ := h i l hi h3
    exact .inl ⟨_, h5, rfl, rfl, h4⟩
  · obtain ⟨l, k, j⟩ := s
    obtain ⟨h1, h2, h3⟩ := hs
    simp only at h1 h2 h3
    subst h1 h2
    exact .inl ⟨_, he l h3, l, rfl⟩
  · obtain ⟨h1, l', rfl⟩ := hx
    exact ⟨l', h1⟩
end Go.Sx
