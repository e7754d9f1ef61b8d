/- The exact laws over networks, ways and bookings: they answer true. -/
import Derived.Test.YtgpdelkcedmghaaGxU
namespace Go.Sx
set_option linter.unusedVariables false

theorem FnExactMax_true (a b : Int) : laws_FnExactMax a b = some true := by
  unfold laws_FnExactMax spec_Max impl_Max
  by_cases h : b > a <;> simp [h]
theorem FnExactLoadOf_true (l : List Booking) (t : Trip) (h0 : l.length ≤ maxLen) : laws_FnExactLoadOf l t = some true := by
  unfold laws_FnExactLoadOf
  obtain ⟨v, hv, hc⟩ := szBookingS_le l 1048576 (by omega) (by omega) h0
  rw [hv]
  by_cases hn : v < 0
  · simp [hn]
  have hl := (hc.resolve_left hn).1
  simp [hn, toBookingS_eq l hl, laws_toTrip, spec_LoadOf_eq l t hl, impl_LoadOf_eq l t hl, eqBookingS_refl l hl]
theorem FnExactWhoRides_true (l : List Booking) (t : Trip) (h0 : l.length ≤ maxLen) : laws_FnExactWhoRides l t = some true := by
  unfold laws_FnExactWhoRides
  obtain ⟨v, hv, hc⟩ := szBookingS_le l 1048576 (by omega) (by omega) h0
  rw [hv]
  by_cases hn : v < 0
  · simp [hn]
  have hl := (hc.resolve_left hn).1
  have hr : (whoV l t).length ≤ 1048576 := Nat.le_trans (fil_le _ _ _) hl
  obtain ⟨c1, m1, n1, e1⟩ := markBookingS_eq l hl
  obtain ⟨c2, m2, n2, e2, e3⟩ := markIntS_eq (whoV l t) hr
  simp [hn, toBookingS_eq l hl, laws_toTrip, spec_WhoRides_eq l t hl, impl_WhoRides_eq l t hl, eqBookingS_refl l hl, eqIntS_refl _ hr, e1, e2, e3, n1, n2]
theorem FnExactTripsOf_true (l : List Booking) (t : Int) (h0 : l.length ≤ maxLen) : laws_FnExactTripsOf l t = some true := by
  unfold laws_FnExactTripsOf
  obtain ⟨v, hv, hc⟩ := szBookingS_le l 1048576 (by omega) (by omega) h0
  rw [hv]
  by_cases hn : v < 0
  · simp [hn]
  have hl := (hc.resolve_left hn).1
  have hr : (tofV l t).length ≤ 1048576 := Nat.le_trans (fil_le _ _ _) hl
  obtain ⟨c1, m1, n1, e1⟩ := markBookingS_eq l hl
  obtain ⟨c2, m2, n2, e2, e3⟩ := markTripS_eq (tofV l t) hr
  simp [hn, toBookingS_eq l hl, spec_TripsOf_eq l t hl, impl_TripsOf_eq l t hl, eqBookingS_refl l hl, eqTripS_refl _ hr, e1, e2, e3, n1, n2]
theorem FnExactWayEnds_true (n : Network) (w : List Trip) (at0 : Int) (hN : NetIn n) (h0 : w.length ≤ maxLen) : laws_FnExactWayEnds n w at0 = some true := by
  unfold laws_FnExactWayEnds
  obtain ⟨v, hv, hc⟩ := szNetwork_le n hN
  rw [hv]
  by_cases hn : v < 0
  · simp [hn]
  obtain ⟨hS, hv1⟩ := hc.resolve_left hn
  obtain ⟨u, hu, hd⟩ := szTripS_le w v (by omega) hv1 h0
  by_cases hm : u < 0
  · simp [hn, hu, hm]
  have hw := (hd.resolve_left hm).1
  obtain ⟨r, r1, r2⟩ := WayEnds_eq n hS w hw at0
  simp [hn, hu, hm, toNetwork_eq n hS, toTripS_eq w hw, r1, r2, eqNetwork_refl n hS, eqTripS_refl w hw]
theorem FnExactSlackOf_true (n : Network) (w : List Trip) (hN : NetIn n) (h0 : w.length ≤ maxLen) : laws_FnExactSlackOf n w = some true := by
  unfold laws_FnExactSlackOf
  obtain ⟨v, hv, hc⟩ := szNetwork_le n hN
  rw [hv]
  by_cases hn : v < 0
  · simp [hn]
  obtain ⟨hS, hv1⟩ := hc.resolve_left hn
  obtain ⟨u, hu, hd⟩ := szTripS_le w v (by omega) hv1 h0
  by_cases hm : u < 0
  · simp [hn, hu, hm]
  have hw := (hd.resolve_left hm).1
  obtain ⟨r, r1, r2⟩ := SlackOf_eq n hS w hw
  simp [hn, hu, hm, toNetwork_eq n hS, toTripS_eq w hw, r1, r2, eqNetwork_refl n hS, eqTripS_refl w hw]
theorem FnExactAreBookings_true (n : Network) (l : List Booking) (hN : NetIn n) (h0 : l.length ≤ maxLen) : laws_FnExactAreBookings n l = some true := by
  unfold laws_FnExactAreBookings
  obtain ⟨v, hv, hc⟩ := szNetwork_le n hN
  rw [hv]
  by_cases hn : v < 0
  · simp [hn]
  obtain ⟨hS, hv1⟩ := hc.resolve_left hn
  obtain ⟨u, hu, hd⟩ := szBookingS_le l v (by omega) hv1 h0
  by_cases hm : u < 0
  · simp [hn, hu, hm]
  have hl := (hd.resolve_left hm).1
  simp [hn, hu, hm, toNetwork_eq n hS, toBookingS_eq l hl, spec_AreBookings_eq n hS l hl, impl_AreBookings_eq n hS l hl, eqNetwork_refl n hS, eqBookingS_refl l hl]
theorem FnExactSpareOn_true (n : Network) (l : List Booking) (t : Trip) (hN : NetIn n) (h0 : l.length ≤ maxLen) : laws_FnExactSpareOn n l t = some true := by
  unfold laws_FnExactSpareOn
  obtain ⟨v, hv, hc⟩ := szNetwork_le n hN
  rw [hv]
  by_cases hn : v < 0
  · simp [hn]
  obtain ⟨hS, hv1⟩ := hc.resolve_left hn
  obtain ⟨u, hu, hd⟩ := szBookingS_le l v (by omega) hv1 h0
  by_cases hm : u < 0
  · simp [hn, hu, hm]
  have hl := (hd.resolve_left hm).1
  simp [hn, hu, hm, toNetwork_eq n hS, toBookingS_eq l hl, laws_toTrip, spec_SpareOn_eq n hS l t hl, impl_SpareOn_eq n hS l t hl, eqNetwork_refl n hS, eqBookingS_refl l hl]
theorem FnExactFillOf_true (n : Network) (l : List Booking) (t : Trip) (hN : NetIn n) (h0 : l.length ≤ maxLen) : laws_FnExactFillOf n l t = some true := by
  unfold laws_FnExactFillOf
  obtain ⟨v, hv, hc⟩ := szNetwork_le n hN
  rw [hv]
  by_cases hn : v < 0
  · simp [hn]
  obtain ⟨hS, hv1⟩ := hc.resolve_left hn
  obtain ⟨u, hu, hd⟩ := szBookingS_le l v (by omega) hv1 h0
  by_cases hm : u < 0
  · simp [hn, hu, hm]
  have hl := (hd.resolve_left hm).1
  simp [hn, hu, hm, toNetwork_eq n hS, toBookingS_eq l hl, laws_toTrip, spec_FillOf_eq n hS l t hl, impl_FillOf_eq n hS l t hl, eqNetwork_refl n hS, eqBookingS_refl l hl]
theorem FnExactRideAt_true (n : Network) (l : List Booking) (th at0 : Int) (hN : NetIn n) (h0 : l.length ≤ maxLen) : laws_FnExactRideAt n l th at0 = some true := by
  unfold laws_FnExactRideAt
  obtain ⟨v, hv, hc⟩ := szNetwork_le n hN
  rw [hv]
  by_cases hn : v < 0
  · simp [hn]
  obtain ⟨hS, hv1⟩ := hc.resolve_left hn
  obtain ⟨u, hu, hd⟩ := szBookingS_le l v (by omega) hv1 h0
  by_cases hm : u < 0
  · simp [hn, hu, hm]
  have hl := (hd.resolve_left hm).1
  simp [hn, hu, hm, toNetwork_eq n hS, toBookingS_eq l hl, spec_RideAt_eq n hS l th at0 hl, impl_RideAt_eq n hS l th at0 hl, eqNetwork_refl n hS, eqBookingS_refl l hl, eqTrip_refl]
end Go.Sx
