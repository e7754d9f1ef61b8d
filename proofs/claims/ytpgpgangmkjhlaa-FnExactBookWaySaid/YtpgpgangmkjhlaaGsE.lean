/- The helpers of the exact laws over networks, bookings and ways. -/
import Derived.Test.YtpgpgangmkjhlaaGsW2
import Derived.Test.YtpgpgangmkjhlaaSxT
namespace Go.Sx
set_option linter.unusedVariables false

theorem len_le {k : Nat} (h : k ≤ maxLen) : k ≤ 9223372036854775807 := h
theorem toBooking_eq (x : Booking) : laws_toBooking x = some x := by simp [laws_toBooking, laws_toTrip]
theorem toBookingS_eq (a : List Booking) (hl : a.length ≤ 1048576) : laws_toBookingS a = some a := by
  unfold laws_toBookingS
  rw [mkM_eq hl (by omega)]
  show Option.bind (loopM (laws_toBookingS_L1 a) big (List.replicate a.length default, 0)) laws_toBookingS_L1_k = some a
  rw [show loopM (laws_toBookingS_L1 a) big (List.replicate a.length default, 0) = some (.inl a) from copy_loop (ρ := List Booking) a laws_toBooking toBooking_eq hl]
  rfl
theorem toTripS_eq (a : List Trip) (hl : a.length ≤ 1048576) : laws_toTripS a = some a := by
  unfold laws_toTripS
  rw [mkM_eq hl (by omega)]
  show Option.bind (loopM (laws_toTripS_L1 a) big (List.replicate a.length default, 0)) laws_toTripS_L1_k = some a
  rw [show loopM (laws_toTripS_L1 a) big (List.replicate a.length default, 0) = some (.inl a) from copy_loop (ρ := List Trip) a laws_toTrip (fun _ => rfl) hl]
  rfl
theorem toLegS_eq (a : List Leg) (hl : a.length ≤ 1048576) : laws_toLegS a = some a := by
  unfold laws_toLegS
  rw [mkM_eq hl (by omega)]
  show Option.bind (loopM (laws_toLegS_L1 a) big (List.replicate a.length default, 0)) laws_toLegS_L1_k = some a
  rw [show loopM (laws_toLegS_L1 a) big (List.replicate a.length default, 0) = some (.inl a) from copy_loop (ρ := List Leg) a laws_toLeg (fun _ => rfl) hl]
  rfl
theorem toIntS_eq (a : List Int) (hl : a.length ≤ 1048576) : laws_toIntS a = some a := by
  unfold laws_toIntS
  rw [mkM_eq hl (by omega)]
  show Option.bind (loopM (laws_toIntS_L1 a) big (List.replicate a.length default, 0)) laws_toIntS_L1_k = some a
  rw [show loopM (laws_toIntS_L1 a) big (List.replicate a.length default, 0) = some (.inl a) from copy_loop (ρ := List Int) a some (fun _ => rfl) hl]
  rfl
/-- a network that is small enough to be looked at -/
structure NetS (n : Network) : Prop where
  legs : n.Legs.length ≤ 1048576
  off : n.Off.length ≤ 1048576
  str : ∀ l ∈ n.Legs, l.From.size ≤ 1048576 ∧ l.To.size ≤ 1048576
theorem toNetwork_eq (n : Network) (h : NetS n) : laws_toNetwork n = some n := by
  simp [laws_toNetwork, toLegS_eq n.Legs h.legs, toIntS_eq n.Off h.off]
theorem eqIntS_refl (a : List Int) (hl : a.length ≤ 1048576) : laws_eqIntS a a = some true := by
  unfold laws_eqIntS
  have := loop_val (body := laws_eqIntS_L1 a a) a.length (fun i => (i : Int)) () hl (fun i hi => by simp [laws_eqIntS_L1, laws_eqIntS_L1_b, gi_nat hi, hi, w64_succ (Nat.le_of_lt (Nat.lt_of_lt_of_le hi hl))]) (by simp [laws_eqIntS_L1, laws_eqIntS_L1_b])
  rw [show ((0 : Nat) : Int) = 0 from rfl] at this
  rw [this]
  simp [laws_eqIntS_L1_k, laws_eqIntS_L1_a]
theorem eqTrip_refl (x : Trip) : laws_eqTrip x x = some true := by simp [laws_eqTrip]
theorem eqTripS_refl (a : List Trip) (hl : a.length ≤ 1048576) : laws_eqTripS a a = some true := by
  unfold laws_eqTripS
  rw [show loopM (laws_eqTripS_L1 a a) big 0 = some (.inl ()) from eq_loop_refl a laws_eqTrip eqTrip_refl hl]
  simp [laws_eqTripS_L1_k, laws_eqTripS_L1_a]
theorem eqBooking_refl (x : Booking) : laws_eqBooking x x = some true := by simp [laws_eqBooking, eqTrip_refl]
theorem eqBookingS_refl (a : List Booking) (hl : a.length ≤ 1048576) : laws_eqBookingS a a = some true := by
  unfold laws_eqBookingS
  rw [show loopM (laws_eqBookingS_L1 a a) big 0 = some (.inl ()) from eq_loop_refl a laws_eqBooking eqBooking_refl hl]
  simp [laws_eqBookingS_L1_k, laws_eqBookingS_L1_a]
theorem eqLeg_refl (x : Leg) : laws_eqLeg x x = some true := by simp [laws_eqLeg]
theorem eqLegS_refl (a : List Leg) (hl : a.length ≤ 1048576) : laws_eqLegS a a = some true := by
  unfold laws_eqLegS
  rw [show loopM (laws_eqLegS_L1 a a) big 0 = some (.inl ()) from eq_loop_refl a laws_eqLeg eqLeg_refl hl]
  simp [laws_eqLegS_L1_k, laws_eqLegS_L1_a]
theorem eqNetwork_refl (n : Network) (h : NetS n) : laws_eqNetwork n n = some true := by
  simp [laws_eqNetwork, eqLegS_refl n.Legs h.legs, eqIntS_refl n.Off h.off]
theorem szBookingS_le (a : List Booking) (c : Int) (c0 : 0 ≤ c) (c1 : c ≤ 1048576) (h0 : a.length ≤ maxLen) : ∃ v, laws_szBookingS a c = some v ∧ (v < 0 ∨ (a.length ≤ 1048576 ∧ v ≤ 1048576)) := by
  have h0' := len_le h0
  unfold laws_szBookingS
  rw [w64_id (by omega) (by omega)]
  by_cases h : c - (a.length : Int) < 0
  · exact ⟨-1, by simp [h], .inl (by omega)⟩
  · exact ⟨c - (a.length : Int), by simp [h], .inr (by omega)⟩
theorem szTripS_le (a : List Trip) (c : Int) (c0 : 0 ≤ c) (c1 : c ≤ 1048576) (h0 : a.length ≤ maxLen) : ∃ v, laws_szTripS a c = some v ∧ (v < 0 ∨ (a.length ≤ 1048576 ∧ v ≤ 1048576)) := by
  have h0' := len_le h0
  unfold laws_szTripS
  rw [w64_id (by omega) (by omega)]
  by_cases h : c - (a.length : Int) < 0
  · exact ⟨-1, by simp [h], .inl (by omega)⟩
  · exact ⟨c - (a.length : Int), by simp [h], .inr (by omega)⟩
theorem szIntS_le (a : List Int) (c : Int) (c0 : 0 ≤ c) (c1 : c ≤ 1048576) (h0 : a.length ≤ maxLen) : ∃ v, laws_szIntS a c = some v ∧ (v < 0 ∨ (a.length ≤ 1048576 ∧ v ≤ 1048576)) := by
  have h0' := len_le h0
  unfold laws_szIntS
  rw [w64_id (by omega) (by omega)]
  by_cases h : c - (a.length : Int) < 0
  · exact ⟨-1, by simp [h], .inl (by omega)⟩
  · exact ⟨c - (a.length : Int), by simp [h], .inr (by omega)⟩
theorem szLeg_le (x : Leg) (c : Int) (c0 : 0 ≤ c) (c1 : c ≤ 1048576) (h1 : x.From.size ≤ maxLen) (h2 : x.To.size ≤ maxLen) : ∃ v, laws_szLeg x c = some v ∧ (v < 0 ∨ (x.From.size ≤ 1048576 ∧ x.To.size ≤ 1048576 ∧ v ≤ 1048576)) := by
  have h1' := len_le h1
  have h2' := len_le h2
  unfold laws_szLeg
  rw [w64_id (x := c - (x.From.size : Int)) (by omega) (by omega)]
  by_cases h : c - (x.From.size : Int) < 0
  · exact ⟨-1, by simp [h], .inl (by omega)⟩
  · rw [w64_id (x := c - (x.From.size : Int) - (x.To.size : Int)) (by omega) (by omega)]
    by_cases h' : c - (x.From.size : Int) - (x.To.size : Int) < 0
    · exact ⟨-1, by simp [h, h'], .inl (by omega)⟩
    · exact ⟨c - (x.From.size : Int) - (x.To.size : Int), by simp [h, h'], .inr (by omega)⟩
theorem szLegS_le (a : List Leg) (c : Int) (c0 : 0 ≤ c) (c1 : c ≤ 1048576) (h0 : a.length ≤ maxLen) (hs : ∀ l ∈ a, l.From.size ≤ maxLen ∧ l.To.size ≤ maxLen) :
    ∃ v, laws_szLegS a c = some v ∧ (v < 0 ∨ (a.length ≤ 1048576 ∧ (∀ l ∈ a, l.From.size ≤ 1048576 ∧ l.To.size ≤ 1048576) ∧ v ≤ 1048576)) := by
  have h0' := len_le h0
  unfold laws_szLegS
  rw [w64_id (by omega) (by omega)]
  by_cases h : c - (a.length : Int) < 0
  · exact ⟨-1, by simp [h], .inl (by omega)⟩
  · have hl : a.length ≤ 1048576 := by omega
    simp only [h, decide_false, cond_false]
    refine (loopM_up (body := laws_szLegS_L1 a) a.length (fun i s => s.2 = (i : Int) ∧ 0 ≤ s.1 ∧ s.1 ≤ 1048576 ∧ ∀ j (hj : j < a.length), j < i → a[j].From.size ≤ 1048576 ∧ a[j].To.size ≤ 1048576) (fun x => (∃ r, x = .inr r ∧ r = -1) ∨ ∃ v, x = .inl v ∧ v ≤ 1048576 ∧ ∀ j (hj : j < a.length), a[j].From.size ≤ 1048576 ∧ a[j].To.size ≤ 1048576) (fun i s hi hS => ?_) (fun s hS => ?_) (c - (a.length : Int), 0) ⟨rfl, by show 0 ≤ c - (a.length : Int); omega, by show c - (a.length : Int) ≤ 1048576; omega, fun j hj h => by omega⟩ (big_pos hl)).elim fun x hx => ?_
    · obtain ⟨k, j⟩ := s
      obtain ⟨e1, e2, e3, e4⟩ := hS
      simp only at e1 e2 e3 e4
      subst e1
      have hx := hs a[i] (List.getElem_mem hi)
      obtain ⟨v, hv, hc⟩ := szLeg_le a[i] k e2 e3 hx.1 hx.2
      by_cases hn : v < 0
      · exact .inr (.inr ⟨-1, by simp [laws_szLegS_L1, laws_szLegS_L1_b, hi, gi_nat hi, hv, hn], .inl ⟨-1, rfl, rfl⟩⟩)
      · have hc := hc.resolve_left hn
        refine .inl ⟨(v, ((i + 1 : Nat) : Int)), by simp only [laws_szLegS_L1, laws_szLegS_L1_b, Int.ofNat_lt, hi, decide_true, cond_true, gi_nat hi, Option.bind_some, hv, hn, decide_false, cond_false, w64_succ (Nat.le_of_lt (Nat.lt_of_lt_of_le hi hl))], rfl, by show 0 ≤ v; omega, hc.2.2, fun j hj hji => ?_⟩
        by_cases hje : j = i
        · subst hje; exact ⟨hc.1, hc.2.1⟩
        · exact e4 j hj (by omega)
    · obtain ⟨k, j⟩ := s
      obtain ⟨e1, e2, e3, e4⟩ := hS
      simp only at e1 e2 e3 e4
      subst e1
      exact .inl ⟨k, by simp [laws_szLegS_L1, laws_szLegS_L1_b], .inr ⟨k, rfl, e3, fun j hj => e4 j hj hj⟩⟩
    · rw [hx.1]
      rcases hx.2 with ⟨r, rfl, rfl⟩ | ⟨v, rfl, hv, hall⟩
      · exact ⟨-1, by simp [laws_szLegS_L1_k], .inl (by omega)⟩
      · exact ⟨v, by simp [laws_szLegS_L1_k, laws_szLegS_L1_a], .inr ⟨hl, fun l hlm => by obtain ⟨j, hj, rfl⟩ := List.getElem_of_mem hlm; exact hall j hj, hv⟩⟩
/-- what is known of a network that comes in -/
structure NetIn (n : Network) : Prop where
  legs : n.Legs.length ≤ maxLen
  off : n.Off.length ≤ maxLen
  str : ∀ l ∈ n.Legs, l.From.size ≤ maxLen ∧ l.To.size ≤ maxLen
theorem szNetwork_le (n : Network) (h : NetIn n) : ∃ v, laws_szNetwork n 1048576 = some v ∧ (v < 0 ∨ (NetS n ∧ v ≤ 1048576)) := by
  unfold laws_szNetwork
  obtain ⟨v, hv, hc⟩ := szLegS_le n.Legs 1048576 (by omega) (by omega) h.legs h.str
  rw [hv]
  by_cases hn : v < 0
  · exact ⟨-1, by simp [hn], .inl (by omega)⟩
  · have hc := hc.resolve_left hn
    obtain ⟨u, hu, hd⟩ := szIntS_le n.Off v (by omega) hc.2.2 h.off
    by_cases hm : u < 0
    · exact ⟨-1, by simp [hn, hu, hm], .inl (by omega)⟩
    · have hd := hd.resolve_left hm
      exact ⟨u, by simp [hn, hu, hm], .inr ⟨⟨hc.1, hd.1, hc.2.1⟩, hd.2⟩⟩

theorem markBookingS_eq (a : List Booking) (hl : a.length ≤ 1048576) : ∃ c l', ¬ c < 0 ∧ laws_markBookingS a 1 = some (c, l') := by
  obtain ⟨l', h1, h2, h3⟩ := mark_up (body := laws_markBookingS_L1) a 4 (fun i => Booking.mk (1 + 4 * (i : Int)) (Trip.mk (1 + 4 * (i : Int) + 1) (1 + 4 * (i : Int) + 1 + 1)) (1 + 4 * (i : Int) + 1 + 1 + 1)) hl (fun i l hi h => by
      have hil : i < l.length := by omega
      have e6 : 1 + 4 * ((i + 1 : Nat) : Int) = 1 + 4 * (i : Int) + 1 + 1 + 1 + 1 := by omega
      rw [e6]
      have hk : (0 : Int) ≤ 1 + 4 * (i : Int) ∧ 1 + 4 * (i : Int) ≤ 8000000 := by omega
      generalize 1 + 4 * (i : Int) = k at hk
      have w1 : w64 (k + 1) = k + 1 := w64_id (by omega) (by omega)
      have w2 : w64 (k + 1 + 1) = k + 1 + 1 := w64_id (by omega) (by omega)
      have w3 : w64 (k + 1 + 1 + 1) = k + 1 + 1 + 1 := w64_id (by omega) (by omega)
      have w4 : w64 (k + 1 + 1 + 1 + 1) = k + 1 + 1 + 1 + 1 := w64_id (by omega) (by omega)
      simp only [laws_markBookingS_L1, laws_markBookingS_L1_b, Int.ofNat_lt, hil, decide_true, cond_true, Int.toNat_natCast, w1, w2, w3, w4, w64_succ (Nat.le_of_lt (Nat.lt_of_lt_of_le hi hl)), gi_nat, List.length_set, List.set_set, List.getElem_set_self, Option.bind_some])
    (fun l h => by simp [laws_markBookingS_L1, laws_markBookingS_L1_b, h])
  exact ⟨1 + 4 * (a.length : Int), l', by omega, by rw [laws_markBookingS, h1]; simp [laws_markBookingS_L1_k, laws_markBookingS_L1_a]⟩
end Go.Sx
