/- The functions of the program as plain Lean, and that each runs so (printed by wip/gen). -/
import Derived.Test.YtpgpgangmkjhlaaGsW1
namespace Go.Sx
open Go.Proofs
set_option linter.unusedVariables false
set_option maxRecDepth 100000

-- loop.example/g03014/impl.BookWay
def impl_BookWay_L1_b (a2 : Int) (a3 : Int) (a4 : (List Trip)) (s11 : (List Booking)) (s12 : Int) : Option (Ctl ((List Booking) × Int) (List Booking) ((List Booking) × Bool)) :=
  bif (decide (s12 < (a4.length : Int))) then
  (gi a4 s12).bind fun v22 =>
  (ap 32 s11 ([(Booking.mk a2 v22 a3)] : List Booking)).bind fun v24 =>
  some (.next (v24, w64 (s12 + 1)))
  else
  some (.brk s11)
def impl_BookWay_L1 (a2 : Int) (a3 : Int) (a4 : (List Trip)) (s : (List Booking) × Int) : Option (Ctl ((List Booking) × Int) (List Booking) ((List Booking) × Bool)) := impl_BookWay_L1_b a2 a3 a4 s.1 s.2
def impl_BookWay_L1_s (a0 : Network) (a1 : (List Booking)) (a2 : Int) (a3 : Int) (a4 : (List Trip)) (s11 : (List Booking)) (s12 : Int) : St := ⟨[(1, .o (.c (.rs 4 (a1.map Booking.enc)))), (2, .o (.c (.v (.int .i64 a2)))), (3, .o (.c (.v (.int .i64 a3)))), (5, .o (.c (.ptr 0 0))), (12, .o (.c (.ptr 4 0))), (28, .o (.c (.rs 2 (a4.map Trip.enc)))), (29, .o (.c (.v (.int .i64 (a4.length : Int))))), (30, .o (.c (.v (.int .i64 s12))))], [(0, .box 36 [.rs 6 (a0.Legs.map Leg.enc), .rs 1 (a0.Off.map encI), .v (.int .i64 a0.Change)]), (4, .box 31 [.sl 3]), (3, .row 57 4 (s11.map Booking.enc))]⟩
def impl_BookWay_L1_S (a0 : Network) (a1 : (List Booking)) (a2 : Int) (a3 : Int) (a4 : (List Trip)) (s : (List Booking) × Int) : St := impl_BookWay_L1_s a0 a1 a2 a3 a4 s.1 s.2
def impl_BookWay_L1_a (a0 : Network) (a1 : (List Booking)) (s13 : (List Booking)) : Option ((List Booking) × Bool) :=
  (sort_SliceStable_at0sk_1lf41 s13).bind fun v14 =>
  (impl_AreBookings a0 v14).bind fun v16 =>
  bif (!v16) then
  (impl_copyBookings a1).bind fun v19 =>
  some (v19, false)
  else
  some (v14, true)
def impl_BookWay_L1_k (a0 : Network) (a1 : (List Booking)) (x : ((List Booking)) ⊕ ((List Booking) × Bool)) : Option ((List Booking) × Bool) := match x with
  | .inl t => impl_BookWay_L1_a a0 a1 t
  | .inr y => some y
def impl_BookWay (a0 : Network) (a1 : (List Booking)) (a2 : Int) (a3 : Int) (a4 : (List Trip)) : Option ((List Booking) × Bool) :=
  (impl_AreBookings a0 a1).bind fun v1 =>
  bif (!v1) then
  (impl_copyBookings a1).bind fun v4 =>
  some (v4, false)
  else
  bif (decide ((a4.length : Int) > 20)) then
  (impl_copyBookings a1).bind fun v7 =>
  some (v7, false)
  else
  (impl_copyBookings a1).bind fun v9 =>
  (loopM (impl_BookWay_L1 a2 a3 a4) big (v9, 0)).bind (impl_BookWay_L1_k a0 a1)
theorem impl_BookWay_ok (a0 : Network) (a1 : (List Booking)) (a2 : Int) (a3 : Int) (a4 : (List Trip)) (r : (List Booking) × Bool) (hM : impl_BookWay a0 a1 a2 a3 a4 = some r) :
    Con Try.prog 13 [.agg [.rs 6 (a0.Legs.map Leg.enc), .rs 1 (a0.Off.map encI), .v (.int .i64 a0.Change)], .c (.rs 4 (a1.map Booking.enc)), .c (.v (.int .i64 a2)), .c (.v (.int .i64 a3)), .c (.rs 2 (a4.map Trip.enc))] [] (.tup [.c (.sl 1000), .c (.v (.bool r.2))]) [] [(1000, .row 57 4 (r.1.map Booking.enc))] := by
  unfold impl_BookWay at hM
  refine cn (N := 53) (pids := []) Try_mixed Try.func13 (by kernel_rfl) (by kernel_rfl) (by kernel_rfl) rfl fun ρ g w R => ?_
  obtain ⟨v1, h2, hM⟩ := bind_some hM
  rcases cond_cases hM with ⟨h3, hM⟩ | ⟨h3, hM⟩
  · obtain ⟨v4, h5, hM⟩ := bind_some hM
    have hE : some (v4, false) = some r := hM
    have hE := Option.some.inj hE
    subst hE
    exact pr R 9999 [.new 0, .call false [] (.o (.c (.v (.bool v1)))) [] [], .as 19 true, .call false [] (.o (.c (.sl 1))) [] [(1, .row 57 4 (v4.map Booking.enc))]] [.sw 1 1000] [] [1000] (And.intro (impl_AreBookings_ok a0 a1 v1 h2) (And.intro h3 (And.intro (And.intro (con_sw 1000 1 (impl_copyBookings_ok a1 v4 h5)) (rfl : ([] : List Nat) = [])) True.intro))) (by kernel_rfl)
  · rcases cond_cases hM with ⟨h6, hM⟩ | ⟨h6, hM⟩
    · obtain ⟨v7, h8, hM⟩ := bind_some hM
      have hE : some (v7, false) = some r := hM
      have hE := Option.some.inj hE
      subst hE
      exact pr R 9999 [.new 0, .call false [] (.o (.c (.v (.bool v1)))) [] [], .as 19 false, .ln (a4.length), .as 23 true, .call false [] (.o (.c (.sl 2))) [] [(2, .row 57 4 (v7.map Booking.enc))]] [.sw 2 1000] [] [1000] (And.intro (impl_AreBookings_ok a0 a1 v1 h2) (And.intro h3 (And.intro (lenm Trip.enc a4) (And.intro h6 (And.intro (And.intro (con_sw 1000 2 (impl_copyBookings_ok a1 v7 h8)) (rfl : ([] : List Nat) = [])) True.intro))))) (by kernel_rfl)
    · obtain ⟨v9, h10, hM⟩ := bind_some hM
      have K1 : ∀ (s13 : (List Booking)), impl_BookWay_L1_a a0 a1 s13 = some r → Gr R [.code (cAt Try.f13 [1, 1, 1, 1])] (⟨[(1, .o (.c (.rs 4 (a1.map Booking.enc)))), (5, .o (.c (.ptr 0 0))), (12, .o (.c (.ptr 4 0)))], [(0, .box 36 [.rs 6 (a0.Legs.map Leg.enc), .rs 1 (a0.Off.map encI), .v (.int .i64 a0.Change)]), (4, .box 31 [.sl 3]), (3, .row 57 4 (s13.map Booking.enc))]⟩) := by
        intro s13 hM
        unfold impl_BookWay_L1_a at hM
        obtain ⟨v14, h15, hM⟩ := bind_some hM
        obtain ⟨v16, h17, hM⟩ := bind_some hM
        rcases cond_cases hM with ⟨h18, hM⟩ | ⟨h18, hM⟩
        · obtain ⟨v19, h20, hM⟩ := bind_some hM
          have hE : some (v19, false) = some r := hM
          have hE := Option.some.inj hE
          subst hE
          exact pr R 9999 [.ad (.keep [1, 5, 12, 42, 43, 44] [4, 3, 0]), .call true [4, 3] (.tup []) [(4, .box 31 [.sl 3]), (3, .row 57 4 (v14.map Booking.enc))] [], .call false [] (.o (.c (.v (.bool v16)))) [] [], .as 49 true, .call false [] (.o (.c (.sl 5))) [] [(5, .row 57 4 (v19.map Booking.enc))]] [.sw 5 1000] [] [1000] (And.intro (And.intro (con_sw 920 3 (con_sw 900 4 (sort_SliceStable_at0sk_1lf41_ok s13 v14 h15))) (rfl : ([4, 3] : List Nat) = [4, 3])) (And.intro (impl_AreBookings_ok a0 v14 v16 h17) (And.intro h18 (And.intro (And.intro (con_sw 1000 5 (impl_copyBookings_ok a1 v19 h20)) (rfl : ([] : List Nat) = [])) True.intro)))) (by kernel_rfl)
        · have hE : some (v14, true) = some r := hM
          have hE := Option.some.inj hE
          subst hE
          exact pr R 9999 [.ad (.keep [1, 5, 12, 42, 43, 44] [4, 3, 0]), .call true [4, 3] (.tup []) [(4, .box 31 [.sl 3]), (3, .row 57 4 (v14.map Booking.enc))] [], .call false [] (.o (.c (.v (.bool v16)))) [] [], .as 49 false] [.sw 3 1000] [] [1000] (And.intro (And.intro (con_sw 920 3 (con_sw 900 4 (sort_SliceStable_at0sk_1lf41_ok s13 v14 h15))) (rfl : ([4, 3] : List Nat) = [4, 3])) (And.intro (impl_AreBookings_ok a0 v14 v16 h17) (And.intro h18 True.intro))) (by kernel_rfl)
      refine pc R 9999 [.new 0, .call false [] (.o (.c (.v (.bool v1)))) [] [], .as 19 false, .ln (a4.length), .as 23 false, .call false [] (.o (.c (.sl 3))) [] [(3, .row 57 4 (v9.map Booking.enc))], .new 4, .ln (a4.length)] [.keep [1, 2, 3, 5, 12, 28, 29, 30] [0, 4, 3]] (k' := [.code (.loop (cAt Try.f13 [1, 1, 1, 0, 1, 0, 0])), .blk 0, .code (cAt Try.f13 [1, 1, 1, 1])]) (S' := impl_BookWay_L1_S a0 a1 a2 a3 a4 (v9, 0)) (And.intro (impl_AreBookings_ok a0 a1 v1 h2) (And.intro h3 (And.intro (lenm Trip.enc a4) (And.intro h6 (And.intro (And.intro (con_sw 1000 3 (impl_copyBookings_ok a1 v9 h10)) (rfl : ([] : List Nat) = [])) (And.intro (lenm Trip.enc a4) True.intro)))))) (by kernel_rfl) ?_
      refine lq (impl_BookWay_L1_S a0 a1 a2 a3 a4) (body := impl_BookWay_L1 a2 a3 a4) (k := impl_BookWay_L1_k a0 a1) hM fun m1 s c1 hM hK1 => ?_
      obtain ⟨s11, s12⟩ := s
      have hM : impl_BookWay_L1_b a2 a3 a4 s11 s12 = some c1 := hM
      unfold impl_BookWay_L1_b at hM
      rcases cond_cases hM with ⟨h21, hM⟩ | ⟨h21, hM⟩
      · obtain ⟨v22, h23, hM⟩ := bind_some hM
        obtain ⟨v24, h25, hM⟩ := bind_some hM
        have hE : some (Ctl.next (v24, w64 (s12 + 1))) = some c1 := hM
        have hE := Option.some.inj hE
        subst hE
        exact pc R 9999 [.as 31 true, .ix (Trip.enc v22), .new 6, .new 7, .new 8, .nm (v24.map Booking.enc)] [.sw 8 3, .keep [1, 2, 3, 5, 12, 28, 29, 30] [0, 4, 3]] (And.intro h21 (And.intro (gi_map Trip.enc h23) (And.intro (ap_ok Booking.enc h25) True.intro))) (by kernel_rfl) (li (Sf := impl_BookWay_L1_S a0 a1 a2 a3 a4) (M := Mk (impl_BookWay_L1 a2 a3 a4) (impl_BookWay_L1_k a0 a1) r) (k := [.blk 0, .code (cAt Try.f13 [1, 1, 1, 1])]) (Nat.lt_succ_self m1) hK1)
      · have hE : some (Ctl.brk s11) = some c1 := hM
        have hE := Option.some.inj hE
        subst hE
        exact pc R 5 [.as 31 false] [.keep [1, 5, 12] [0, 4, 3]] (And.intro h21 True.intro) (by kernel_rfl) (K1 s11 hK1)

-- loop.example/g03014/laws.eqTrip
def laws_eqTrip (a0 : Trip) (a1 : Trip) : Option Bool :=
  bif (a0.Leg != a1.Leg) then
  some false
  else
  bif (a0.Day != a1.Day) then
  some false
  else
  some true
theorem laws_eqTrip_ok (a0 : Trip) (a1 : Trip) (r : Bool) (hM : laws_eqTrip a0 a1 = some r) :
    Con Try.prog 46 [.c (.v (.agg (Trip.enc a0).toArray)), .c (.v (.agg (Trip.enc a1).toArray))] [] (.o (.c (.v (.bool r)))) [] [] := by
  unfold laws_eqTrip at hM
  refine cn (N := 15) (pids := []) Try_mixed Try.func46 (by kernel_rfl) (by kernel_rfl) (by kernel_rfl) rfl fun ρ g w R => ?_
  rcases cond_cases hM with ⟨h1, hM⟩ | ⟨h1, hM⟩
  · have hE : some false = some r := hM
    have hE := Option.some.inj hE
    subst hE
    exact pr R 9999 [.new 0, .new 1, .as 9 true] [] [] [] (And.intro h1 True.intro) (by kernel_rfl)
  · rcases cond_cases hM with ⟨h2, hM⟩ | ⟨h2, hM⟩
    · have hE : some false = some r := hM
      have hE := Option.some.inj hE
      subst hE
      exact pr R 9999 [.new 0, .new 1, .as 9 false, .as 14 true] [] [] [] (And.intro h1 (And.intro h2 True.intro)) (by kernel_rfl)
    · have hE : some true = some r := hM
      have hE := Option.some.inj hE
      subst hE
      exact pr R 9999 [.new 0, .new 1, .as 9 false, .as 14 false] [] [] [] (And.intro h1 (And.intro h2 True.intro)) (by kernel_rfl)

-- loop.example/g03014/laws.eqBooking
def laws_eqBooking (a0 : Booking) (a1 : Booking) : Option Bool :=
  bif (a0.Thing != a1.Thing) then
  some false
  else
  (laws_eqTrip a0.Trip a1.Trip).bind fun v2 =>
  bif (!v2) then
  some false
  else
  bif (a0.Weight != a1.Weight) then
  some false
  else
  some true
theorem laws_eqBooking_ok (a0 : Booking) (a1 : Booking) (r : Bool) (hM : laws_eqBooking a0 a1 = some r) :
    Con Try.prog 43 [.c (.v (.agg (Booking.enc a0).toArray)), .c (.v (.agg (Booking.enc a1).toArray))] [] (.o (.c (.v (.bool r)))) [] [] := by
  unfold laws_eqBooking at hM
  refine cn (N := 21) (pids := []) Try_mixed Try.func43 (by kernel_rfl) (by kernel_rfl) (by kernel_rfl) rfl fun ρ g w R => ?_
  rcases cond_cases hM with ⟨h1, hM⟩ | ⟨h1, hM⟩
  · have hE : some false = some r := hM
    have hE := Option.some.inj hE
    subst hE
    exact pr R 9999 [.new 0, .new 1, .as 9 true] [] [] [] (And.intro h1 True.intro) (by kernel_rfl)
  · obtain ⟨v2, h3, hM⟩ := bind_some hM
    rcases cond_cases hM with ⟨h4, hM⟩ | ⟨h4, hM⟩
    · have hE : some false = some r := hM
      have hE := Option.some.inj hE
      subst hE
      exact pr R 9999 [.new 0, .new 1, .as 9 false, .call false [] (.o (.c (.v (.bool v2)))) [] [], .as 15 true] [] [] [] (And.intro h1 (And.intro (laws_eqTrip_ok a0.Trip a1.Trip v2 h3) (And.intro h4 True.intro))) (by kernel_rfl)
    · rcases cond_cases hM with ⟨h5, hM⟩ | ⟨h5, hM⟩
      · have hE : some false = some r := hM
        have hE := Option.some.inj hE
        subst hE
        exact pr R 9999 [.new 0, .new 1, .as 9 false, .call false [] (.o (.c (.v (.bool v2)))) [] [], .as 15 false, .as 20 true] [] [] [] (And.intro h1 (And.intro (laws_eqTrip_ok a0.Trip a1.Trip v2 h3) (And.intro h4 (And.intro h5 True.intro)))) (by kernel_rfl)
      · have hE : some true = some r := hM
        have hE := Option.some.inj hE
        subst hE
        exact pr R 9999 [.new 0, .new 1, .as 9 false, .call false [] (.o (.c (.v (.bool v2)))) [] [], .as 15 false, .as 20 false] [] [] [] (And.intro h1 (And.intro (laws_eqTrip_ok a0.Trip a1.Trip v2 h3) (And.intro h4 (And.intro h5 True.intro)))) (by kernel_rfl)

-- loop.example/g03014/laws.eqBookingS
def laws_eqBookingS_L1_b (a0 : (List Booking)) (a1 : (List Booking)) (s2 : Int) : Option (Ctl Int Unit Bool) :=
  bif (decide (s2 < (a0.length : Int))) then
  (gi a0 s2).bind fun v4 =>
  (gi a1 s2).bind fun v6 =>
  (laws_eqBooking v4 v6).bind fun v8 =>
  bif (!v8) then
  some (.ret false)
  else
  some (.next (w64 (s2 + 1)))
  else
  some (.brk ())
def laws_eqBookingS_L1 (a0 : (List Booking)) (a1 : (List Booking)) (s : Int) : Option (Ctl Int Unit Bool) := laws_eqBookingS_L1_b a0 a1 s
def laws_eqBookingS_L1_s (a0 : (List Booking)) (a1 : (List Booking)) (s2 : Int) : St := ⟨[(0, .o (.c (.rs 4 (a0.map Booking.enc)))), (1, .o (.c (.rs 4 (a1.map Booking.enc)))), (5, .o (.c (.v (.int .i64 s2))))], []⟩
def laws_eqBookingS_L1_S (a0 : (List Booking)) (a1 : (List Booking)) (s : Int) : St := laws_eqBookingS_L1_s a0 a1 s
def laws_eqBookingS_L1_a : Option Bool :=
  some true
def laws_eqBookingS_L1_k (x : (Unit) ⊕ (Bool)) : Option Bool := match x with
  | .inl t => laws_eqBookingS_L1_a
  | .inr y => some y
def laws_eqBookingS (a0 : (List Booking)) (a1 : (List Booking)) : Option Bool :=
  bif ((a0.length : Int) != (a1.length : Int)) then
  some false
  else
  (loopM (laws_eqBookingS_L1 a0 a1) big 0).bind (laws_eqBookingS_L1_k)
theorem laws_eqBookingS_ok (a0 : (List Booking)) (a1 : (List Booking)) (r : Bool) (hM : laws_eqBookingS a0 a1 = some r) :
    Con Try.prog 14 [.c (.rs 4 (a0.map Booking.enc)), .c (.rs 4 (a1.map Booking.enc))] [] (.o (.c (.v (.bool r)))) [] [] := by
  unfold laws_eqBookingS at hM
  refine cn (N := 27) (pids := []) Try_mixed Try.func14 (by kernel_rfl) (by kernel_rfl) (by kernel_rfl) rfl fun ρ g w R => ?_
  rcases cond_cases hM with ⟨h1, hM⟩ | ⟨h1, hM⟩
  · have hE : some false = some r := hM
    have hE := Option.some.inj hE
    subst hE
    exact pr R 9999 [.ln (a0.length), .ln (a1.length), .as 10 true] [] [] [] (And.intro (lenm Booking.enc a0) (And.intro (lenm Booking.enc a1) (And.intro h1 True.intro))) (by kernel_rfl)
  · have K1 : ∀ (_ : Unit), laws_eqBookingS_L1_a = some r → Gr R [.code (cAt Try.f14 [1, 1, 1])] (⟨[], []⟩) := by
      intro _ hM
      unfold laws_eqBookingS_L1_a at hM
      have hE : some true = some r := hM
      have hE := Option.some.inj hE
      subst hE
      exact pr R 9999 [] [] [] [] True.intro (by kernel_rfl)
    refine pc R 9999 [.ln (a0.length), .ln (a1.length), .as 10 false] [.keep [0, 1, 5] []] (k' := [.code (.loop (cAt Try.f14 [1, 1, 0, 1, 0, 0])), .blk 0, .code (cAt Try.f14 [1, 1, 1])]) (S' := laws_eqBookingS_L1_S a0 a1 0) (And.intro (lenm Booking.enc a0) (And.intro (lenm Booking.enc a1) (And.intro h1 True.intro))) (by kernel_rfl) ?_
    refine lq (laws_eqBookingS_L1_S a0 a1) (body := laws_eqBookingS_L1 a0 a1) (k := laws_eqBookingS_L1_k) hM fun m1 s c1 hM hK1 => ?_
    obtain ⟨s2, hs⟩ : ∃ z, z = s := ⟨_, rfl⟩
    subst hs
    have hM : laws_eqBookingS_L1_b a0 a1 s2 = some c1 := hM
    unfold laws_eqBookingS_L1_b at hM
    rcases cond_cases hM with ⟨h3, hM⟩ | ⟨h3, hM⟩
    · obtain ⟨v4, h5, hM⟩ := bind_some hM
      obtain ⟨v6, h7, hM⟩ := bind_some hM
      obtain ⟨v8, h9, hM⟩ := bind_some hM
      rcases cond_cases hM with ⟨h10, hM⟩ | ⟨h10, hM⟩
      · have hE : some (Ctl.ret false) = some c1 := hM
        have hE := Option.some.inj hE
        subst hE
        have hE : some false = some r := hK1
        have hE := Option.some.inj hE
        subst hE
        exact pr R 9999 [.ln (a0.length), .as 14 true, .ix (Booking.enc v4), .ix (Booking.enc v6), .call false [] (.o (.c (.v (.bool v8)))) [] [], .as 26 true] [] [] [] (And.intro (lenm Booking.enc a0) (And.intro h3 (And.intro (gi_map Booking.enc h5) (And.intro (gi_map Booking.enc h7) (And.intro (laws_eqBooking_ok v4 v6 v8 h9) (And.intro h10 True.intro)))))) (by kernel_rfl)
      · have hE : some (Ctl.next (w64 (s2 + 1))) = some c1 := hM
        have hE := Option.some.inj hE
        subst hE
        exact pc R 9999 [.ln (a0.length), .as 14 true, .ix (Booking.enc v4), .ix (Booking.enc v6), .call false [] (.o (.c (.v (.bool v8)))) [] [], .as 26 false] [.keep [0, 1, 5] []] (And.intro (lenm Booking.enc a0) (And.intro h3 (And.intro (gi_map Booking.enc h5) (And.intro (gi_map Booking.enc h7) (And.intro (laws_eqBooking_ok v4 v6 v8 h9) (And.intro h10 True.intro)))))) (by kernel_rfl) (li (Sf := laws_eqBookingS_L1_S a0 a1) (M := Mk (laws_eqBookingS_L1 a0 a1) (laws_eqBookingS_L1_k) r) (k := [.blk 0, .code (cAt Try.f14 [1, 1, 1])]) (Nat.lt_succ_self m1) hK1)
    · have hE : some (Ctl.brk ()) = some c1 := hM
      have hE := Option.some.inj hE
      subst hE
      exact pc R 5 [.ln (a0.length), .as 14 false] [.keep [] []] (And.intro (lenm Booking.enc a0) (And.intro h3 True.intro)) (by kernel_rfl) (K1 () hK1)

-- loop.example/g03014/laws.eqLeg
def laws_eqLeg (a0 : Leg) (a1 : Leg) : Option Bool :=
  bif (!(a0.From.toList == a1.From.toList)) then
  some false
  else
  bif (!(a0.To.toList == a1.To.toList)) then
  some false
  else
  bif (a0.Start != a1.Start) then
  some false
  else
  bif (a0.Takes != a1.Takes) then
  some false
  else
  bif (a0.Days != a1.Days) then
  some false
  else
  bif (a0.Room != a1.Room) then
  some false
  else
  some true
theorem laws_eqLeg_ok (a0 : Leg) (a1 : Leg) (r : Bool) (hM : laws_eqLeg a0 a1 = some r) :
    Con Try.prog 78 [.c (.v (.agg (Leg.enc a0).toArray)), .c (.v (.agg (Leg.enc a1).toArray))] [] (.o (.c (.v (.bool r)))) [] [] := by
  unfold laws_eqLeg at hM
  refine cn (N := 35) (pids := []) Try_mixed Try.func78 (by kernel_rfl) (by kernel_rfl) (by kernel_rfl) rfl fun ρ g w R => ?_
  rcases cond_cases hM with ⟨h1, hM⟩ | ⟨h1, hM⟩
  · have hE : some false = some r := hM
    have hE := Option.some.inj hE
    subst hE
    exact pr R 9999 [.new 0, .new 1, .as 9 true] [] [] [] (And.intro h1 True.intro) (by kernel_rfl)
  · rcases cond_cases hM with ⟨h2, hM⟩ | ⟨h2, hM⟩
    · have hE : some false = some r := hM
      have hE := Option.some.inj hE
      subst hE
      exact pr R 9999 [.new 0, .new 1, .as 9 false, .as 14 true] [] [] [] (And.intro h1 (And.intro h2 True.intro)) (by kernel_rfl)
    · rcases cond_cases hM with ⟨h3, hM⟩ | ⟨h3, hM⟩
      · have hE : some false = some r := hM
        have hE := Option.some.inj hE
        subst hE
        exact pr R 9999 [.new 0, .new 1, .as 9 false, .as 14 false, .as 19 true] [] [] [] (And.intro h1 (And.intro h2 (And.intro h3 True.intro))) (by kernel_rfl)
      · rcases cond_cases hM with ⟨h4, hM⟩ | ⟨h4, hM⟩
        · have hE : some false = some r := hM
          have hE := Option.some.inj hE
          subst hE
          exact pr R 9999 [.new 0, .new 1, .as 9 false, .as 14 false, .as 19 false, .as 24 true] [] [] [] (And.intro h1 (And.intro h2 (And.intro h3 (And.intro h4 True.intro)))) (by kernel_rfl)
        · rcases cond_cases hM with ⟨h5, hM⟩ | ⟨h5, hM⟩
          · have hE : some false = some r := hM
            have hE := Option.some.inj hE
            subst hE
            exact pr R 9999 [.new 0, .new 1, .as 9 false, .as 14 false, .as 19 false, .as 24 false, .as 29 true] [] [] [] (And.intro h1 (And.intro h2 (And.intro h3 (And.intro h4 (And.intro h5 True.intro))))) (by kernel_rfl)
          · rcases cond_cases hM with ⟨h6, hM⟩ | ⟨h6, hM⟩
            · have hE : some false = some r := hM
              have hE := Option.some.inj hE
              subst hE
              exact pr R 9999 [.new 0, .new 1, .as 9 false, .as 14 false, .as 19 false, .as 24 false, .as 29 false, .as 34 true] [] [] [] (And.intro h1 (And.intro h2 (And.intro h3 (And.intro h4 (And.intro h5 (And.intro h6 True.intro)))))) (by kernel_rfl)
            · have hE : some true = some r := hM
              have hE := Option.some.inj hE
              subst hE
              exact pr R 9999 [.new 0, .new 1, .as 9 false, .as 14 false, .as 19 false, .as 24 false, .as 29 false, .as 34 false] [] [] [] (And.intro h1 (And.intro h2 (And.intro h3 (And.intro h4 (And.intro h5 (And.intro h6 True.intro)))))) (by kernel_rfl)

-- loop.example/g03014/laws.eqLegS
def laws_eqLegS_L1_b (a0 : (List Leg)) (a1 : (List Leg)) (s2 : Int) : Option (Ctl Int Unit Bool) :=
  bif (decide (s2 < (a0.length : Int))) then
  (gi a0 s2).bind fun v4 =>
  (gi a1 s2).bind fun v6 =>
  (laws_eqLeg v4 v6).bind fun v8 =>
  bif (!v8) then
  some (.ret false)
  else
  some (.next (w64 (s2 + 1)))
  else
  some (.brk ())
def laws_eqLegS_L1 (a0 : (List Leg)) (a1 : (List Leg)) (s : Int) : Option (Ctl Int Unit Bool) := laws_eqLegS_L1_b a0 a1 s
def laws_eqLegS_L1_s (a0 : (List Leg)) (a1 : (List Leg)) (s2 : Int) : St := ⟨[(0, .o (.c (.rs 6 (a0.map Leg.enc)))), (1, .o (.c (.rs 6 (a1.map Leg.enc)))), (5, .o (.c (.v (.int .i64 s2))))], []⟩
def laws_eqLegS_L1_S (a0 : (List Leg)) (a1 : (List Leg)) (s : Int) : St := laws_eqLegS_L1_s a0 a1 s
def laws_eqLegS_L1_a : Option Bool :=
  some true
def laws_eqLegS_L1_k (x : (Unit) ⊕ (Bool)) : Option Bool := match x with
  | .inl t => laws_eqLegS_L1_a
  | .inr y => some y
def laws_eqLegS (a0 : (List Leg)) (a1 : (List Leg)) : Option Bool :=
  bif ((a0.length : Int) != (a1.length : Int)) then
  some false
  else
  (loopM (laws_eqLegS_L1 a0 a1) big 0).bind (laws_eqLegS_L1_k)
theorem laws_eqLegS_ok (a0 : (List Leg)) (a1 : (List Leg)) (r : Bool) (hM : laws_eqLegS a0 a1 = some r) :
    Con Try.prog 44 [.c (.rs 6 (a0.map Leg.enc)), .c (.rs 6 (a1.map Leg.enc))] [] (.o (.c (.v (.bool r)))) [] [] := by
  unfold laws_eqLegS at hM
  refine cn (N := 27) (pids := []) Try_mixed Try.func44 (by kernel_rfl) (by kernel_rfl) (by kernel_rfl) rfl fun ρ g w R => ?_
  rcases cond_cases hM with ⟨h1, hM⟩ | ⟨h1, hM⟩
  · have hE : some false = some r := hM
    have hE := Option.some.inj hE
    subst hE
    exact pr R 9999 [.ln (a0.length), .ln (a1.length), .as 10 true] [] [] [] (And.intro (lenm Leg.enc a0) (And.intro (lenm Leg.enc a1) (And.intro h1 True.intro))) (by kernel_rfl)
  · have K1 : ∀ (_ : Unit), laws_eqLegS_L1_a = some r → Gr R [.code (cAt Try.f44 [1, 1, 1])] (⟨[], []⟩) := by
      intro _ hM
      unfold laws_eqLegS_L1_a at hM
      have hE : some true = some r := hM
      have hE := Option.some.inj hE
      subst hE
      exact pr R 9999 [] [] [] [] True.intro (by kernel_rfl)
    refine pc R 9999 [.ln (a0.length), .ln (a1.length), .as 10 false] [.keep [0, 1, 5] []] (k' := [.code (.loop (cAt Try.f44 [1, 1, 0, 1, 0, 0])), .blk 0, .code (cAt Try.f44 [1, 1, 1])]) (S' := laws_eqLegS_L1_S a0 a1 0) (And.intro (lenm Leg.enc a0) (And.intro (lenm Leg.enc a1) (And.intro h1 True.intro))) (by kernel_rfl) ?_
    refine lq (laws_eqLegS_L1_S a0 a1) (body := laws_eqLegS_L1 a0 a1) (k := laws_eqLegS_L1_k) hM fun m1 s c1 hM hK1 => ?_
    obtain ⟨s2, hs⟩ : ∃ z, z = s := ⟨_, rfl⟩
    subst hs
    have hM : laws_eqLegS_L1_b a0 a1 s2 = some c1 := hM
    unfold laws_eqLegS_L1_b at hM
    rcases cond_cases hM with ⟨h3, hM⟩ | ⟨h3, hM⟩
    · obtain ⟨v4, h5, hM⟩ := bind_some hM
      obtain ⟨v6, h7, hM⟩ := bind_some hM
      obtain ⟨v8, h9, hM⟩ := bind_some hM
      rcases cond_cases hM with ⟨h10, hM⟩ | ⟨h10, hM⟩
      · have hE : some (Ctl.ret false) = some c1 := hM
        have hE := Option.some.inj hE
        subst hE
        have hE : some false = some r := hK1
        have hE := Option.some.inj hE
        subst hE
        exact pr R 9999 [.ln (a0.length), .as 14 true, .ix (Leg.enc v4), .ix (Leg.enc v6), .call false [] (.o (.c (.v (.bool v8)))) [] [], .as 26 true] [] [] [] (And.intro (lenm Leg.enc a0) (And.intro h3 (And.intro (gi_map Leg.enc h5) (And.intro (gi_map Leg.enc h7) (And.intro (laws_eqLeg_ok v4 v6 v8 h9) (And.intro h10 True.intro)))))) (by kernel_rfl)
      · have hE : some (Ctl.next (w64 (s2 + 1))) = some c1 := hM
        have hE := Option.some.inj hE
        subst hE
        exact pc R 9999 [.ln (a0.length), .as 14 true, .ix (Leg.enc v4), .ix (Leg.enc v6), .call false [] (.o (.c (.v (.bool v8)))) [] [], .as 26 false] [.keep [0, 1, 5] []] (And.intro (lenm Leg.enc a0) (And.intro h3 (And.intro (gi_map Leg.enc h5) (And.intro (gi_map Leg.enc h7) (And.intro (laws_eqLeg_ok v4 v6 v8 h9) (And.intro h10 True.intro)))))) (by kernel_rfl) (li (Sf := laws_eqLegS_L1_S a0 a1) (M := Mk (laws_eqLegS_L1 a0 a1) (laws_eqLegS_L1_k) r) (k := [.blk 0, .code (cAt Try.f44 [1, 1, 1])]) (Nat.lt_succ_self m1) hK1)
    · have hE : some (Ctl.brk ()) = some c1 := hM
      have hE := Option.some.inj hE
      subst hE
      exact pc R 5 [.ln (a0.length), .as 14 false] [.keep [] []] (And.intro (lenm Leg.enc a0) (And.intro h3 True.intro)) (by kernel_rfl) (K1 () hK1)

-- loop.example/g03014/laws.eqIntS
def laws_eqIntS_L1_b (a0 : (List Int)) (a1 : (List Int)) (s2 : Int) : Option (Ctl Int Unit Bool) :=
  bif (decide (s2 < (a0.length : Int))) then
  (gi a0 s2).bind fun v4 =>
  (gi a1 s2).bind fun v6 =>
  bif (v4 != v6) then
  some (.ret false)
  else
  some (.next (w64 (s2 + 1)))
  else
  some (.brk ())
def laws_eqIntS_L1 (a0 : (List Int)) (a1 : (List Int)) (s : Int) : Option (Ctl Int Unit Bool) := laws_eqIntS_L1_b a0 a1 s
def laws_eqIntS_L1_s (a0 : (List Int)) (a1 : (List Int)) (s2 : Int) : St := ⟨[(0, .o (.c (.rs 1 (a0.map encI)))), (1, .o (.c (.rs 1 (a1.map encI)))), (5, .o (.c (.v (.int .i64 s2))))], []⟩
def laws_eqIntS_L1_S (a0 : (List Int)) (a1 : (List Int)) (s : Int) : St := laws_eqIntS_L1_s a0 a1 s
def laws_eqIntS_L1_a : Option Bool :=
  some true
def laws_eqIntS_L1_k (x : (Unit) ⊕ (Bool)) : Option Bool := match x with
  | .inl t => laws_eqIntS_L1_a
  | .inr y => some y
def laws_eqIntS (a0 : (List Int)) (a1 : (List Int)) : Option Bool :=
  bif ((a0.length : Int) != (a1.length : Int)) then
  some false
  else
  (loopM (laws_eqIntS_L1 a0 a1) big 0).bind (laws_eqIntS_L1_k)
theorem laws_eqIntS_ok (a0 : (List Int)) (a1 : (List Int)) (r : Bool) (hM : laws_eqIntS a0 a1 = some r) :
    Con Try.prog 45 [.c (.rs 1 (a0.map encI)), .c (.rs 1 (a1.map encI))] [] (.o (.c (.v (.bool r)))) [] [] := by
  unfold laws_eqIntS at hM
  refine cn (N := 26) (pids := []) Try_mixed Try.func45 (by kernel_rfl) (by kernel_rfl) (by kernel_rfl) rfl fun ρ g w R => ?_
  rcases cond_cases hM with ⟨h1, hM⟩ | ⟨h1, hM⟩
  · have hE : some false = some r := hM
    have hE := Option.some.inj hE
    subst hE
    exact pr R 9999 [.ln (a0.length), .ln (a1.length), .as 10 true] [] [] [] (And.intro (lenm encI a0) (And.intro (lenm encI a1) (And.intro h1 True.intro))) (by kernel_rfl)
  · have K1 : ∀ (_ : Unit), laws_eqIntS_L1_a = some r → Gr R [.code (cAt Try.f45 [1, 1, 1])] (⟨[], []⟩) := by
      intro _ hM
      unfold laws_eqIntS_L1_a at hM
      have hE : some true = some r := hM
      have hE := Option.some.inj hE
      subst hE
      exact pr R 9999 [] [] [] [] True.intro (by kernel_rfl)
    refine pc R 9999 [.ln (a0.length), .ln (a1.length), .as 10 false] [.keep [0, 1, 5] []] (k' := [.code (.loop (cAt Try.f45 [1, 1, 0, 1, 0, 0])), .blk 0, .code (cAt Try.f45 [1, 1, 1])]) (S' := laws_eqIntS_L1_S a0 a1 0) (And.intro (lenm encI a0) (And.intro (lenm encI a1) (And.intro h1 True.intro))) (by kernel_rfl) ?_
    refine lq (laws_eqIntS_L1_S a0 a1) (body := laws_eqIntS_L1 a0 a1) (k := laws_eqIntS_L1_k) hM fun m1 s c1 hM hK1 => ?_
    obtain ⟨s2, hs⟩ : ∃ z, z = s := ⟨_, rfl⟩
    subst hs
    have hM : laws_eqIntS_L1_b a0 a1 s2 = some c1 := hM
    unfold laws_eqIntS_L1_b at hM
    rcases cond_cases hM with ⟨h3, hM⟩ | ⟨h3, hM⟩
    · obtain ⟨v4, h5, hM⟩ := bind_some hM
      obtain ⟨v6, h7, hM⟩ := bind_some hM
      rcases cond_cases hM with ⟨h8, hM⟩ | ⟨h8, hM⟩
      · have hE : some (Ctl.ret false) = some c1 := hM
        have hE := Option.some.inj hE
        subst hE
        have hE : some false = some r := hK1
        have hE := Option.some.inj hE
        subst hE
        exact pr R 9999 [.ln (a0.length), .as 14 true, .ix (encI v4), .ix (encI v6), .as 25 true] [] [] [] (And.intro (lenm encI a0) (And.intro h3 (And.intro (gi_map encI h5) (And.intro (gi_map encI h7) (And.intro h8 True.intro))))) (by kernel_rfl)
      · have hE : some (Ctl.next (w64 (s2 + 1))) = some c1 := hM
        have hE := Option.some.inj hE
        subst hE
        exact pc R 9999 [.ln (a0.length), .as 14 true, .ix (encI v4), .ix (encI v6), .as 25 false] [.keep [0, 1, 5] []] (And.intro (lenm encI a0) (And.intro h3 (And.intro (gi_map encI h5) (And.intro (gi_map encI h7) (And.intro h8 True.intro))))) (by kernel_rfl) (li (Sf := laws_eqIntS_L1_S a0 a1) (M := Mk (laws_eqIntS_L1 a0 a1) (laws_eqIntS_L1_k) r) (k := [.blk 0, .code (cAt Try.f45 [1, 1, 1])]) (Nat.lt_succ_self m1) hK1)
    · have hE : some (Ctl.brk ()) = some c1 := hM
      have hE := Option.some.inj hE
      subst hE
      exact pc R 5 [.ln (a0.length), .as 14 false] [.keep [] []] (And.intro (lenm encI a0) (And.intro h3 True.intro)) (by kernel_rfl) (K1 () hK1)

-- loop.example/g03014/laws.eqNetwork
def laws_eqNetwork (a0 : Network) (a1 : Network) : Option Bool :=
  (laws_eqLegS a0.Legs a1.Legs).bind fun v1 =>
  bif (!v1) then
  some false
  else
  (laws_eqIntS a0.Off a1.Off).bind fun v4 =>
  bif (!v4) then
  some false
  else
  bif (a0.Change != a1.Change) then
  some false
  else
  some true
theorem laws_eqNetwork_ok (a0 : Network) (a1 : Network) (r : Bool) (hM : laws_eqNetwork a0 a1 = some r) :
    Con Try.prog 15 [.agg [.rs 6 (a0.Legs.map Leg.enc), .rs 1 (a0.Off.map encI), .v (.int .i64 a0.Change)], .agg [.rs 6 (a1.Legs.map Leg.enc), .rs 1 (a1.Off.map encI), .v (.int .i64 a1.Change)]] [] (.o (.c (.v (.bool r)))) [] [] := by
  unfold laws_eqNetwork at hM
  refine cn (N := 22) (pids := []) Try_mixed Try.func15 (by kernel_rfl) (by kernel_rfl) (by kernel_rfl) rfl fun ρ g w R => ?_
  obtain ⟨v1, h2, hM⟩ := bind_some hM
  rcases cond_cases hM with ⟨h3, hM⟩ | ⟨h3, hM⟩
  · have hE : some false = some r := hM
    have hE := Option.some.inj hE
    subst hE
    exact pr R 9999 [.new 0, .new 1, .call false [] (.o (.c (.v (.bool v1)))) [] [], .as 10 true] [] [] [] (And.intro (laws_eqLegS_ok a0.Legs a1.Legs v1 h2) (And.intro h3 True.intro)) (by kernel_rfl)
  · obtain ⟨v4, h5, hM⟩ := bind_some hM
    rcases cond_cases hM with ⟨h6, hM⟩ | ⟨h6, hM⟩
    · have hE : some false = some r := hM
      have hE := Option.some.inj hE
      subst hE
      exact pr R 9999 [.new 0, .new 1, .call false [] (.o (.c (.v (.bool v1)))) [] [], .as 10 false, .call false [] (.o (.c (.v (.bool v4)))) [] [], .as 16 true] [] [] [] (And.intro (laws_eqLegS_ok a0.Legs a1.Legs v1 h2) (And.intro h3 (And.intro (laws_eqIntS_ok a0.Off a1.Off v4 h5) (And.intro h6 True.intro)))) (by kernel_rfl)
    · rcases cond_cases hM with ⟨h7, hM⟩ | ⟨h7, hM⟩
      · have hE : some false = some r := hM
        have hE := Option.some.inj hE
        subst hE
        exact pr R 9999 [.new 0, .new 1, .call false [] (.o (.c (.v (.bool v1)))) [] [], .as 10 false, .call false [] (.o (.c (.v (.bool v4)))) [] [], .as 16 false, .as 21 true] [] [] [] (And.intro (laws_eqLegS_ok a0.Legs a1.Legs v1 h2) (And.intro h3 (And.intro (laws_eqIntS_ok a0.Off a1.Off v4 h5) (And.intro h6 (And.intro h7 True.intro))))) (by kernel_rfl)
      · have hE : some true = some r := hM
        have hE := Option.some.inj hE
        subst hE
        exact pr R 9999 [.new 0, .new 1, .call false [] (.o (.c (.v (.bool v1)))) [] [], .as 10 false, .call false [] (.o (.c (.v (.bool v4)))) [] [], .as 16 false, .as 21 false] [] [] [] (And.intro (laws_eqLegS_ok a0.Legs a1.Legs v1 h2) (And.intro h3 (And.intro (laws_eqIntS_ok a0.Off a1.Off v4 h5) (And.intro h6 (And.intro h7 True.intro))))) (by kernel_rfl)

-- loop.example/g03014/laws.eqTripS
def laws_eqTripS_L1_b (a0 : (List Trip)) (a1 : (List Trip)) (s2 : Int) : Option (Ctl Int Unit Bool) :=
  bif (decide (s2 < (a0.length : Int))) then
  (gi a0 s2).bind fun v4 =>
  (gi a1 s2).bind fun v6 =>
  (laws_eqTrip v4 v6).bind fun v8 =>
  bif (!v8) then
  some (.ret false)
  else
  some (.next (w64 (s2 + 1)))
  else
  some (.brk ())
def laws_eqTripS_L1 (a0 : (List Trip)) (a1 : (List Trip)) (s : Int) : Option (Ctl Int Unit Bool) := laws_eqTripS_L1_b a0 a1 s
def laws_eqTripS_L1_s (a0 : (List Trip)) (a1 : (List Trip)) (s2 : Int) : St := ⟨[(0, .o (.c (.rs 2 (a0.map Trip.enc)))), (1, .o (.c (.rs 2 (a1.map Trip.enc)))), (5, .o (.c (.v (.int .i64 s2))))], []⟩
def laws_eqTripS_L1_S (a0 : (List Trip)) (a1 : (List Trip)) (s : Int) : St := laws_eqTripS_L1_s a0 a1 s
def laws_eqTripS_L1_a : Option Bool :=
  some true
def laws_eqTripS_L1_k (x : (Unit) ⊕ (Bool)) : Option Bool := match x with
  | .inl t => laws_eqTripS_L1_a
  | .inr y => some y
def laws_eqTripS (a0 : (List Trip)) (a1 : (List Trip)) : Option Bool :=
  bif ((a0.length : Int) != (a1.length : Int)) then
  some false
  else
  (loopM (laws_eqTripS_L1 a0 a1) big 0).bind (laws_eqTripS_L1_k)
theorem laws_eqTripS_ok (a0 : (List Trip)) (a1 : (List Trip)) (r : Bool) (hM : laws_eqTripS a0 a1 = some r) :
    Con Try.prog 16 [.c (.rs 2 (a0.map Trip.enc)), .c (.rs 2 (a1.map Trip.enc))] [] (.o (.c (.v (.bool r)))) [] [] := by
  unfold laws_eqTripS at hM
  refine cn (N := 27) (pids := []) Try_mixed Try.func16 (by kernel_rfl) (by kernel_rfl) (by kernel_rfl) rfl fun ρ g w R => ?_
  rcases cond_cases hM with ⟨h1, hM⟩ | ⟨h1, hM⟩
  · have hE : some false = some r := hM
    have hE := Option.some.inj hE
    subst hE
    exact pr R 9999 [.ln (a0.length), .ln (a1.length), .as 10 true] [] [] [] (And.intro (lenm Trip.enc a0) (And.intro (lenm Trip.enc a1) (And.intro h1 True.intro))) (by kernel_rfl)
  · have K1 : ∀ (_ : Unit), laws_eqTripS_L1_a = some r → Gr R [.code (cAt Try.f16 [1, 1, 1])] (⟨[], []⟩) := by
      intro _ hM
      unfold laws_eqTripS_L1_a at hM
      have hE : some true = some r := hM
      have hE := Option.some.inj hE
      subst hE
      exact pr R 9999 [] [] [] [] True.intro (by kernel_rfl)
    refine pc R 9999 [.ln (a0.length), .ln (a1.length), .as 10 false] [.keep [0, 1, 5] []] (k' := [.code (.loop (cAt Try.f16 [1, 1, 0, 1, 0, 0])), .blk 0, .code (cAt Try.f16 [1, 1, 1])]) (S' := laws_eqTripS_L1_S a0 a1 0) (And.intro (lenm Trip.enc a0) (And.intro (lenm Trip.enc a1) (And.intro h1 True.intro))) (by kernel_rfl) ?_
    refine lq (laws_eqTripS_L1_S a0 a1) (body := laws_eqTripS_L1 a0 a1) (k := laws_eqTripS_L1_k) hM fun m1 s c1 hM hK1 => ?_
    obtain ⟨s2, hs⟩ : ∃ z, z = s := ⟨_, rfl⟩
    subst hs
    have hM : laws_eqTripS_L1_b a0 a1 s2 = some c1 := hM
    unfold laws_eqTripS_L1_b at hM
    rcases cond_cases hM with ⟨h3, hM⟩ | ⟨h3, hM⟩
    · obtain ⟨v4, h5, hM⟩ := bind_some hM
      obtain ⟨v6, h7, hM⟩ := bind_some hM
      obtain ⟨v8, h9, hM⟩ := bind_some hM
      rcases cond_cases hM with ⟨h10, hM⟩ | ⟨h10, hM⟩
      · have hE : some (Ctl.ret false) = some c1 := hM
        have hE := Option.some.inj hE
        subst hE
        have hE : some false = some r := hK1
        have hE := Option.some.inj hE
        subst hE
        exact pr R 9999 [.ln (a0.length), .as 14 true, .ix (Trip.enc v4), .ix (Trip.enc v6), .call false [] (.o (.c (.v (.bool v8)))) [] [], .as 26 true] [] [] [] (And.intro (lenm Trip.enc a0) (And.intro h3 (And.intro (gi_map Trip.enc h5) (And.intro (gi_map Trip.enc h7) (And.intro (laws_eqTrip_ok v4 v6 v8 h9) (And.intro h10 True.intro)))))) (by kernel_rfl)
      · have hE : some (Ctl.next (w64 (s2 + 1))) = some c1 := hM
        have hE := Option.some.inj hE
        subst hE
        exact pc R 9999 [.ln (a0.length), .as 14 true, .ix (Trip.enc v4), .ix (Trip.enc v6), .call false [] (.o (.c (.v (.bool v8)))) [] [], .as 26 false] [.keep [0, 1, 5] []] (And.intro (lenm Trip.enc a0) (And.intro h3 (And.intro (gi_map Trip.enc h5) (And.intro (gi_map Trip.enc h7) (And.intro (laws_eqTrip_ok v4 v6 v8 h9) (And.intro h10 True.intro)))))) (by kernel_rfl) (li (Sf := laws_eqTripS_L1_S a0 a1) (M := Mk (laws_eqTripS_L1 a0 a1) (laws_eqTripS_L1_k) r) (k := [.blk 0, .code (cAt Try.f16 [1, 1, 1])]) (Nat.lt_succ_self m1) hK1)
    · have hE : some (Ctl.brk ()) = some c1 := hM
      have hE := Option.some.inj hE
      subst hE
      exact pc R 5 [.ln (a0.length), .as 14 false] [.keep [] []] (And.intro (lenm Trip.enc a0) (And.intro h3 True.intro)) (by kernel_rfl) (K1 () hK1)

-- loop.example/g03014/laws.markText
def laws_markText_L1_b (s2 : Int) (s3 : ByteArray) : Option (Ctl (Int × ByteArray) ByteArray ByteArray) :=
  bif (decide (s2 > 0)) then
  (catM (strOfNums ([IntKind.u8.wrap (w64 (48 + (Int.tmod s2 10)))] : List Int)) s3).bind fun v8 =>
  some (.next (w64 (Int.tdiv s2 10), v8))
  else
  some (.brk s3)
def laws_markText_L1 (s : Int × ByteArray) : Option (Ctl (Int × ByteArray) ByteArray ByteArray) := laws_markText_L1_b s.1 s.2
def laws_markText_L1_s (s2 : Int) (s3 : ByteArray) : St := ⟨[(0, .o (.c (.v (.int .i64 s2)))), (3, .o (.c (.v (.string s3))))], []⟩
def laws_markText_L1_S (s : Int × ByteArray) : St := laws_markText_L1_s s.1 s.2
def laws_markText_L1_a (s4 : ByteArray) : Option ByteArray :=
  (catM (ByteArray.mk #[109]) s4).bind fun v5 =>
  some v5
def laws_markText_L1_k (x : (ByteArray) ⊕ (ByteArray)) : Option ByteArray := match x with
  | .inl t => laws_markText_L1_a t
  | .inr y => some y
def laws_markText (a0 : Int) : Option ByteArray :=
  bif (decide (a0 ≤ 0)) then
  some (ByteArray.mk #[109, 48])
  else
  (loopM (laws_markText_L1) big (a0, (ByteArray.mk #[]))).bind (laws_markText_L1_k)
theorem laws_markText_ok (a0 : Int) (r : ByteArray) (hM : laws_markText a0 = some r) :
    Con Try.prog 79 [.c (.v (.int .i64 a0))] [] (.o (.c (.v (.string r)))) [] [] := by
  unfold laws_markText at hM
  refine cn (N := 20) (pids := []) Try_mixed Try.func79 (by kernel_rfl) (by kernel_rfl) (by kernel_rfl) rfl fun ρ g w R => ?_
  rcases cond_cases hM with ⟨h1, hM⟩ | ⟨h1, hM⟩
  · have hE : some (ByteArray.mk #[109, 48]) = some r := hM
    have hE := Option.some.inj hE
    subst hE
    exact pr R 9999 [.as 5 true] [] [] [] (And.intro h1 True.intro) (by kernel_rfl)
  · have K1 : ∀ (s4 : ByteArray), laws_markText_L1_a s4 = some r → Gr R [.code (cAt Try.f79 [1, 1, 1, 1])] (⟨[(3, .o (.c (.v (.string s4))))], []⟩) := by
      intro s4 hM
      unfold laws_markText_L1_a at hM
      obtain ⟨v5, h6, hM⟩ := bind_some hM
      have hE : some v5 = some r := hM
      have hE := Option.some.inj hE
      subst hE
      exact pr R 9999 [.run 19 (.string v5)] [] [] [] (And.intro (catM_run (P := Try.prog) (t := 9) (x := .tmp 0) (y := .tmp 0) h6) True.intro) (by kernel_rfl)
    refine pc R 9999 [.as 5 false] [.keep [0, 3] []] (k' := [.code (.loop (cAt Try.f79 [1, 1, 1, 0, 0, 0])), .blk 0, .code (cAt Try.f79 [1, 1, 1, 1])]) (S' := laws_markText_L1_S (a0, (ByteArray.mk #[]))) (And.intro h1 True.intro) (by kernel_rfl) ?_
    refine lq (laws_markText_L1_S) (body := laws_markText_L1) (k := laws_markText_L1_k) hM fun m1 s c1 hM hK1 => ?_
    obtain ⟨s2, s3⟩ := s
    have hM : laws_markText_L1_b s2 s3 = some c1 := hM
    unfold laws_markText_L1_b at hM
    rcases cond_cases hM with ⟨h7, hM⟩ | ⟨h7, hM⟩
    · obtain ⟨v8, h9, hM⟩ := bind_some hM
      have hE : some (Ctl.next (w64 (Int.tdiv s2 10), v8)) = some c1 := hM
      have hE := Option.some.inj hE
      subst hE
      exact pc R 9999 [.as 7 true, .new 0, .ix [.string (strOfNums ([IntKind.u8.wrap (w64 (48 + (Int.tmod s2 10)))] : List Int))], .run 15 (.string v8)] [.keep [0, 3] []] (And.intro h7 (And.intro (conv_ok ([IntKind.u8.wrap (w64 (48 + (Int.tmod s2 10)))] : List Int)) (And.intro (catM_run (P := Try.prog) (t := 9) (x := .tmp 0) (y := .tmp 0) h9) True.intro))) (by kernel_rfl) (li (Sf := laws_markText_L1_S) (M := Mk (laws_markText_L1) (laws_markText_L1_k) r) (k := [.blk 0, .code (cAt Try.f79 [1, 1, 1, 1])]) (Nat.lt_succ_self m1) hK1)
    · have hE : some (Ctl.brk s3) = some c1 := hM
      have hE := Option.some.inj hE
      subst hE
      exact pc R 5 [.as 7 false] [.keep [3] []] (And.intro h7 True.intro) (by kernel_rfl) (K1 s3 hK1)

-- loop.example/g03014/laws.markLegS
def laws_markLegS_L1_b (s1 : (List Leg)) (s2 : Int) (s3 : Int) : Option (Ctl ((List Leg) × Int × Int) ((List Leg) × Int) (Int × (List Leg))) :=
  bif (decide (s3 < (s1.length : Int))) then
  (laws_markText s2).bind fun v7 =>
  (gi s1 s3).bind fun v9 =>
  (laws_markText (w64 (s2 + 1))).bind fun v11 =>
  (gi (List.set s1 (Int.toNat s3) (Leg.mk v7 v9.To v9.Start v9.Takes v9.Days v9.Room)) s3).bind fun v13 =>
  (gi (List.set (List.set s1 (Int.toNat s3) (Leg.mk v7 v9.To v9.Start v9.Takes v9.Days v9.Room)) (Int.toNat s3) (Leg.mk v13.From v11 v13.Start v13.Takes v13.Days v13.Room)) s3).bind fun v15 =>
  (gi (List.set (List.set (List.set s1 (Int.toNat s3) (Leg.mk v7 v9.To v9.Start v9.Takes v9.Days v9.Room)) (Int.toNat s3) (Leg.mk v13.From v11 v13.Start v13.Takes v13.Days v13.Room)) (Int.toNat s3) (Leg.mk v15.From v15.To (w64 ((w64 (s2 + 1)) + 1)) v15.Takes v15.Days v15.Room)) s3).bind fun v17 =>
  (gi (List.set (List.set (List.set (List.set s1 (Int.toNat s3) (Leg.mk v7 v9.To v9.Start v9.Takes v9.Days v9.Room)) (Int.toNat s3) (Leg.mk v13.From v11 v13.Start v13.Takes v13.Days v13.Room)) (Int.toNat s3) (Leg.mk v15.From v15.To (w64 ((w64 (s2 + 1)) + 1)) v15.Takes v15.Days v15.Room)) (Int.toNat s3) (Leg.mk v17.From v17.To v17.Start (w64 ((w64 ((w64 (s2 + 1)) + 1)) + 1)) v17.Days v17.Room)) s3).bind fun v19 =>
  (gi (List.set (List.set (List.set (List.set (List.set s1 (Int.toNat s3) (Leg.mk v7 v9.To v9.Start v9.Takes v9.Days v9.Room)) (Int.toNat s3) (Leg.mk v13.From v11 v13.Start v13.Takes v13.Days v13.Room)) (Int.toNat s3) (Leg.mk v15.From v15.To (w64 ((w64 (s2 + 1)) + 1)) v15.Takes v15.Days v15.Room)) (Int.toNat s3) (Leg.mk v17.From v17.To v17.Start (w64 ((w64 ((w64 (s2 + 1)) + 1)) + 1)) v17.Days v17.Room)) (Int.toNat s3) (Leg.mk v19.From v19.To v19.Start v19.Takes (w64 ((w64 ((w64 ((w64 (s2 + 1)) + 1)) + 1)) + 1)) v19.Room)) s3).bind fun v21 =>
  some (.next (List.set (List.set (List.set (List.set (List.set (List.set s1 (Int.toNat s3) (Leg.mk v7 v9.To v9.Start v9.Takes v9.Days v9.Room)) (Int.toNat s3) (Leg.mk v13.From v11 v13.Start v13.Takes v13.Days v13.Room)) (Int.toNat s3) (Leg.mk v15.From v15.To (w64 ((w64 (s2 + 1)) + 1)) v15.Takes v15.Days v15.Room)) (Int.toNat s3) (Leg.mk v17.From v17.To v17.Start (w64 ((w64 ((w64 (s2 + 1)) + 1)) + 1)) v17.Days v17.Room)) (Int.toNat s3) (Leg.mk v19.From v19.To v19.Start v19.Takes (w64 ((w64 ((w64 ((w64 (s2 + 1)) + 1)) + 1)) + 1)) v19.Room)) (Int.toNat s3) (Leg.mk v21.From v21.To v21.Start v21.Takes v21.Days (w64 ((w64 ((w64 ((w64 ((w64 (s2 + 1)) + 1)) + 1)) + 1)) + 1))), w64 ((w64 ((w64 ((w64 ((w64 ((w64 (s2 + 1)) + 1)) + 1)) + 1)) + 1)) + 1), w64 (s3 + 1)))
  else
  some (.brk (s1, s2))
def laws_markLegS_L1 (s : (List Leg) × Int × Int) : Option (Ctl ((List Leg) × Int × Int) ((List Leg) × Int) (Int × (List Leg))) := laws_markLegS_L1_b s.1 s.2.1 s.2.2
def laws_markLegS_L1_s (s1 : (List Leg)) (s2 : Int) (s3 : Int) : St := ⟨[(0, .o (.c (.sl 900))), (1, .o (.c (.v (.int .i64 s2)))), (5, .o (.c (.v (.int .i64 s3))))], [(900, .row 95 6 (s1.map Leg.enc))]⟩
def laws_markLegS_L1_S (s : (List Leg) × Int × Int) : St := laws_markLegS_L1_s s.1 s.2.1 s.2.2
def laws_markLegS_L1_a (s4 : (List Leg)) (s5 : Int) : Option (Int × (List Leg)) :=
  some (s5, s4)
def laws_markLegS_L1_k (x : ((List Leg) × Int) ⊕ (Int × (List Leg))) : Option (Int × (List Leg)) := match x with
  | .inl t => laws_markLegS_L1_a t.1 t.2
  | .inr y => some y
def laws_markLegS (a0 : (List Leg)) (a1 : Int) : Option (Int × (List Leg)) :=
  (loopM (laws_markLegS_L1) big (a0, a1, 0)).bind (laws_markLegS_L1_k)
theorem laws_markLegS_ok (a0 : (List Leg)) (a1 : Int) (r : Int × (List Leg)) (hM : laws_markLegS a0 a1 = some r) :
    Con Try.prog 47 [.c (.sl 900), .c (.v (.int .i64 a1))] [(900, .row 95 6 (a0.map Leg.enc))] (.o (.c (.v (.int .i64 r.1)))) [(900, .row 95 6 (r.2.map Leg.enc))] [] := by
  unfold laws_markLegS at hM
  refine cn (N := 57) (pids := [900]) Try_mixed Try.func47 (by kernel_rfl) (by kernel_rfl) (by kernel_rfl) rfl fun ρ g w R => ?_
  have K1 : ∀ (s4 : (List Leg)) (s5 : Int), laws_markLegS_L1_a s4 s5 = some r → Gr R [.code (cAt Try.f47 [1, 1])] (⟨[(0, .o (.c (.sl 900))), (1, .o (.c (.v (.int .i64 s5))))], [(900, .row 95 6 (s4.map Leg.enc))]⟩) := by
    intro s4 s5 hM
    unfold laws_markLegS_L1_a at hM
    have hE : some (s5, s4) = some r := hM
    have hE := Option.some.inj hE
    subst hE
    exact pr R 9999 [] [] [900] [] True.intro (by kernel_rfl)
  refine pc R 9999 [] [.keep [0, 1, 5] [900]] (k' := [.code (.loop (cAt Try.f47 [1, 0, 1, 0, 0])), .blk 0, .code (cAt Try.f47 [1, 1])]) (S' := laws_markLegS_L1_S (a0, a1, 0)) True.intro (by kernel_rfl) ?_
  refine lq (laws_markLegS_L1_S) (body := laws_markLegS_L1) (k := laws_markLegS_L1_k) hM fun m1 s c1 hM hK1 => ?_
  obtain ⟨s1, s2, s3⟩ := s
  have hM : laws_markLegS_L1_b s1 s2 s3 = some c1 := hM
  unfold laws_markLegS_L1_b at hM
  rcases cond_cases hM with ⟨h6, hM⟩ | ⟨h6, hM⟩
  · obtain ⟨v7, h8, hM⟩ := bind_some hM
    obtain ⟨v9, h10, hM⟩ := bind_some hM
    obtain ⟨v11, h12, hM⟩ := bind_some hM
    obtain ⟨v13, h14, hM⟩ := bind_some hM
    obtain ⟨v15, h16, hM⟩ := bind_some hM
    obtain ⟨v17, h18, hM⟩ := bind_some hM
    obtain ⟨v19, h20, hM⟩ := bind_some hM
    obtain ⟨v21, h22, hM⟩ := bind_some hM
    have hE : some (Ctl.next (List.set (List.set (List.set (List.set (List.set (List.set s1 (Int.toNat s3) (Leg.mk v7 v9.To v9.Start v9.Takes v9.Days v9.Room)) (Int.toNat s3) (Leg.mk v13.From v11 v13.Start v13.Takes v13.Days v13.Room)) (Int.toNat s3) (Leg.mk v15.From v15.To (w64 ((w64 (s2 + 1)) + 1)) v15.Takes v15.Days v15.Room)) (Int.toNat s3) (Leg.mk v17.From v17.To v17.Start (w64 ((w64 ((w64 (s2 + 1)) + 1)) + 1)) v17.Days v17.Room)) (Int.toNat s3) (Leg.mk v19.From v19.To v19.Start v19.Takes (w64 ((w64 ((w64 ((w64 (s2 + 1)) + 1)) + 1)) + 1)) v19.Room)) (Int.toNat s3) (Leg.mk v21.From v21.To v21.Start v21.Takes v21.Days (w64 ((w64 ((w64 ((w64 ((w64 (s2 + 1)) + 1)) + 1)) + 1)) + 1))), w64 ((w64 ((w64 ((w64 ((w64 ((w64 (s2 + 1)) + 1)) + 1)) + 1)) + 1)) + 1), w64 (s3 + 1))) = some c1 := hM
    have hE := Option.some.inj hE
    subst hE
    exact pc R 9999 [.ln (s1.length), .as 9 true, .call false [] (.o (.c (.v (.string v7)))) [] [], .ix (Leg.enc v9), .nm ((List.set s1 (Int.toNat s3) (Leg.mk v7 v9.To v9.Start v9.Takes v9.Days v9.Room)).map Leg.enc), .call false [] (.o (.c (.v (.string v11)))) [] [], .ix (Leg.enc v13), .nm ((List.set (List.set s1 (Int.toNat s3) (Leg.mk v7 v9.To v9.Start v9.Takes v9.Days v9.Room)) (Int.toNat s3) (Leg.mk v13.From v11 v13.Start v13.Takes v13.Days v13.Room)).map Leg.enc), .ix (Leg.enc v15), .nm ((List.set (List.set (List.set s1 (Int.toNat s3) (Leg.mk v7 v9.To v9.Start v9.Takes v9.Days v9.Room)) (Int.toNat s3) (Leg.mk v13.From v11 v13.Start v13.Takes v13.Days v13.Room)) (Int.toNat s3) (Leg.mk v15.From v15.To (w64 ((w64 (s2 + 1)) + 1)) v15.Takes v15.Days v15.Room)).map Leg.enc), .ix (Leg.enc v17), .nm ((List.set (List.set (List.set (List.set s1 (Int.toNat s3) (Leg.mk v7 v9.To v9.Start v9.Takes v9.Days v9.Room)) (Int.toNat s3) (Leg.mk v13.From v11 v13.Start v13.Takes v13.Days v13.Room)) (Int.toNat s3) (Leg.mk v15.From v15.To (w64 ((w64 (s2 + 1)) + 1)) v15.Takes v15.Days v15.Room)) (Int.toNat s3) (Leg.mk v17.From v17.To v17.Start (w64 ((w64 ((w64 (s2 + 1)) + 1)) + 1)) v17.Days v17.Room)).map Leg.enc), .ix (Leg.enc v19), .nm ((List.set (List.set (List.set (List.set (List.set s1 (Int.toNat s3) (Leg.mk v7 v9.To v9.Start v9.Takes v9.Days v9.Room)) (Int.toNat s3) (Leg.mk v13.From v11 v13.Start v13.Takes v13.Days v13.Room)) (Int.toNat s3) (Leg.mk v15.From v15.To (w64 ((w64 (s2 + 1)) + 1)) v15.Takes v15.Days v15.Room)) (Int.toNat s3) (Leg.mk v17.From v17.To v17.Start (w64 ((w64 ((w64 (s2 + 1)) + 1)) + 1)) v17.Days v17.Room)) (Int.toNat s3) (Leg.mk v19.From v19.To v19.Start v19.Takes (w64 ((w64 ((w64 ((w64 (s2 + 1)) + 1)) + 1)) + 1)) v19.Room)).map Leg.enc), .ix (Leg.enc v21), .nm ((List.set (List.set (List.set (List.set (List.set (List.set s1 (Int.toNat s3) (Leg.mk v7 v9.To v9.Start v9.Takes v9.Days v9.Room)) (Int.toNat s3) (Leg.mk v13.From v11 v13.Start v13.Takes v13.Days v13.Room)) (Int.toNat s3) (Leg.mk v15.From v15.To (w64 ((w64 (s2 + 1)) + 1)) v15.Takes v15.Days v15.Room)) (Int.toNat s3) (Leg.mk v17.From v17.To v17.Start (w64 ((w64 ((w64 (s2 + 1)) + 1)) + 1)) v17.Days v17.Room)) (Int.toNat s3) (Leg.mk v19.From v19.To v19.Start v19.Takes (w64 ((w64 ((w64 ((w64 (s2 + 1)) + 1)) + 1)) + 1)) v19.Room)) (Int.toNat s3) (Leg.mk v21.From v21.To v21.Start v21.Takes v21.Days (w64 ((w64 ((w64 ((w64 ((w64 (s2 + 1)) + 1)) + 1)) + 1)) + 1)))).map Leg.enc)] [.keep [0, 1, 5] [900]] (And.intro (lenm Leg.enc s1) (And.intro h6 (And.intro (laws_markText_ok s2 v7 h8) (And.intro (gi_lt Leg.enc h10) (And.intro (And.intro (gi_map Leg.enc h10).2 (set_map Leg.enc s1 (Int.toNat s3) (Leg.mk v7 v9.To v9.Start v9.Takes v9.Days v9.Room))) (And.intro (laws_markText_ok (w64 (s2 + 1)) v11 h12) (And.intro (gi_lt Leg.enc h14) (And.intro (And.intro (gi_map Leg.enc h14).2 (set_map Leg.enc (List.set s1 (Int.toNat s3) (Leg.mk v7 v9.To v9.Start v9.Takes v9.Days v9.Room)) (Int.toNat s3) (Leg.mk v13.From v11 v13.Start v13.Takes v13.Days v13.Room))) (And.intro (gi_lt Leg.enc h16) (And.intro (And.intro (gi_map Leg.enc h16).2 (set_map Leg.enc (List.set (List.set s1 (Int.toNat s3) (Leg.mk v7 v9.To v9.Start v9.Takes v9.Days v9.Room)) (Int.toNat s3) (Leg.mk v13.From v11 v13.Start v13.Takes v13.Days v13.Room)) (Int.toNat s3) (Leg.mk v15.From v15.To (w64 ((w64 (s2 + 1)) + 1)) v15.Takes v15.Days v15.Room))) (And.intro (gi_lt Leg.enc h18) (And.intro (And.intro (gi_map Leg.enc h18).2 (set_map Leg.enc (List.set (List.set (List.set s1 (Int.toNat s3) (Leg.mk v7 v9.To v9.Start v9.Takes v9.Days v9.Room)) (Int.toNat s3) (Leg.mk v13.From v11 v13.Start v13.Takes v13.Days v13.Room)) (Int.toNat s3) (Leg.mk v15.From v15.To (w64 ((w64 (s2 + 1)) + 1)) v15.Takes v15.Days v15.Room)) (Int.toNat s3) (Leg.mk v17.From v17.To v17.Start (w64 ((w64 ((w64 (s2 + 1)) + 1)) + 1)) v17.Days v17.Room))) (And.intro (gi_lt Leg.enc h20) (And.intro (And.intro (gi_map Leg.enc h20).2 (set_map Leg.enc (List.set (List.set (List.set (List.set s1 (Int.toNat s3) (Leg.mk v7 v9.To v9.Start v9.Takes v9.Days v9.Room)) (Int.toNat s3) (Leg.mk v13.From v11 v13.Start v13.Takes v13.Days v13.Room)) (Int.toNat s3) (Leg.mk v15.From v15.To (w64 ((w64 (s2 + 1)) + 1)) v15.Takes v15.Days v15.Room)) (Int.toNat s3) (Leg.mk v17.From v17.To v17.Start (w64 ((w64 ((w64 (s2 + 1)) + 1)) + 1)) v17.Days v17.Room)) (Int.toNat s3) (Leg.mk v19.From v19.To v19.Start v19.Takes (w64 ((w64 ((w64 ((w64 (s2 + 1)) + 1)) + 1)) + 1)) v19.Room))) (And.intro (gi_lt Leg.enc h22) (And.intro (And.intro (gi_map Leg.enc h22).2 (set_map Leg.enc (List.set (List.set (List.set (List.set (List.set s1 (Int.toNat s3) (Leg.mk v7 v9.To v9.Start v9.Takes v9.Days v9.Room)) (Int.toNat s3) (Leg.mk v13.From v11 v13.Start v13.Takes v13.Days v13.Room)) (Int.toNat s3) (Leg.mk v15.From v15.To (w64 ((w64 (s2 + 1)) + 1)) v15.Takes v15.Days v15.Room)) (Int.toNat s3) (Leg.mk v17.From v17.To v17.Start (w64 ((w64 ((w64 (s2 + 1)) + 1)) + 1)) v17.Days v17.Room)) (Int.toNat s3) (Leg.mk v19.From v19.To v19.Start v19.Takes (w64 ((w64 ((w64 ((w64 (s2 + 1)) + 1)) + 1)) + 1)) v19.Room)) (Int.toNat s3) (Leg.mk v21.From v21.To v21.Start v21.Takes v21.Days (w64 ((w64 ((w64 ((w64 ((w64 (s2 + 1)) + 1)) + 1)) + 1)) + 1))))) True.intro)))))))))))))))) (by kernel_rfl) (li (Sf := laws_markLegS_L1_S) (M := Mk (laws_markLegS_L1) (laws_markLegS_L1_k) r) (k := [.blk 0, .code (cAt Try.f47 [1, 1])]) (Nat.lt_succ_self m1) hK1)
  · have hE : some (Ctl.brk (s1, s2)) = some c1 := hM
    have hE := Option.some.inj hE
    subst hE
    exact pc R 5 [.ln (s1.length), .as 9 false] [.keep [0, 1] [900]] (And.intro (lenm Leg.enc s1) (And.intro h6 True.intro)) (by kernel_rfl) (K1 s1 s2 hK1)

-- loop.example/g03014/laws.markIntS
def laws_markIntS_L1_b (s1 : (List Int)) (s2 : Int) (s3 : Int) : Option (Ctl ((List Int) × Int × Int) ((List Int) × Int) (Int × (List Int))) :=
  bif (decide (s3 < (s1.length : Int))) then
  (gi s1 s3).bind fun v7 =>
  some (.next (List.set s1 (Int.toNat s3) s2, w64 (s2 + 1), w64 (s3 + 1)))
  else
  some (.brk (s1, s2))
def laws_markIntS_L1 (s : (List Int) × Int × Int) : Option (Ctl ((List Int) × Int × Int) ((List Int) × Int) (Int × (List Int))) := laws_markIntS_L1_b s.1 s.2.1 s.2.2
def laws_markIntS_L1_s (s1 : (List Int)) (s2 : Int) (s3 : Int) : St := ⟨[(0, .o (.c (.sl 900))), (1, .o (.c (.v (.int .i64 s2)))), (5, .o (.c (.v (.int .i64 s3))))], [(900, .row 3 1 (s1.map encI))]⟩
def laws_markIntS_L1_S (s : (List Int) × Int × Int) : St := laws_markIntS_L1_s s.1 s.2.1 s.2.2
def laws_markIntS_L1_a (s4 : (List Int)) (s5 : Int) : Option (Int × (List Int)) :=
  some (s5, s4)
def laws_markIntS_L1_k (x : ((List Int) × Int) ⊕ (Int × (List Int))) : Option (Int × (List Int)) := match x with
  | .inl t => laws_markIntS_L1_a t.1 t.2
  | .inr y => some y
def laws_markIntS (a0 : (List Int)) (a1 : Int) : Option (Int × (List Int)) :=
  (loopM (laws_markIntS_L1) big (a0, a1, 0)).bind (laws_markIntS_L1_k)
theorem laws_markIntS_ok (a0 : (List Int)) (a1 : Int) (r : Int × (List Int)) (hM : laws_markIntS a0 a1 = some r) :
    Con Try.prog 48 [.c (.sl 900), .c (.v (.int .i64 a1))] [(900, .row 3 1 (a0.map encI))] (.o (.c (.v (.int .i64 r.1)))) [(900, .row 3 1 (r.2.map encI))] [] := by
  unfold laws_markIntS at hM
  refine cn (N := 19) (pids := [900]) Try_mixed Try.func48 (by kernel_rfl) (by kernel_rfl) (by kernel_rfl) rfl fun ρ g w R => ?_
  have K1 : ∀ (s4 : (List Int)) (s5 : Int), laws_markIntS_L1_a s4 s5 = some r → Gr R [.code (cAt Try.f48 [1, 1])] (⟨[(0, .o (.c (.sl 900))), (1, .o (.c (.v (.int .i64 s5))))], [(900, .row 3 1 (s4.map encI))]⟩) := by
    intro s4 s5 hM
    unfold laws_markIntS_L1_a at hM
    have hE : some (s5, s4) = some r := hM
    have hE := Option.some.inj hE
    subst hE
    exact pr R 9999 [] [] [900] [] True.intro (by kernel_rfl)
  refine pc R 9999 [] [.keep [0, 1, 5] [900]] (k' := [.code (.loop (cAt Try.f48 [1, 0, 1, 0, 0])), .blk 0, .code (cAt Try.f48 [1, 1])]) (S' := laws_markIntS_L1_S (a0, a1, 0)) True.intro (by kernel_rfl) ?_
  refine lq (laws_markIntS_L1_S) (body := laws_markIntS_L1) (k := laws_markIntS_L1_k) hM fun m1 s c1 hM hK1 => ?_
  obtain ⟨s1, s2, s3⟩ := s
  have hM : laws_markIntS_L1_b s1 s2 s3 = some c1 := hM
  unfold laws_markIntS_L1_b at hM
  rcases cond_cases hM with ⟨h6, hM⟩ | ⟨h6, hM⟩
  · obtain ⟨v7, h8, hM⟩ := bind_some hM
    have hE : some (Ctl.next (List.set s1 (Int.toNat s3) s2, w64 (s2 + 1), w64 (s3 + 1))) = some c1 := hM
    have hE := Option.some.inj hE
    subst hE
    exact pc R 9999 [.ln (s1.length), .as 9 true, .ix (encI v7), .nm ((List.set s1 (Int.toNat s3) s2).map encI)] [.keep [0, 1, 5] [900]] (And.intro (lenm encI s1) (And.intro h6 (And.intro (gi_lt encI h8) (And.intro (And.intro (gi_map encI h8).2 (set_map encI s1 (Int.toNat s3) s2)) True.intro)))) (by kernel_rfl) (li (Sf := laws_markIntS_L1_S) (M := Mk (laws_markIntS_L1) (laws_markIntS_L1_k) r) (k := [.blk 0, .code (cAt Try.f48 [1, 1])]) (Nat.lt_succ_self m1) hK1)
  · have hE : some (Ctl.brk (s1, s2)) = some c1 := hM
    have hE := Option.some.inj hE
    subst hE
    exact pc R 5 [.ln (s1.length), .as 9 false] [.keep [0, 1] [900]] (And.intro (lenm encI s1) (And.intro h6 True.intro)) (by kernel_rfl) (K1 s1 s2 hK1)

-- loop.example/g03014/laws.markNetwork
def laws_markNetwork (a0 : Network) (a1 : Int) : Option (Int × Network) :=
  (laws_markLegS a0.Legs a1).bind fun v1 =>
  (laws_markIntS a0.Off v1.1).bind fun v3 =>
  some (v3.1, (Network.mk v1.2 v3.2 a0.Change))
theorem laws_markNetwork_ok (a0 : Network) (a1 : Int) (r : Int × Network) (hM : laws_markNetwork a0 a1 = some r) :
    Con Try.prog 17 [.agg [.sl 900, .sl 920, .v (.int .i64 a0.Change)], .c (.v (.int .i64 a1))] [(900, .row 95 6 (a0.Legs.map Leg.enc)), (920, .row 3 1 (a0.Off.map encI))] (.o (.c (.v (.int .i64 r.1)))) [(900, .row 95 6 (r.2.Legs.map Leg.enc)), (920, .row 3 1 (r.2.Off.map encI))] [] := by
  unfold laws_markNetwork at hM
  refine cn (N := 14) (pids := [900, 920]) Try_mixed Try.func17 (by kernel_rfl) (by kernel_rfl) (by kernel_rfl) rfl fun ρ g w R => ?_
  obtain ⟨v1, h2, hM⟩ := bind_some hM
  obtain ⟨v3, h4, hM⟩ := bind_some hM
  have hE : some (v3.1, (Network.mk v1.2 v3.2 a0.Change)) = some r := hM
  have hE := Option.some.inj hE
  subst hE
  exact pr R 9999 [.new 0, .call false [900] (.o (.c (.v (.int .i64 v1.1)))) [(900, .row 95 6 (v1.2.map Leg.enc))] [], .call false [920] (.o (.c (.v (.int .i64 v3.1)))) [(920, .row 3 1 (v3.2.map encI))] []] [] [900, 920] [] (And.intro (And.intro (con_sw 900 900 (laws_markLegS_ok a0.Legs a1 v1 h2)) (rfl : ([900] : List Nat) = [900])) (And.intro (And.intro (con_sw 900 920 (laws_markIntS_ok a0.Off v1.1 v3 h4)) (rfl : ([920] : List Nat) = [920])) True.intro)) (by kernel_rfl)

-- loop.example/g03014/laws.markBookingS
def laws_markBookingS_L1_b (s1 : (List Booking)) (s2 : Int) (s3 : Int) : Option (Ctl ((List Booking) × Int × Int) ((List Booking) × Int) (Int × (List Booking))) :=
  bif (decide (s3 < (s1.length : Int))) then
  (gi s1 s3).bind fun v7 =>
  (gi (List.set s1 (Int.toNat s3) (Booking.mk s2 v7.Trip v7.Weight)) s3).bind fun v9 =>
  (gi (List.set (List.set s1 (Int.toNat s3) (Booking.mk s2 v7.Trip v7.Weight)) (Int.toNat s3) (Booking.mk v9.Thing (Trip.mk (w64 (s2 + 1)) v9.Trip.Day) v9.Weight)) s3).bind fun v11 =>
  (gi (List.set (List.set (List.set s1 (Int.toNat s3) (Booking.mk s2 v7.Trip v7.Weight)) (Int.toNat s3) (Booking.mk v9.Thing (Trip.mk (w64 (s2 + 1)) v9.Trip.Day) v9.Weight)) (Int.toNat s3) (Booking.mk v11.Thing (Trip.mk v11.Trip.Leg (w64 ((w64 (s2 + 1)) + 1))) v11.Weight)) s3).bind fun v13 =>
  some (.next (List.set (List.set (List.set (List.set s1 (Int.toNat s3) (Booking.mk s2 v7.Trip v7.Weight)) (Int.toNat s3) (Booking.mk v9.Thing (Trip.mk (w64 (s2 + 1)) v9.Trip.Day) v9.Weight)) (Int.toNat s3) (Booking.mk v11.Thing (Trip.mk v11.Trip.Leg (w64 ((w64 (s2 + 1)) + 1))) v11.Weight)) (Int.toNat s3) (Booking.mk v13.Thing v13.Trip (w64 ((w64 ((w64 (s2 + 1)) + 1)) + 1))), w64 ((w64 ((w64 ((w64 (s2 + 1)) + 1)) + 1)) + 1), w64 (s3 + 1)))
  else
  some (.brk (s1, s2))
def laws_markBookingS_L1 (s : (List Booking) × Int × Int) : Option (Ctl ((List Booking) × Int × Int) ((List Booking) × Int) (Int × (List Booking))) := laws_markBookingS_L1_b s.1 s.2.1 s.2.2
def laws_markBookingS_L1_s (s1 : (List Booking)) (s2 : Int) (s3 : Int) : St := ⟨[(0, .o (.c (.sl 900))), (1, .o (.c (.v (.int .i64 s2)))), (5, .o (.c (.v (.int .i64 s3))))], [(900, .row 57 4 (s1.map Booking.enc))]⟩
def laws_markBookingS_L1_S (s : (List Booking) × Int × Int) : St := laws_markBookingS_L1_s s.1 s.2.1 s.2.2
def laws_markBookingS_L1_a (s4 : (List Booking)) (s5 : Int) : Option (Int × (List Booking)) :=
  some (s5, s4)
def laws_markBookingS_L1_k (x : ((List Booking) × Int) ⊕ (Int × (List Booking))) : Option (Int × (List Booking)) := match x with
  | .inl t => laws_markBookingS_L1_a t.1 t.2
  | .inr y => some y
def laws_markBookingS (a0 : (List Booking)) (a1 : Int) : Option (Int × (List Booking)) :=
  (loopM (laws_markBookingS_L1) big (a0, a1, 0)).bind (laws_markBookingS_L1_k)
theorem laws_markBookingS_ok (a0 : (List Booking)) (a1 : Int) (r : Int × (List Booking)) (hM : laws_markBookingS a0 a1 = some r) :
    Con Try.prog 18 [.c (.sl 900), .c (.v (.int .i64 a1))] [(900, .row 57 4 (a0.map Booking.enc))] (.o (.c (.v (.int .i64 r.1)))) [(900, .row 57 4 (r.2.map Booking.enc))] [] := by
  unfold laws_markBookingS at hM
  refine cn (N := 43) (pids := [900]) Try_mixed Try.func18 (by kernel_rfl) (by kernel_rfl) (by kernel_rfl) rfl fun ρ g w R => ?_
  have K1 : ∀ (s4 : (List Booking)) (s5 : Int), laws_markBookingS_L1_a s4 s5 = some r → Gr R [.code (cAt Try.f18 [1, 1])] (⟨[(0, .o (.c (.sl 900))), (1, .o (.c (.v (.int .i64 s5))))], [(900, .row 57 4 (s4.map Booking.enc))]⟩) := by
    intro s4 s5 hM
    unfold laws_markBookingS_L1_a at hM
    have hE : some (s5, s4) = some r := hM
    have hE := Option.some.inj hE
    subst hE
    exact pr R 9999 [] [] [900] [] True.intro (by kernel_rfl)
  refine pc R 9999 [] [.keep [0, 1, 5] [900]] (k' := [.code (.loop (cAt Try.f18 [1, 0, 1, 0, 0])), .blk 0, .code (cAt Try.f18 [1, 1])]) (S' := laws_markBookingS_L1_S (a0, a1, 0)) True.intro (by kernel_rfl) ?_
  refine lq (laws_markBookingS_L1_S) (body := laws_markBookingS_L1) (k := laws_markBookingS_L1_k) hM fun m1 s c1 hM hK1 => ?_
  obtain ⟨s1, s2, s3⟩ := s
  have hM : laws_markBookingS_L1_b s1 s2 s3 = some c1 := hM
  unfold laws_markBookingS_L1_b at hM
  rcases cond_cases hM with ⟨h6, hM⟩ | ⟨h6, hM⟩
  · obtain ⟨v7, h8, hM⟩ := bind_some hM
    obtain ⟨v9, h10, hM⟩ := bind_some hM
    obtain ⟨v11, h12, hM⟩ := bind_some hM
    obtain ⟨v13, h14, hM⟩ := bind_some hM
    have hE : some (Ctl.next (List.set (List.set (List.set (List.set s1 (Int.toNat s3) (Booking.mk s2 v7.Trip v7.Weight)) (Int.toNat s3) (Booking.mk v9.Thing (Trip.mk (w64 (s2 + 1)) v9.Trip.Day) v9.Weight)) (Int.toNat s3) (Booking.mk v11.Thing (Trip.mk v11.Trip.Leg (w64 ((w64 (s2 + 1)) + 1))) v11.Weight)) (Int.toNat s3) (Booking.mk v13.Thing v13.Trip (w64 ((w64 ((w64 (s2 + 1)) + 1)) + 1))), w64 ((w64 ((w64 ((w64 (s2 + 1)) + 1)) + 1)) + 1), w64 (s3 + 1))) = some c1 := hM
    have hE := Option.some.inj hE
    subst hE
    exact pc R 9999 [.ln (s1.length), .as 9 true, .ix (Booking.enc v7), .nm ((List.set s1 (Int.toNat s3) (Booking.mk s2 v7.Trip v7.Weight)).map Booking.enc), .ix (Booking.enc v9), .nm ((List.set (List.set s1 (Int.toNat s3) (Booking.mk s2 v7.Trip v7.Weight)) (Int.toNat s3) (Booking.mk v9.Thing (Trip.mk (w64 (s2 + 1)) v9.Trip.Day) v9.Weight)).map Booking.enc), .ix (Booking.enc v11), .nm ((List.set (List.set (List.set s1 (Int.toNat s3) (Booking.mk s2 v7.Trip v7.Weight)) (Int.toNat s3) (Booking.mk v9.Thing (Trip.mk (w64 (s2 + 1)) v9.Trip.Day) v9.Weight)) (Int.toNat s3) (Booking.mk v11.Thing (Trip.mk v11.Trip.Leg (w64 ((w64 (s2 + 1)) + 1))) v11.Weight)).map Booking.enc), .ix (Booking.enc v13), .nm ((List.set (List.set (List.set (List.set s1 (Int.toNat s3) (Booking.mk s2 v7.Trip v7.Weight)) (Int.toNat s3) (Booking.mk v9.Thing (Trip.mk (w64 (s2 + 1)) v9.Trip.Day) v9.Weight)) (Int.toNat s3) (Booking.mk v11.Thing (Trip.mk v11.Trip.Leg (w64 ((w64 (s2 + 1)) + 1))) v11.Weight)) (Int.toNat s3) (Booking.mk v13.Thing v13.Trip (w64 ((w64 ((w64 (s2 + 1)) + 1)) + 1)))).map Booking.enc)] [.keep [0, 1, 5] [900]] (And.intro (lenm Booking.enc s1) (And.intro h6 (And.intro (gi_lt Booking.enc h8) (And.intro (And.intro (gi_map Booking.enc h8).2 (set_map Booking.enc s1 (Int.toNat s3) (Booking.mk s2 v7.Trip v7.Weight))) (And.intro (gi_lt Booking.enc h10) (And.intro (And.intro (gi_map Booking.enc h10).2 (set_map Booking.enc (List.set s1 (Int.toNat s3) (Booking.mk s2 v7.Trip v7.Weight)) (Int.toNat s3) (Booking.mk v9.Thing (Trip.mk (w64 (s2 + 1)) v9.Trip.Day) v9.Weight))) (And.intro (gi_lt Booking.enc h12) (And.intro (And.intro (gi_map Booking.enc h12).2 (set_map Booking.enc (List.set (List.set s1 (Int.toNat s3) (Booking.mk s2 v7.Trip v7.Weight)) (Int.toNat s3) (Booking.mk v9.Thing (Trip.mk (w64 (s2 + 1)) v9.Trip.Day) v9.Weight)) (Int.toNat s3) (Booking.mk v11.Thing (Trip.mk v11.Trip.Leg (w64 ((w64 (s2 + 1)) + 1))) v11.Weight))) (And.intro (gi_lt Booking.enc h14) (And.intro (And.intro (gi_map Booking.enc h14).2 (set_map Booking.enc (List.set (List.set (List.set s1 (Int.toNat s3) (Booking.mk s2 v7.Trip v7.Weight)) (Int.toNat s3) (Booking.mk v9.Thing (Trip.mk (w64 (s2 + 1)) v9.Trip.Day) v9.Weight)) (Int.toNat s3) (Booking.mk v11.Thing (Trip.mk v11.Trip.Leg (w64 ((w64 (s2 + 1)) + 1))) v11.Weight)) (Int.toNat s3) (Booking.mk v13.Thing v13.Trip (w64 ((w64 ((w64 (s2 + 1)) + 1)) + 1))))) True.intro)))))))))) (by kernel_rfl) (li (Sf := laws_markBookingS_L1_S) (M := Mk (laws_markBookingS_L1) (laws_markBookingS_L1_k) r) (k := [.blk 0, .code (cAt Try.f18 [1, 1])]) (Nat.lt_succ_self m1) hK1)
  · have hE : some (Ctl.brk (s1, s2)) = some c1 := hM
    have hE := Option.some.inj hE
    subst hE
    exact pc R 5 [.ln (s1.length), .as 9 false] [.keep [0, 1] [900]] (And.intro (lenm Booking.enc s1) (And.intro h6 True.intro)) (by kernel_rfl) (K1 s1 s2 hK1)

-- loop.example/g03014/laws.markTripS
def laws_markTripS_L1_b (s1 : (List Trip)) (s2 : Int) (s3 : Int) : Option (Ctl ((List Trip) × Int × Int) ((List Trip) × Int) (Int × (List Trip))) :=
  bif (decide (s3 < (s1.length : Int))) then
  (gi s1 s3).bind fun v7 =>
  (gi (List.set s1 (Int.toNat s3) (Trip.mk s2 v7.Day)) s3).bind fun v9 =>
  some (.next (List.set (List.set s1 (Int.toNat s3) (Trip.mk s2 v7.Day)) (Int.toNat s3) (Trip.mk v9.Leg (w64 (s2 + 1))), w64 ((w64 (s2 + 1)) + 1), w64 (s3 + 1)))
  else
  some (.brk (s1, s2))
def laws_markTripS_L1 (s : (List Trip) × Int × Int) : Option (Ctl ((List Trip) × Int × Int) ((List Trip) × Int) (Int × (List Trip))) := laws_markTripS_L1_b s.1 s.2.1 s.2.2
def laws_markTripS_L1_s (s1 : (List Trip)) (s2 : Int) (s3 : Int) : St := ⟨[(0, .o (.c (.sl 900))), (1, .o (.c (.v (.int .i64 s2)))), (5, .o (.c (.v (.int .i64 s3))))], [(900, .row 55 2 (s1.map Trip.enc))]⟩
def laws_markTripS_L1_S (s : (List Trip) × Int × Int) : St := laws_markTripS_L1_s s.1 s.2.1 s.2.2
def laws_markTripS_L1_a (s4 : (List Trip)) (s5 : Int) : Option (Int × (List Trip)) :=
  some (s5, s4)
def laws_markTripS_L1_k (x : ((List Trip) × Int) ⊕ (Int × (List Trip))) : Option (Int × (List Trip)) := match x with
  | .inl t => laws_markTripS_L1_a t.1 t.2
  | .inr y => some y
def laws_markTripS (a0 : (List Trip)) (a1 : Int) : Option (Int × (List Trip)) :=
  (loopM (laws_markTripS_L1) big (a0, a1, 0)).bind (laws_markTripS_L1_k)
theorem laws_markTripS_ok (a0 : (List Trip)) (a1 : Int) (r : Int × (List Trip)) (hM : laws_markTripS a0 a1 = some r) :
    Con Try.prog 19 [.c (.sl 900), .c (.v (.int .i64 a1))] [(900, .row 55 2 (a0.map Trip.enc))] (.o (.c (.v (.int .i64 r.1)))) [(900, .row 55 2 (r.2.map Trip.enc))] [] := by
  unfold laws_markTripS at hM
  refine cn (N := 27) (pids := [900]) Try_mixed Try.func19 (by kernel_rfl) (by kernel_rfl) (by kernel_rfl) rfl fun ρ g w R => ?_
  have K1 : ∀ (s4 : (List Trip)) (s5 : Int), laws_markTripS_L1_a s4 s5 = some r → Gr R [.code (cAt Try.f19 [1, 1])] (⟨[(0, .o (.c (.sl 900))), (1, .o (.c (.v (.int .i64 s5))))], [(900, .row 55 2 (s4.map Trip.enc))]⟩) := by
    intro s4 s5 hM
    unfold laws_markTripS_L1_a at hM
    have hE : some (s5, s4) = some r := hM
    have hE := Option.some.inj hE
    subst hE
    exact pr R 9999 [] [] [900] [] True.intro (by kernel_rfl)
  refine pc R 9999 [] [.keep [0, 1, 5] [900]] (k' := [.code (.loop (cAt Try.f19 [1, 0, 1, 0, 0])), .blk 0, .code (cAt Try.f19 [1, 1])]) (S' := laws_markTripS_L1_S (a0, a1, 0)) True.intro (by kernel_rfl) ?_
  refine lq (laws_markTripS_L1_S) (body := laws_markTripS_L1) (k := laws_markTripS_L1_k) hM fun m1 s c1 hM hK1 => ?_
  obtain ⟨s1, s2, s3⟩ := s
  have hM : laws_markTripS_L1_b s1 s2 s3 = some c1 := hM
  unfold laws_markTripS_L1_b at hM
  rcases cond_cases hM with ⟨h6, hM⟩ | ⟨h6, hM⟩
  · obtain ⟨v7, h8, hM⟩ := bind_some hM
    obtain ⟨v9, h10, hM⟩ := bind_some hM
    have hE : some (Ctl.next (List.set (List.set s1 (Int.toNat s3) (Trip.mk s2 v7.Day)) (Int.toNat s3) (Trip.mk v9.Leg (w64 (s2 + 1))), w64 ((w64 (s2 + 1)) + 1), w64 (s3 + 1))) = some c1 := hM
    have hE := Option.some.inj hE
    subst hE
    exact pc R 9999 [.ln (s1.length), .as 9 true, .ix (Trip.enc v7), .nm ((List.set s1 (Int.toNat s3) (Trip.mk s2 v7.Day)).map Trip.enc), .ix (Trip.enc v9), .nm ((List.set (List.set s1 (Int.toNat s3) (Trip.mk s2 v7.Day)) (Int.toNat s3) (Trip.mk v9.Leg (w64 (s2 + 1)))).map Trip.enc)] [.keep [0, 1, 5] [900]] (And.intro (lenm Trip.enc s1) (And.intro h6 (And.intro (gi_lt Trip.enc h8) (And.intro (And.intro (gi_map Trip.enc h8).2 (set_map Trip.enc s1 (Int.toNat s3) (Trip.mk s2 v7.Day))) (And.intro (gi_lt Trip.enc h10) (And.intro (And.intro (gi_map Trip.enc h10).2 (set_map Trip.enc (List.set s1 (Int.toNat s3) (Trip.mk s2 v7.Day)) (Int.toNat s3) (Trip.mk v9.Leg (w64 (s2 + 1))))) True.intro)))))) (by kernel_rfl) (li (Sf := laws_markTripS_L1_S) (M := Mk (laws_markTripS_L1) (laws_markTripS_L1_k) r) (k := [.blk 0, .code (cAt Try.f19 [1, 1])]) (Nat.lt_succ_self m1) hK1)
  · have hE : some (Ctl.brk (s1, s2)) = some c1 := hM
    have hE := Option.some.inj hE
    subst hE
    exact pc R 5 [.ln (s1.length), .as 9 false] [.keep [0, 1] [900]] (And.intro (lenm Trip.enc s1) (And.intro h6 True.intro)) (by kernel_rfl) (K1 s1 s2 hK1)

-- loop.example/g03014/laws.heldBookingS
def laws_heldBookingS_L1_b (a0 : (List Booking)) (s1 : Int) (s2 : Int) : Option (Ctl (Int × Int) Int Int) :=
  bif (decide (s2 < (a0.length : Int))) then
  (gi a0 s2).bind fun v5 =>
  bif (v5.Thing != s1) then
  some (.ret (-1))
  else
  (gi a0 s2).bind fun v8 =>
  bif (v8.Trip.Leg != (w64 (s1 + 1))) then
  some (.ret (-1))
  else
  (gi a0 s2).bind fun v11 =>
  bif (v11.Trip.Day != (w64 ((w64 (s1 + 1)) + 1))) then
  some (.ret (-1))
  else
  (gi a0 s2).bind fun v14 =>
  bif (v14.Weight != (w64 ((w64 ((w64 (s1 + 1)) + 1)) + 1))) then
  some (.ret (-1))
  else
  some (.next (w64 ((w64 ((w64 ((w64 (s1 + 1)) + 1)) + 1)) + 1), w64 (s2 + 1)))
  else
  some (.brk s1)
def laws_heldBookingS_L1 (a0 : (List Booking)) (s : Int × Int) : Option (Ctl (Int × Int) Int Int) := laws_heldBookingS_L1_b a0 s.1 s.2
def laws_heldBookingS_L1_s (a0 : (List Booking)) (s1 : Int) (s2 : Int) : St := ⟨[(0, .o (.c (.rs 4 (a0.map Booking.enc)))), (1, .o (.c (.v (.int .i64 s1)))), (5, .o (.c (.v (.int .i64 s2))))], []⟩
def laws_heldBookingS_L1_S (a0 : (List Booking)) (s : Int × Int) : St := laws_heldBookingS_L1_s a0 s.1 s.2
def laws_heldBookingS_L1_a (s3 : Int) : Option Int :=
  some s3
def laws_heldBookingS_L1_k (x : (Int) ⊕ (Int)) : Option Int := match x with
  | .inl t => laws_heldBookingS_L1_a t
  | .inr y => some y
def laws_heldBookingS (a0 : (List Booking)) (a1 : Int) : Option Int :=
  (loopM (laws_heldBookingS_L1 a0) big (a1, 0)).bind (laws_heldBookingS_L1_k)
theorem laws_heldBookingS_ok (a0 : (List Booking)) (a1 : Int) (r : Int) (hM : laws_heldBookingS a0 a1 = some r) :
    Con Try.prog 20 [.c (.rs 4 (a0.map Booking.enc)), .c (.v (.int .i64 a1))] [] (.o (.c (.v (.int .i64 r)))) [] [] := by
  unfold laws_heldBookingS at hM
  refine cn (N := 51) (pids := []) Try_mixed Try.func20 (by kernel_rfl) (by kernel_rfl) (by kernel_rfl) rfl fun ρ g w R => ?_
  have K1 : ∀ (s3 : Int), laws_heldBookingS_L1_a s3 = some r → Gr R [.code (cAt Try.f20 [1, 1])] (⟨[(1, .o (.c (.v (.int .i64 s3))))], []⟩) := by
    intro s3 hM
    unfold laws_heldBookingS_L1_a at hM
    have hE : some s3 = some r := hM
    have hE := Option.some.inj hE
    subst hE
    exact pr R 9999 [] [] [] [] True.intro (by kernel_rfl)
  refine pc R 9999 [] [.keep [0, 1, 5] []] (k' := [.code (.loop (cAt Try.f20 [1, 0, 1, 0, 0])), .blk 0, .code (cAt Try.f20 [1, 1])]) (S' := laws_heldBookingS_L1_S a0 (a1, 0)) True.intro (by kernel_rfl) ?_
  refine lq (laws_heldBookingS_L1_S a0) (body := laws_heldBookingS_L1 a0) (k := laws_heldBookingS_L1_k) hM fun m1 s c1 hM hK1 => ?_
  obtain ⟨s1, s2⟩ := s
  have hM : laws_heldBookingS_L1_b a0 s1 s2 = some c1 := hM
  unfold laws_heldBookingS_L1_b at hM
  rcases cond_cases hM with ⟨h4, hM⟩ | ⟨h4, hM⟩
  · obtain ⟨v5, h6, hM⟩ := bind_some hM
    rcases cond_cases hM with ⟨h7, hM⟩ | ⟨h7, hM⟩
    · have hE : some (Ctl.ret (-1)) = some c1 := hM
      have hE := Option.some.inj hE
      subst hE
      have hE : some (-1) = some r := hK1
      have hE := Option.some.inj hE
      subst hE
      exact pr R 9999 [.ln (a0.length), .as 9 true, .ix (Booking.enc v5), .as 18 true] [] [] [] (And.intro (lenm Booking.enc a0) (And.intro h4 (And.intro (gi_map Booking.enc h6) (And.intro h7 True.intro)))) (by kernel_rfl)
    · obtain ⟨v8, h9, hM⟩ := bind_some hM
      rcases cond_cases hM with ⟨h10, hM⟩ | ⟨h10, hM⟩
      · have hE : some (Ctl.ret (-1)) = some c1 := hM
        have hE := Option.some.inj hE
        subst hE
        have hE : some (-1) = some r := hK1
        have hE := Option.some.inj hE
        subst hE
        exact pr R 9999 [.ln (a0.length), .as 9 true, .ix (Booking.enc v5), .as 18 false, .ix (Booking.enc v8), .as 28 true] [] [] [] (And.intro (lenm Booking.enc a0) (And.intro h4 (And.intro (gi_map Booking.enc h6) (And.intro h7 (And.intro (gi_map Booking.enc h9) (And.intro h10 True.intro)))))) (by kernel_rfl)
      · obtain ⟨v11, h12, hM⟩ := bind_some hM
        rcases cond_cases hM with ⟨h13, hM⟩ | ⟨h13, hM⟩
        · have hE : some (Ctl.ret (-1)) = some c1 := hM
          have hE := Option.some.inj hE
          subst hE
          have hE : some (-1) = some r := hK1
          have hE := Option.some.inj hE
          subst hE
          exact pr R 9999 [.ln (a0.length), .as 9 true, .ix (Booking.enc v5), .as 18 false, .ix (Booking.enc v8), .as 28 false, .ix (Booking.enc v11), .as 38 true] [] [] [] (And.intro (lenm Booking.enc a0) (And.intro h4 (And.intro (gi_map Booking.enc h6) (And.intro h7 (And.intro (gi_map Booking.enc h9) (And.intro h10 (And.intro (gi_map Booking.enc h12) (And.intro h13 True.intro)))))))) (by kernel_rfl)
        · obtain ⟨v14, h15, hM⟩ := bind_some hM
          rcases cond_cases hM with ⟨h16, hM⟩ | ⟨h16, hM⟩
          · have hE : some (Ctl.ret (-1)) = some c1 := hM
            have hE := Option.some.inj hE
            subst hE
            have hE : some (-1) = some r := hK1
            have hE := Option.some.inj hE
            subst hE
            exact pr R 9999 [.ln (a0.length), .as 9 true, .ix (Booking.enc v5), .as 18 false, .ix (Booking.enc v8), .as 28 false, .ix (Booking.enc v11), .as 38 false, .ix (Booking.enc v14), .as 47 true] [] [] [] (And.intro (lenm Booking.enc a0) (And.intro h4 (And.intro (gi_map Booking.enc h6) (And.intro h7 (And.intro (gi_map Booking.enc h9) (And.intro h10 (And.intro (gi_map Booking.enc h12) (And.intro h13 (And.intro (gi_map Booking.enc h15) (And.intro h16 True.intro)))))))))) (by kernel_rfl)
          · have hE : some (Ctl.next (w64 ((w64 ((w64 ((w64 (s1 + 1)) + 1)) + 1)) + 1), w64 (s2 + 1))) = some c1 := hM
            have hE := Option.some.inj hE
            subst hE
            exact pc R 9999 [.ln (a0.length), .as 9 true, .ix (Booking.enc v5), .as 18 false, .ix (Booking.enc v8), .as 28 false, .ix (Booking.enc v11), .as 38 false, .ix (Booking.enc v14), .as 47 false] [.keep [0, 1, 5] []] (And.intro (lenm Booking.enc a0) (And.intro h4 (And.intro (gi_map Booking.enc h6) (And.intro h7 (And.intro (gi_map Booking.enc h9) (And.intro h10 (And.intro (gi_map Booking.enc h12) (And.intro h13 (And.intro (gi_map Booking.enc h15) (And.intro h16 True.intro)))))))))) (by kernel_rfl) (li (Sf := laws_heldBookingS_L1_S a0) (M := Mk (laws_heldBookingS_L1 a0) (laws_heldBookingS_L1_k) r) (k := [.blk 0, .code (cAt Try.f20 [1, 1])]) (Nat.lt_succ_self m1) hK1)
  · have hE : some (Ctl.brk s1) = some c1 := hM
    have hE := Option.some.inj hE
    subst hE
    exact pc R 5 [.ln (a0.length), .as 9 false] [.keep [1] []] (And.intro (lenm Booking.enc a0) (And.intro h4 True.intro)) (by kernel_rfl) (K1 s1 hK1)

-- loop.example/g03014/laws.FnExactBookWay
def laws_FnExactBookWay_x1 (a0 : Network) (a1 : (List Booking)) (a2 : Int) (a3 : Int) (a4 : (List Trip)) (v16 : ((List Booking) × Bool)) (v18 : Network) (v20 : (List Booking)) (v22 : (List Trip)) (v24 : ((List Booking) × Bool)) (v32 : Bool) : St := ⟨[(1, .o (.c (.rs 4 (a1.map Booking.enc)))), (2, .o (.c (.v (.int .i64 a2)))), (3, .o (.c (.v (.int .i64 a3)))), (4, .o (.c (.rs 2 (a4.map Trip.enc)))), (5, .o (.c (.ptr 0 0))), (12, .o (.c (.sl 5))), (13, .o (.c (.v (.bool v16.2)))), (14, .o (.c (.ptr 8 0))), (15, .o (.c (.sl 9))), (16, .o (.c (.sl 10))), (17, .o (.c (.sl 11))), (18, .o (.c (.v (.bool v24.2)))), (79, .o (.c (.v (.bool (!v32)))))], [(0, .box 25 [.rs 6 (a0.Legs.map Leg.enc), .rs 1 (a0.Off.map encI), .v (.int .i64 a0.Change)]), (5, .row 57 4 (v16.1.map Booking.enc)), (8, .box 36 [.sl 6, .sl 7, .v (.int .i64 v18.Change)]), (6, .row 95 6 (v18.Legs.map Leg.enc)), (7, .row 3 1 (v18.Off.map encI)), (9, .row 57 4 (v20.map Booking.enc)), (10, .row 55 2 (v22.map Trip.enc)), (11, .row 57 4 (v24.1.map Booking.enc))]⟩
def laws_FnExactBookWay (a0 : Network) (a1 : (List Booking)) (a2 : Int) (a3 : Int) (a4 : (List Trip)) : Option Bool :=
  (laws_szNetwork a0 1048576).bind fun v1 =>
  bif (decide (v1 < 0)) then
  some true
  else
  (laws_szBookingS a1 v1).bind fun v4 =>
  bif (decide (v4 < 0)) then
  some true
  else
  (laws_szTripS a4 v4).bind fun v7 =>
  bif (decide (v7 < 0)) then
  some true
  else
  (laws_toNetwork a0).bind fun v10 =>
  (laws_toBookingS a1).bind fun v12 =>
  (laws_toTripS a4).bind fun v14 =>
  (spec_BookWay v10 v12 a2 a3 v14).bind fun v16 =>
  (laws_toNetwork a0).bind fun v18 =>
  (laws_toBookingS a1).bind fun v20 =>
  (laws_toTripS a4).bind fun v22 =>
  (impl_BookWay v18 v20 a2 a3 v22).bind fun v24 =>
  (laws_eqBookingS v24.1 v16.1).bind fun v26 =>
  bif (!v26) then
  some false
  else
  bif (!(v24.2 == v16.2)) then
  some false
  else
  (laws_toNetwork a0).bind fun v30 =>
  (laws_eqNetwork v18 v30).bind fun v32 =>
  bif (!v32) then
  some false
  else
  (laws_toBookingS a1).bind fun v35 =>
  (laws_eqBookingS v20 v35).bind fun v37 =>
  bif (!v37) then
  some false
  else
  (laws_toTripS a4).bind fun v40 =>
  (laws_eqTripS v22 v40).bind fun v42 =>
  bif (!v42) then
  some false
  else
  (laws_markNetwork v18 1).bind fun v45 =>
  (laws_markBookingS v20 v45.1).bind fun v47 =>
  (laws_markTripS v22 v47.1).bind fun v49 =>
  bif (decide (v49.1 < 0)) then
  some false
  else
  (laws_eqBookingS v24.1 v16.1).bind fun v52 =>
  bif (!v52) then
  some false
  else
  bif (!(v24.2 == v16.2)) then
  some false
  else
  (laws_markBookingS v24.1 1).bind fun v56 =>
  (laws_heldBookingS v56.2 1).bind fun v58 =>
  bif (decide (v58 < 0)) then
  some false
  else
  bif (v58 != v56.1) then
  some false
  else
  (laws_toNetwork a0).bind fun v62 =>
  (laws_toBookingS a1).bind fun v64 =>
  (laws_toTripS a4).bind fun v66 =>
  (impl_BookWay v62 v64 a2 a3 v66).bind fun v68 =>
  (laws_eqBookingS v68.1 v16.1).bind fun v70 =>
  bif (!v70) then
  some false
  else
  bif (!(v68.2 == v16.2)) then
  some false
  else
  (laws_heldBookingS v56.2 1).bind fun v74 =>
  bif (decide (v74 < 0)) then
  some false
  else
  bif (v74 != v56.1) then
  some false
  else
  some true
theorem laws_FnExactBookWay_ok (a0 : Network) (a1 : (List Booking)) (a2 : Int) (a3 : Int) (a4 : (List Trip)) (r : Bool) (hM : laws_FnExactBookWay a0 a1 a2 a3 a4 = some r) :
    Con Try.prog 3 [.agg [.rs 6 (a0.Legs.map Leg.enc), .rs 1 (a0.Off.map encI), .v (.int .i64 a0.Change)], .c (.rs 4 (a1.map Booking.enc)), .c (.v (.int .i64 a2)), .c (.v (.int .i64 a3)), .c (.rs 2 (a4.map Trip.enc))] [] (.o (.c (.v (.bool r)))) [] [] := by
  unfold laws_FnExactBookWay at hM
  refine cn (N := 152) (pids := []) Try_mixed Try.func3 (by kernel_rfl) (by kernel_rfl) (by kernel_rfl) rfl fun ρ g w R => ?_
  obtain ⟨v1, h2, hM⟩ := bind_some hM
  rcases cond_cases hM with ⟨h3, hM⟩ | ⟨h3, hM⟩
  · have hE : some true = some r := hM
    have hE := Option.some.inj hE
    subst hE
    exact pr R 9999 [.new 0, .call false [] (.o (.c (.v (.int .i64 v1)))) [] [], .as 28 true] [] [] [] (And.intro (laws_szNetwork_ok a0 1048576 v1 h2) (And.intro h3 True.intro)) (by kernel_rfl)
  · obtain ⟨v4, h5, hM⟩ := bind_some hM
    rcases cond_cases hM with ⟨h6, hM⟩ | ⟨h6, hM⟩
    · have hE : some true = some r := hM
      have hE := Option.some.inj hE
      subst hE
      exact pr R 9999 [.new 0, .call false [] (.o (.c (.v (.int .i64 v1)))) [] [], .as 28 false, .call false [] (.o (.c (.v (.int .i64 v4)))) [] [], .as 33 true] [] [] [] (And.intro (laws_szNetwork_ok a0 1048576 v1 h2) (And.intro h3 (And.intro (laws_szBookingS_ok a1 v1 v4 h5) (And.intro h6 True.intro)))) (by kernel_rfl)
    · obtain ⟨v7, h8, hM⟩ := bind_some hM
      rcases cond_cases hM with ⟨h9, hM⟩ | ⟨h9, hM⟩
      · have hE : some true = some r := hM
        have hE := Option.some.inj hE
        subst hE
        exact pr R 9999 [.new 0, .call false [] (.o (.c (.v (.int .i64 v1)))) [] [], .as 28 false, .call false [] (.o (.c (.v (.int .i64 v4)))) [] [], .as 33 false, .call false [] (.o (.c (.v (.int .i64 v7)))) [] [], .as 38 true] [] [] [] (And.intro (laws_szNetwork_ok a0 1048576 v1 h2) (And.intro h3 (And.intro (laws_szBookingS_ok a1 v1 v4 h5) (And.intro h6 (And.intro (laws_szTripS_ok a4 v4 v7 h8) (And.intro h9 True.intro)))))) (by kernel_rfl)
      · obtain ⟨v10, h11, hM⟩ := bind_some hM
        obtain ⟨v12, h13, hM⟩ := bind_some hM
        obtain ⟨v14, h15, hM⟩ := bind_some hM
        obtain ⟨v16, h17, hM⟩ := bind_some hM
        obtain ⟨v18, h19, hM⟩ := bind_some hM
        obtain ⟨v20, h21, hM⟩ := bind_some hM
        obtain ⟨v22, h23, hM⟩ := bind_some hM
        obtain ⟨v24, h25, hM⟩ := bind_some hM
        obtain ⟨v26, h27, hM⟩ := bind_some hM
        rcases cond_cases hM with ⟨h28, hM⟩ | ⟨h28, hM⟩
        · have hE : some false = some r := hM
          have hE := Option.some.inj hE
          subst hE
          exact pr R 9999 [.new 0, .call false [] (.o (.c (.v (.int .i64 v1)))) [] [], .as 28 false, .call false [] (.o (.c (.v (.int .i64 v4)))) [] [], .as 33 false, .call false [] (.o (.c (.v (.int .i64 v7)))) [] [], .as 38 false, .call false [] (.o (.agg [.sl 1, .sl 2, .v (.int .i64 v10.Change)])) [] [(1, .row 95 6 (v10.Legs.map Leg.enc)), (2, .row 3 1 (v10.Off.map encI))], .call false [] (.o (.c (.sl 3))) [] [(3, .row 57 4 (v12.map Booking.enc))], .call false [] (.o (.c (.sl 4))) [] [(4, .row 55 2 (v14.map Trip.enc))], .call false [] (.tup [.c (.sl 5), .c (.v (.bool v16.2))]) [] [(5, .row 57 4 (v16.1.map Booking.enc))], .call false [] (.o (.agg [.sl 6, .sl 7, .v (.int .i64 v18.Change)])) [] [(6, .row 95 6 (v18.Legs.map Leg.enc)), (7, .row 3 1 (v18.Off.map encI))], .new 8, .call false [] (.o (.c (.sl 9))) [] [(9, .row 57 4 (v20.map Booking.enc))], .call false [] (.o (.c (.sl 10))) [] [(10, .row 55 2 (v22.map Trip.enc))], .call false [] (.tup [.c (.sl 11), .c (.v (.bool v24.2))]) [] [(11, .row 57 4 (v24.1.map Booking.enc))], .call false [] (.o (.c (.v (.bool v26)))) [] [], .as 70 true] [] [] [] (And.intro (laws_szNetwork_ok a0 1048576 v1 h2) (And.intro h3 (And.intro (laws_szBookingS_ok a1 v1 v4 h5) (And.intro h6 (And.intro (laws_szTripS_ok a4 v4 v7 h8) (And.intro h9 (And.intro (And.intro (con_sw 1001 2 (con_sw 1000 1 (laws_toNetwork_ok a0 v10 h11))) (rfl : ([] : List Nat) = [])) (And.intro (And.intro (con_sw 1000 3 (laws_toBookingS_ok a1 v12 h13)) (rfl : ([] : List Nat) = [])) (And.intro (And.intro (con_sw 1000 4 (laws_toTripS_ok a4 v14 h15)) (rfl : ([] : List Nat) = [])) (And.intro (And.intro (con_sw 1000 5 (spec_BookWay_ok v10 v12 a2 a3 v14 v16 h17)) (rfl : ([] : List Nat) = [])) (And.intro (And.intro (con_sw 1001 7 (con_sw 1000 6 (laws_toNetwork_ok a0 v18 h19))) (rfl : ([] : List Nat) = [])) (And.intro (And.intro (con_sw 1000 9 (laws_toBookingS_ok a1 v20 h21)) (rfl : ([] : List Nat) = [])) (And.intro (And.intro (con_sw 1000 10 (laws_toTripS_ok a4 v22 h23)) (rfl : ([] : List Nat) = [])) (And.intro (And.intro (con_sw 1000 11 (impl_BookWay_ok v18 v20 a2 a3 v22 v24 h25)) (rfl : ([] : List Nat) = [])) (And.intro (laws_eqBookingS_ok v24.1 v16.1 v26 h27) (And.intro h28 True.intro)))))))))))))))) (by kernel_rfl)
        · rcases cond_cases hM with ⟨h29, hM⟩ | ⟨h29, hM⟩
          · have hE : some false = some r := hM
            have hE := Option.some.inj hE
            subst hE
            exact pr R 9999 [.new 0, .call false [] (.o (.c (.v (.int .i64 v1)))) [] [], .as 28 false, .call false [] (.o (.c (.v (.int .i64 v4)))) [] [], .as 33 false, .call false [] (.o (.c (.v (.int .i64 v7)))) [] [], .as 38 false, .call false [] (.o (.agg [.sl 1, .sl 2, .v (.int .i64 v10.Change)])) [] [(1, .row 95 6 (v10.Legs.map Leg.enc)), (2, .row 3 1 (v10.Off.map encI))], .call false [] (.o (.c (.sl 3))) [] [(3, .row 57 4 (v12.map Booking.enc))], .call false [] (.o (.c (.sl 4))) [] [(4, .row 55 2 (v14.map Trip.enc))], .call false [] (.tup [.c (.sl 5), .c (.v (.bool v16.2))]) [] [(5, .row 57 4 (v16.1.map Booking.enc))], .call false [] (.o (.agg [.sl 6, .sl 7, .v (.int .i64 v18.Change)])) [] [(6, .row 95 6 (v18.Legs.map Leg.enc)), (7, .row 3 1 (v18.Off.map encI))], .new 8, .call false [] (.o (.c (.sl 9))) [] [(9, .row 57 4 (v20.map Booking.enc))], .call false [] (.o (.c (.sl 10))) [] [(10, .row 55 2 (v22.map Trip.enc))], .call false [] (.tup [.c (.sl 11), .c (.v (.bool v24.2))]) [] [(11, .row 57 4 (v24.1.map Booking.enc))], .call false [] (.o (.c (.v (.bool v26)))) [] [], .as 70 false, .as 74 true] [] [] [] (And.intro (laws_szNetwork_ok a0 1048576 v1 h2) (And.intro h3 (And.intro (laws_szBookingS_ok a1 v1 v4 h5) (And.intro h6 (And.intro (laws_szTripS_ok a4 v4 v7 h8) (And.intro h9 (And.intro (And.intro (con_sw 1001 2 (con_sw 1000 1 (laws_toNetwork_ok a0 v10 h11))) (rfl : ([] : List Nat) = [])) (And.intro (And.intro (con_sw 1000 3 (laws_toBookingS_ok a1 v12 h13)) (rfl : ([] : List Nat) = [])) (And.intro (And.intro (con_sw 1000 4 (laws_toTripS_ok a4 v14 h15)) (rfl : ([] : List Nat) = [])) (And.intro (And.intro (con_sw 1000 5 (spec_BookWay_ok v10 v12 a2 a3 v14 v16 h17)) (rfl : ([] : List Nat) = [])) (And.intro (And.intro (con_sw 1001 7 (con_sw 1000 6 (laws_toNetwork_ok a0 v18 h19))) (rfl : ([] : List Nat) = [])) (And.intro (And.intro (con_sw 1000 9 (laws_toBookingS_ok a1 v20 h21)) (rfl : ([] : List Nat) = [])) (And.intro (And.intro (con_sw 1000 10 (laws_toTripS_ok a4 v22 h23)) (rfl : ([] : List Nat) = [])) (And.intro (And.intro (con_sw 1000 11 (impl_BookWay_ok v18 v20 a2 a3 v22 v24 h25)) (rfl : ([] : List Nat) = [])) (And.intro (laws_eqBookingS_ok v24.1 v16.1 v26 h27) (And.intro h28 (And.intro h29 True.intro))))))))))))))))) (by kernel_rfl)
          · obtain ⟨v30, h31, hM⟩ := bind_some hM
            obtain ⟨v32, h33, hM⟩ := bind_some hM
            rcases cond_cases hM with ⟨h34, hM⟩ | ⟨h34, hM⟩
            · have hE : some false = some r := hM
              have hE := Option.some.inj hE
              subst hE
              exact pr R 9999 [.new 0, .call false [] (.o (.c (.v (.int .i64 v1)))) [] [], .as 28 false, .call false [] (.o (.c (.v (.int .i64 v4)))) [] [], .as 33 false, .call false [] (.o (.c (.v (.int .i64 v7)))) [] [], .as 38 false, .call false [] (.o (.agg [.sl 1, .sl 2, .v (.int .i64 v10.Change)])) [] [(1, .row 95 6 (v10.Legs.map Leg.enc)), (2, .row 3 1 (v10.Off.map encI))], .call false [] (.o (.c (.sl 3))) [] [(3, .row 57 4 (v12.map Booking.enc))], .call false [] (.o (.c (.sl 4))) [] [(4, .row 55 2 (v14.map Trip.enc))], .call false [] (.tup [.c (.sl 5), .c (.v (.bool v16.2))]) [] [(5, .row 57 4 (v16.1.map Booking.enc))], .call false [] (.o (.agg [.sl 6, .sl 7, .v (.int .i64 v18.Change)])) [] [(6, .row 95 6 (v18.Legs.map Leg.enc)), (7, .row 3 1 (v18.Off.map encI))], .new 8, .call false [] (.o (.c (.sl 9))) [] [(9, .row 57 4 (v20.map Booking.enc))], .call false [] (.o (.c (.sl 10))) [] [(10, .row 55 2 (v22.map Trip.enc))], .call false [] (.tup [.c (.sl 11), .c (.v (.bool v24.2))]) [] [(11, .row 57 4 (v24.1.map Booking.enc))], .call false [] (.o (.c (.v (.bool v26)))) [] [], .as 70 false, .as 74 false, .xo [[], [], [.call false [] (.o (.agg [.sl 12, .sl 13, .v (.int .i64 v30.Change)])) [] [(12, .row 95 6 (v30.Legs.map Leg.enc)), (13, .row 3 1 (v30.Off.map encI))]], [.call false [] (.o (.c (.v (.bool v32)))) [] []], []] [.keep [1, 2, 3, 4, 5, 12, 13, 14, 15, 16, 17, 18, 79] [0, 5, 8, 6, 7, 9, 10, 11]] (laws_FnExactBookWay_x1 a0 a1 a2 a3 a4 v16 v18 v20 v22 v24 v32), .as 79 true] [] [] [] (And.intro (laws_szNetwork_ok a0 1048576 v1 h2) (And.intro h3 (And.intro (laws_szBookingS_ok a1 v1 v4 h5) (And.intro h6 (And.intro (laws_szTripS_ok a4 v4 v7 h8) (And.intro h9 (And.intro (And.intro (con_sw 1001 2 (con_sw 1000 1 (laws_toNetwork_ok a0 v10 h11))) (rfl : ([] : List Nat) = [])) (And.intro (And.intro (con_sw 1000 3 (laws_toBookingS_ok a1 v12 h13)) (rfl : ([] : List Nat) = [])) (And.intro (And.intro (con_sw 1000 4 (laws_toTripS_ok a4 v14 h15)) (rfl : ([] : List Nat) = [])) (And.intro (And.intro (con_sw 1000 5 (spec_BookWay_ok v10 v12 a2 a3 v14 v16 h17)) (rfl : ([] : List Nat) = [])) (And.intro (And.intro (con_sw 1001 7 (con_sw 1000 6 (laws_toNetwork_ok a0 v18 h19))) (rfl : ([] : List Nat) = [])) (And.intro (And.intro (con_sw 1000 9 (laws_toBookingS_ok a1 v20 h21)) (rfl : ([] : List Nat) = [])) (And.intro (And.intro (con_sw 1000 10 (laws_toTripS_ok a4 v22 h23)) (rfl : ([] : List Nat) = [])) (And.intro (And.intro (con_sw 1000 11 (impl_BookWay_ok v18 v20 a2 a3 v22 v24 h25)) (rfl : ([] : List Nat) = [])) (And.intro (laws_eqBookingS_ok v24.1 v16.1 v26 h27) (And.intro h28 (And.intro h29 (And.intro (And.intro (con_sw 1001 13 (con_sw 1000 12 (laws_toNetwork_ok a0 v30 h31))) (rfl : ([] : List Nat) = [])) (And.intro (laws_eqNetwork_ok v18 v30 v32 h33) (And.intro (rfl : (laws_FnExactBookWay_x1 a0 a1 a2 a3 a4 v16 v18 v20 v22 v24 v32) = (laws_FnExactBookWay_x1 a0 a1 a2 a3 a4 v16 v18 v20 v22 v24 v32)) (And.intro (And.intro (con_sw 1001 13 (con_sw 1000 12 (laws_toNetwork_ok a0 v30 h31))) (rfl : ([] : List Nat) = [])) (And.intro (laws_eqNetwork_ok v18 v30 v32 h33) (And.intro (rfl : (laws_FnExactBookWay_x1 a0 a1 a2 a3 a4 v16 v18 v20 v22 v24 v32) = (laws_FnExactBookWay_x1 a0 a1 a2 a3 a4 v16 v18 v20 v22 v24 v32)) (And.intro (And.intro (con_sw 1001 13 (con_sw 1000 12 (laws_toNetwork_ok a0 v30 h31))) (rfl : ([] : List Nat) = [])) (And.intro (laws_eqNetwork_ok v18 v30 v32 h33) (And.intro (rfl : (laws_FnExactBookWay_x1 a0 a1 a2 a3 a4 v16 v18 v20 v22 v24 v32) = (laws_FnExactBookWay_x1 a0 a1 a2 a3 a4 v16 v18 v20 v22 v24 v32)) (And.intro h34 True.intro))))))))))))))))))))))))))) (by kernel_rfl)
            · obtain ⟨v35, h36, hM⟩ := bind_some hM
              obtain ⟨v37, h38, hM⟩ := bind_some hM
              rcases cond_cases hM with ⟨h39, hM⟩ | ⟨h39, hM⟩
              · have hE : some false = some r := hM
                have hE := Option.some.inj hE
                subst hE
                exact pr R 9999 [.new 0, .call false [] (.o (.c (.v (.int .i64 v1)))) [] [], .as 28 false, .call false [] (.o (.c (.v (.int .i64 v4)))) [] [], .as 33 false, .call false [] (.o (.c (.v (.int .i64 v7)))) [] [], .as 38 false, .call false [] (.o (.agg [.sl 1, .sl 2, .v (.int .i64 v10.Change)])) [] [(1, .row 95 6 (v10.Legs.map Leg.enc)), (2, .row 3 1 (v10.Off.map encI))], .call false [] (.o (.c (.sl 3))) [] [(3, .row 57 4 (v12.map Booking.enc))], .call false [] (.o (.c (.sl 4))) [] [(4, .row 55 2 (v14.map Trip.enc))], .call false [] (.tup [.c (.sl 5), .c (.v (.bool v16.2))]) [] [(5, .row 57 4 (v16.1.map Booking.enc))], .call false [] (.o (.agg [.sl 6, .sl 7, .v (.int .i64 v18.Change)])) [] [(6, .row 95 6 (v18.Legs.map Leg.enc)), (7, .row 3 1 (v18.Off.map encI))], .new 8, .call false [] (.o (.c (.sl 9))) [] [(9, .row 57 4 (v20.map Booking.enc))], .call false [] (.o (.c (.sl 10))) [] [(10, .row 55 2 (v22.map Trip.enc))], .call false [] (.tup [.c (.sl 11), .c (.v (.bool v24.2))]) [] [(11, .row 57 4 (v24.1.map Booking.enc))], .call false [] (.o (.c (.v (.bool v26)))) [] [], .as 70 false, .as 74 false, .xo [[], [], [.call false [] (.o (.agg [.sl 12, .sl 13, .v (.int .i64 v30.Change)])) [] [(12, .row 95 6 (v30.Legs.map Leg.enc)), (13, .row 3 1 (v30.Off.map encI))]], [.call false [] (.o (.c (.v (.bool v32)))) [] []], []] [.keep [1, 2, 3, 4, 5, 12, 13, 14, 15, 16, 17, 18, 79] [0, 5, 8, 6, 7, 9, 10, 11]] (laws_FnExactBookWay_x1 a0 a1 a2 a3 a4 v16 v18 v20 v22 v24 v32), .as 79 false, .call false [] (.o (.c (.sl 14))) [] [(14, .row 57 4 (v35.map Booking.enc))], .call false [] (.o (.c (.v (.bool v37)))) [] [], .as 84 true] [] [] [] (And.intro (laws_szNetwork_ok a0 1048576 v1 h2) (And.intro h3 (And.intro (laws_szBookingS_ok a1 v1 v4 h5) (And.intro h6 (And.intro (laws_szTripS_ok a4 v4 v7 h8) (And.intro h9 (And.intro (And.intro (con_sw 1001 2 (con_sw 1000 1 (laws_toNetwork_ok a0 v10 h11))) (rfl : ([] : List Nat) = [])) (And.intro (And.intro (con_sw 1000 3 (laws_toBookingS_ok a1 v12 h13)) (rfl : ([] : List Nat) = [])) (And.intro (And.intro (con_sw 1000 4 (laws_toTripS_ok a4 v14 h15)) (rfl : ([] : List Nat) = [])) (And.intro (And.intro (con_sw 1000 5 (spec_BookWay_ok v10 v12 a2 a3 v14 v16 h17)) (rfl : ([] : List Nat) = [])) (And.intro (And.intro (con_sw 1001 7 (con_sw 1000 6 (laws_toNetwork_ok a0 v18 h19))) (rfl : ([] : List Nat) = [])) (And.intro (And.intro (con_sw 1000 9 (laws_toBookingS_ok a1 v20 h21)) (rfl : ([] : List Nat) = [])) (And.intro (And.intro (con_sw 1000 10 (laws_toTripS_ok a4 v22 h23)) (rfl : ([] : List Nat) = [])) (And.intro (And.intro (con_sw 1000 11 (impl_BookWay_ok v18 v20 a2 a3 v22 v24 h25)) (rfl : ([] : List Nat) = [])) (And.intro (laws_eqBookingS_ok v24.1 v16.1 v26 h27) (And.intro h28 (And.intro h29 (And.intro (And.intro (con_sw 1001 13 (con_sw 1000 12 (laws_toNetwork_ok a0 v30 h31))) (rfl : ([] : List Nat) = [])) (And.intro (laws_eqNetwork_ok v18 v30 v32 h33) (And.intro (rfl : (laws_FnExactBookWay_x1 a0 a1 a2 a3 a4 v16 v18 v20 v22 v24 v32) = (laws_FnExactBookWay_x1 a0 a1 a2 a3 a4 v16 v18 v20 v22 v24 v32)) (And.intro (And.intro (con_sw 1001 13 (con_sw 1000 12 (laws_toNetwork_ok a0 v30 h31))) (rfl : ([] : List Nat) = [])) (And.intro (laws_eqNetwork_ok v18 v30 v32 h33) (And.intro (rfl : (laws_FnExactBookWay_x1 a0 a1 a2 a3 a4 v16 v18 v20 v22 v24 v32) = (laws_FnExactBookWay_x1 a0 a1 a2 a3 a4 v16 v18 v20 v22 v24 v32)) (And.intro (And.intro (con_sw 1001 13 (con_sw 1000 12 (laws_toNetwork_ok a0 v30 h31))) (rfl : ([] : List Nat) = [])) (And.intro (laws_eqNetwork_ok v18 v30 v32 h33) (And.intro (rfl : (laws_FnExactBookWay_x1 a0 a1 a2 a3 a4 v16 v18 v20 v22 v24 v32) = (laws_FnExactBookWay_x1 a0 a1 a2 a3 a4 v16 v18 v20 v22 v24 v32)) (And.intro h34 (And.intro (And.intro (con_sw 1000 14 (laws_toBookingS_ok a1 v35 h36)) (rfl : ([] : List Nat) = [])) (And.intro (laws_eqBookingS_ok v20 v35 v37 h38) (And.intro h39 True.intro)))))))))))))))))))))))))))))) (by kernel_rfl)
              · obtain ⟨v40, h41, hM⟩ := bind_some hM
                obtain ⟨v42, h43, hM⟩ := bind_some hM
                rcases cond_cases hM with ⟨h44, hM⟩ | ⟨h44, hM⟩
                · have hE : some false = some r := hM
                  have hE := Option.some.inj hE
                  subst hE
                  exact pr R 9999 [.new 0, .call false [] (.o (.c (.v (.int .i64 v1)))) [] [], .as 28 false, .call false [] (.o (.c (.v (.int .i64 v4)))) [] [], .as 33 false, .call false [] (.o (.c (.v (.int .i64 v7)))) [] [], .as 38 false, .call false [] (.o (.agg [.sl 1, .sl 2, .v (.int .i64 v10.Change)])) [] [(1, .row 95 6 (v10.Legs.map Leg.enc)), (2, .row 3 1 (v10.Off.map encI))], .call false [] (.o (.c (.sl 3))) [] [(3, .row 57 4 (v12.map Booking.enc))], .call false [] (.o (.c (.sl 4))) [] [(4, .row 55 2 (v14.map Trip.enc))], .call false [] (.tup [.c (.sl 5), .c (.v (.bool v16.2))]) [] [(5, .row 57 4 (v16.1.map Booking.enc))], .call false [] (.o (.agg [.sl 6, .sl 7, .v (.int .i64 v18.Change)])) [] [(6, .row 95 6 (v18.Legs.map Leg.enc)), (7, .row 3 1 (v18.Off.map encI))], .new 8, .call false [] (.o (.c (.sl 9))) [] [(9, .row 57 4 (v20.map Booking.enc))], .call false [] (.o (.c (.sl 10))) [] [(10, .row 55 2 (v22.map Trip.enc))], .call false [] (.tup [.c (.sl 11), .c (.v (.bool v24.2))]) [] [(11, .row 57 4 (v24.1.map Booking.enc))], .call false [] (.o (.c (.v (.bool v26)))) [] [], .as 70 false, .as 74 false, .xo [[], [], [.call false [] (.o (.agg [.sl 12, .sl 13, .v (.int .i64 v30.Change)])) [] [(12, .row 95 6 (v30.Legs.map Leg.enc)), (13, .row 3 1 (v30.Off.map encI))]], [.call false [] (.o (.c (.v (.bool v32)))) [] []], []] [.keep [1, 2, 3, 4, 5, 12, 13, 14, 15, 16, 17, 18, 79] [0, 5, 8, 6, 7, 9, 10, 11]] (laws_FnExactBookWay_x1 a0 a1 a2 a3 a4 v16 v18 v20 v22 v24 v32), .as 79 false, .call false [] (.o (.c (.sl 14))) [] [(14, .row 57 4 (v35.map Booking.enc))], .call false [] (.o (.c (.v (.bool v37)))) [] [], .as 84 false, .call false [] (.o (.c (.sl 15))) [] [(15, .row 55 2 (v40.map Trip.enc))], .call false [] (.o (.c (.v (.bool v42)))) [] [], .as 89 true] [] [] [] (And.intro (laws_szNetwork_ok a0 1048576 v1 h2) (And.intro h3 (And.intro (laws_szBookingS_ok a1 v1 v4 h5) (And.intro h6 (And.intro (laws_szTripS_ok a4 v4 v7 h8) (And.intro h9 (And.intro (And.intro (con_sw 1001 2 (con_sw 1000 1 (laws_toNetwork_ok a0 v10 h11))) (rfl : ([] : List Nat) = [])) (And.intro (And.intro (con_sw 1000 3 (laws_toBookingS_ok a1 v12 h13)) (rfl : ([] : List Nat) = [])) (And.intro (And.intro (con_sw 1000 4 (laws_toTripS_ok a4 v14 h15)) (rfl : ([] : List Nat) = [])) (And.intro (And.intro (con_sw 1000 5 (spec_BookWay_ok v10 v12 a2 a3 v14 v16 h17)) (rfl : ([] : List Nat) = [])) (And.intro (And.intro (con_sw 1001 7 (con_sw 1000 6 (laws_toNetwork_ok a0 v18 h19))) (rfl : ([] : List Nat) = [])) (And.intro (And.intro (con_sw 1000 9 (laws_toBookingS_ok a1 v20 h21)) (rfl : ([] : List Nat) = [])) (And.intro (And.intro (con_sw 1000 10 (laws_toTripS_ok a4 v22 h23)) (rfl : ([] : List Nat) = [])) (And.intro (And.intro (con_sw 1000 11 (impl_BookWay_ok v18 v20 a2 a3 v22 v24 h25)) (rfl : ([] : List Nat) = [])) (And.intro (laws_eqBookingS_ok v24.1 v16.1 v26 h27) (And.intro h28 (And.intro h29 (And.intro (And.intro (con_sw 1001 13 (con_sw 1000 12 (laws_toNetwork_ok a0 v30 h31))) (rfl : ([] : List Nat) = [])) (And.intro (laws_eqNetwork_ok v18 v30 v32 h33) (And.intro (rfl : (laws_FnExactBookWay_x1 a0 a1 a2 a3 a4 v16 v18 v20 v22 v24 v32) = (laws_FnExactBookWay_x1 a0 a1 a2 a3 a4 v16 v18 v20 v22 v24 v32)) (And.intro (And.intro (con_sw 1001 13 (con_sw 1000 12 (laws_toNetwork_ok a0 v30 h31))) (rfl : ([] : List Nat) = [])) (And.intro (laws_eqNetwork_ok v18 v30 v32 h33) (And.intro (rfl : (laws_FnExactBookWay_x1 a0 a1 a2 a3 a4 v16 v18 v20 v22 v24 v32) = (laws_FnExactBookWay_x1 a0 a1 a2 a3 a4 v16 v18 v20 v22 v24 v32)) (And.intro (And.intro (con_sw 1001 13 (con_sw 1000 12 (laws_toNetwork_ok a0 v30 h31))) (rfl : ([] : List Nat) = [])) (And.intro (laws_eqNetwork_ok v18 v30 v32 h33) (And.intro (rfl : (laws_FnExactBookWay_x1 a0 a1 a2 a3 a4 v16 v18 v20 v22 v24 v32) = (laws_FnExactBookWay_x1 a0 a1 a2 a3 a4 v16 v18 v20 v22 v24 v32)) (And.intro h34 (And.intro (And.intro (con_sw 1000 14 (laws_toBookingS_ok a1 v35 h36)) (rfl : ([] : List Nat) = [])) (And.intro (laws_eqBookingS_ok v20 v35 v37 h38) (And.intro h39 (And.intro (And.intro (con_sw 1000 15 (laws_toTripS_ok a4 v40 h41)) (rfl : ([] : List Nat) = [])) (And.intro (laws_eqTripS_ok v22 v40 v42 h43) (And.intro h44 True.intro))))))))))))))))))))))))))))))))) (by kernel_rfl)
                · obtain ⟨v45, h46, hM⟩ := bind_some hM
                  obtain ⟨v47, h48, hM⟩ := bind_some hM
                  obtain ⟨v49, h50, hM⟩ := bind_some hM
                  rcases cond_cases hM with ⟨h51, hM⟩ | ⟨h51, hM⟩
                  · have hE : some false = some r := hM
                    have hE := Option.some.inj hE
                    subst hE
                    exact pr R 9999 [.new 0, .call false [] (.o (.c (.v (.int .i64 v1)))) [] [], .as 28 false, .call false [] (.o (.c (.v (.int .i64 v4)))) [] [], .as 33 false, .call false [] (.o (.c (.v (.int .i64 v7)))) [] [], .as 38 false, .call false [] (.o (.agg [.sl 1, .sl 2, .v (.int .i64 v10.Change)])) [] [(1, .row 95 6 (v10.Legs.map Leg.enc)), (2, .row 3 1 (v10.Off.map encI))], .call false [] (.o (.c (.sl 3))) [] [(3, .row 57 4 (v12.map Booking.enc))], .call false [] (.o (.c (.sl 4))) [] [(4, .row 55 2 (v14.map Trip.enc))], .call false [] (.tup [.c (.sl 5), .c (.v (.bool v16.2))]) [] [(5, .row 57 4 (v16.1.map Booking.enc))], .call false [] (.o (.agg [.sl 6, .sl 7, .v (.int .i64 v18.Change)])) [] [(6, .row 95 6 (v18.Legs.map Leg.enc)), (7, .row 3 1 (v18.Off.map encI))], .new 8, .call false [] (.o (.c (.sl 9))) [] [(9, .row 57 4 (v20.map Booking.enc))], .call false [] (.o (.c (.sl 10))) [] [(10, .row 55 2 (v22.map Trip.enc))], .call false [] (.tup [.c (.sl 11), .c (.v (.bool v24.2))]) [] [(11, .row 57 4 (v24.1.map Booking.enc))], .call false [] (.o (.c (.v (.bool v26)))) [] [], .as 70 false, .as 74 false, .xo [[], [], [.call false [] (.o (.agg [.sl 12, .sl 13, .v (.int .i64 v30.Change)])) [] [(12, .row 95 6 (v30.Legs.map Leg.enc)), (13, .row 3 1 (v30.Off.map encI))]], [.call false [] (.o (.c (.v (.bool v32)))) [] []], []] [.keep [1, 2, 3, 4, 5, 12, 13, 14, 15, 16, 17, 18, 79] [0, 5, 8, 6, 7, 9, 10, 11]] (laws_FnExactBookWay_x1 a0 a1 a2 a3 a4 v16 v18 v20 v22 v24 v32), .as 79 false, .call false [] (.o (.c (.sl 14))) [] [(14, .row 57 4 (v35.map Booking.enc))], .call false [] (.o (.c (.v (.bool v37)))) [] [], .as 84 false, .call false [] (.o (.c (.sl 15))) [] [(15, .row 55 2 (v40.map Trip.enc))], .call false [] (.o (.c (.v (.bool v42)))) [] [], .as 89 false, .ad (.keep [1, 2, 3, 4, 5, 12, 13, 14, 15, 16, 17, 18, 19, 79, 80, 81, 82, 83, 84, 85, 86, 87, 88, 89, 90, 91] [6, 7, 0, 5, 8, 9, 10, 11, 14, 15]), .call false [6, 7] (.o (.c (.v (.int .i64 v45.1)))) [(6, .row 95 6 (v45.2.Legs.map Leg.enc)), (7, .row 3 1 (v45.2.Off.map encI))] [], .call false [9] (.o (.c (.v (.int .i64 v47.1)))) [(9, .row 57 4 (v47.2.map Booking.enc))] [], .call false [10] (.o (.c (.v (.int .i64 v49.1)))) [(10, .row 55 2 (v49.2.map Trip.enc))] [], .as 101 true] [] [] [] (And.intro (laws_szNetwork_ok a0 1048576 v1 h2) (And.intro h3 (And.intro (laws_szBookingS_ok a1 v1 v4 h5) (And.intro h6 (And.intro (laws_szTripS_ok a4 v4 v7 h8) (And.intro h9 (And.intro (And.intro (con_sw 1001 2 (con_sw 1000 1 (laws_toNetwork_ok a0 v10 h11))) (rfl : ([] : List Nat) = [])) (And.intro (And.intro (con_sw 1000 3 (laws_toBookingS_ok a1 v12 h13)) (rfl : ([] : List Nat) = [])) (And.intro (And.intro (con_sw 1000 4 (laws_toTripS_ok a4 v14 h15)) (rfl : ([] : List Nat) = [])) (And.intro (And.intro (con_sw 1000 5 (spec_BookWay_ok v10 v12 a2 a3 v14 v16 h17)) (rfl : ([] : List Nat) = [])) (And.intro (And.intro (con_sw 1001 7 (con_sw 1000 6 (laws_toNetwork_ok a0 v18 h19))) (rfl : ([] : List Nat) = [])) (And.intro (And.intro (con_sw 1000 9 (laws_toBookingS_ok a1 v20 h21)) (rfl : ([] : List Nat) = [])) (And.intro (And.intro (con_sw 1000 10 (laws_toTripS_ok a4 v22 h23)) (rfl : ([] : List Nat) = [])) (And.intro (And.intro (con_sw 1000 11 (impl_BookWay_ok v18 v20 a2 a3 v22 v24 h25)) (rfl : ([] : List Nat) = [])) (And.intro (laws_eqBookingS_ok v24.1 v16.1 v26 h27) (And.intro h28 (And.intro h29 (And.intro (And.intro (con_sw 1001 13 (con_sw 1000 12 (laws_toNetwork_ok a0 v30 h31))) (rfl : ([] : List Nat) = [])) (And.intro (laws_eqNetwork_ok v18 v30 v32 h33) (And.intro (rfl : (laws_FnExactBookWay_x1 a0 a1 a2 a3 a4 v16 v18 v20 v22 v24 v32) = (laws_FnExactBookWay_x1 a0 a1 a2 a3 a4 v16 v18 v20 v22 v24 v32)) (And.intro (And.intro (con_sw 1001 13 (con_sw 1000 12 (laws_toNetwork_ok a0 v30 h31))) (rfl : ([] : List Nat) = [])) (And.intro (laws_eqNetwork_ok v18 v30 v32 h33) (And.intro (rfl : (laws_FnExactBookWay_x1 a0 a1 a2 a3 a4 v16 v18 v20 v22 v24 v32) = (laws_FnExactBookWay_x1 a0 a1 a2 a3 a4 v16 v18 v20 v22 v24 v32)) (And.intro (And.intro (con_sw 1001 13 (con_sw 1000 12 (laws_toNetwork_ok a0 v30 h31))) (rfl : ([] : List Nat) = [])) (And.intro (laws_eqNetwork_ok v18 v30 v32 h33) (And.intro (rfl : (laws_FnExactBookWay_x1 a0 a1 a2 a3 a4 v16 v18 v20 v22 v24 v32) = (laws_FnExactBookWay_x1 a0 a1 a2 a3 a4 v16 v18 v20 v22 v24 v32)) (And.intro h34 (And.intro (And.intro (con_sw 1000 14 (laws_toBookingS_ok a1 v35 h36)) (rfl : ([] : List Nat) = [])) (And.intro (laws_eqBookingS_ok v20 v35 v37 h38) (And.intro h39 (And.intro (And.intro (con_sw 1000 15 (laws_toTripS_ok a4 v40 h41)) (rfl : ([] : List Nat) = [])) (And.intro (laws_eqTripS_ok v22 v40 v42 h43) (And.intro h44 (And.intro (And.intro (con_sw 920 7 (con_sw 900 6 (laws_markNetwork_ok v18 1 v45 h46))) (rfl : ([6, 7] : List Nat) = [6, 7])) (And.intro (And.intro (con_sw 900 9 (laws_markBookingS_ok v20 v45.1 v47 h48)) (rfl : ([9] : List Nat) = [9])) (And.intro (And.intro (con_sw 900 10 (laws_markTripS_ok v22 v47.1 v49 h50)) (rfl : ([10] : List Nat) = [10])) (And.intro h51 True.intro))))))))))))))))))))))))))))))))))))) (by kernel_rfl)
                  · obtain ⟨v52, h53, hM⟩ := bind_some hM
                    rcases cond_cases hM with ⟨h54, hM⟩ | ⟨h54, hM⟩
                    · have hE : some false = some r := hM
                      have hE := Option.some.inj hE
                      subst hE
                      exact pr R 9999 [.new 0, .call false [] (.o (.c (.v (.int .i64 v1)))) [] [], .as 28 false, .call false [] (.o (.c (.v (.int .i64 v4)))) [] [], .as 33 false, .call false [] (.o (.c (.v (.int .i64 v7)))) [] [], .as 38 false, .call false [] (.o (.agg [.sl 1, .sl 2, .v (.int .i64 v10.Change)])) [] [(1, .row 95 6 (v10.Legs.map Leg.enc)), (2, .row 3 1 (v10.Off.map encI))], .call false [] (.o (.c (.sl 3))) [] [(3, .row 57 4 (v12.map Booking.enc))], .call false [] (.o (.c (.sl 4))) [] [(4, .row 55 2 (v14.map Trip.enc))], .call false [] (.tup [.c (.sl 5), .c (.v (.bool v16.2))]) [] [(5, .row 57 4 (v16.1.map Booking.enc))], .call false [] (.o (.agg [.sl 6, .sl 7, .v (.int .i64 v18.Change)])) [] [(6, .row 95 6 (v18.Legs.map Leg.enc)), (7, .row 3 1 (v18.Off.map encI))], .new 8, .call false [] (.o (.c (.sl 9))) [] [(9, .row 57 4 (v20.map Booking.enc))], .call false [] (.o (.c (.sl 10))) [] [(10, .row 55 2 (v22.map Trip.enc))], .call false [] (.tup [.c (.sl 11), .c (.v (.bool v24.2))]) [] [(11, .row 57 4 (v24.1.map Booking.enc))], .call false [] (.o (.c (.v (.bool v26)))) [] [], .as 70 false, .as 74 false, .xo [[], [], [.call false [] (.o (.agg [.sl 12, .sl 13, .v (.int .i64 v30.Change)])) [] [(12, .row 95 6 (v30.Legs.map Leg.enc)), (13, .row 3 1 (v30.Off.map encI))]], [.call false [] (.o (.c (.v (.bool v32)))) [] []], []] [.keep [1, 2, 3, 4, 5, 12, 13, 14, 15, 16, 17, 18, 79] [0, 5, 8, 6, 7, 9, 10, 11]] (laws_FnExactBookWay_x1 a0 a1 a2 a3 a4 v16 v18 v20 v22 v24 v32), .as 79 false, .call false [] (.o (.c (.sl 14))) [] [(14, .row 57 4 (v35.map Booking.enc))], .call false [] (.o (.c (.v (.bool v37)))) [] [], .as 84 false, .call false [] (.o (.c (.sl 15))) [] [(15, .row 55 2 (v40.map Trip.enc))], .call false [] (.o (.c (.v (.bool v42)))) [] [], .as 89 false, .ad (.keep [1, 2, 3, 4, 5, 12, 13, 14, 15, 16, 17, 18, 19, 79, 80, 81, 82, 83, 84, 85, 86, 87, 88, 89, 90, 91] [6, 7, 0, 5, 8, 9, 10, 11, 14, 15]), .call false [6, 7] (.o (.c (.v (.int .i64 v45.1)))) [(6, .row 95 6 (v45.2.Legs.map Leg.enc)), (7, .row 3 1 (v45.2.Off.map encI))] [], .call false [9] (.o (.c (.v (.int .i64 v47.1)))) [(9, .row 57 4 (v47.2.map Booking.enc))] [], .call false [10] (.o (.c (.v (.int .i64 v49.1)))) [(10, .row 55 2 (v49.2.map Trip.enc))] [], .as 101 false, .call false [] (.o (.c (.v (.bool v52)))) [] [], .as 107 true] [] [] [] (And.intro (laws_szNetwork_ok a0 1048576 v1 h2) (And.intro h3 (And.intro (laws_szBookingS_ok a1 v1 v4 h5) (And.intro h6 (And.intro (laws_szTripS_ok a4 v4 v7 h8) (And.intro h9 (And.intro (And.intro (con_sw 1001 2 (con_sw 1000 1 (laws_toNetwork_ok a0 v10 h11))) (rfl : ([] : List Nat) = [])) (And.intro (And.intro (con_sw 1000 3 (laws_toBookingS_ok a1 v12 h13)) (rfl : ([] : List Nat) = [])) (And.intro (And.intro (con_sw 1000 4 (laws_toTripS_ok a4 v14 h15)) (rfl : ([] : List Nat) = [])) (And.intro (And.intro (con_sw 1000 5 (spec_BookWay_ok v10 v12 a2 a3 v14 v16 h17)) (rfl : ([] : List Nat) = [])) (And.intro (And.intro (con_sw 1001 7 (con_sw 1000 6 (laws_toNetwork_ok a0 v18 h19))) (rfl : ([] : List Nat) = [])) (And.intro (And.intro (con_sw 1000 9 (laws_toBookingS_ok a1 v20 h21)) (rfl : ([] : List Nat) = [])) (And.intro (And.intro (con_sw 1000 10 (laws_toTripS_ok a4 v22 h23)) (rfl : ([] : List Nat) = [])) (And.intro (And.intro (con_sw 1000 11 (impl_BookWay_ok v18 v20 a2 a3 v22 v24 h25)) (rfl : ([] : List Nat) = [])) (And.intro (laws_eqBookingS_ok v24.1 v16.1 v26 h27) (And.intro h28 (And.intro h29 (And.intro (And.intro (con_sw 1001 13 (con_sw 1000 12 (laws_toNetwork_ok a0 v30 h31))) (rfl : ([] : List Nat) = [])) (And.intro (laws_eqNetwork_ok v18 v30 v32 h33) (And.intro (rfl : (laws_FnExactBookWay_x1 a0 a1 a2 a3 a4 v16 v18 v20 v22 v24 v32) = (laws_FnExactBookWay_x1 a0 a1 a2 a3 a4 v16 v18 v20 v22 v24 v32)) (And.intro (And.intro (con_sw 1001 13 (con_sw 1000 12 (laws_toNetwork_ok a0 v30 h31))) (rfl : ([] : List Nat) = [])) (And.intro (laws_eqNetwork_ok v18 v30 v32 h33) (And.intro (rfl : (laws_FnExactBookWay_x1 a0 a1 a2 a3 a4 v16 v18 v20 v22 v24 v32) = (laws_FnExactBookWay_x1 a0 a1 a2 a3 a4 v16 v18 v20 v22 v24 v32)) (And.intro (And.intro (con_sw 1001 13 (con_sw 1000 12 (laws_toNetwork_ok a0 v30 h31))) (rfl : ([] : List Nat) = [])) (And.intro (laws_eqNetwork_ok v18 v30 v32 h33) (And.intro (rfl : (laws_FnExactBookWay_x1 a0 a1 a2 a3 a4 v16 v18 v20 v22 v24 v32) = (laws_FnExactBookWay_x1 a0 a1 a2 a3 a4 v16 v18 v20 v22 v24 v32)) (And.intro h34 (And.intro (And.intro (con_sw 1000 14 (laws_toBookingS_ok a1 v35 h36)) (rfl : ([] : List Nat) = [])) (And.intro (laws_eqBookingS_ok v20 v35 v37 h38) (And.intro h39 (And.intro (And.intro (con_sw 1000 15 (laws_toTripS_ok a4 v40 h41)) (rfl : ([] : List Nat) = [])) (And.intro (laws_eqTripS_ok v22 v40 v42 h43) (And.intro h44 (And.intro (And.intro (con_sw 920 7 (con_sw 900 6 (laws_markNetwork_ok v18 1 v45 h46))) (rfl : ([6, 7] : List Nat) = [6, 7])) (And.intro (And.intro (con_sw 900 9 (laws_markBookingS_ok v20 v45.1 v47 h48)) (rfl : ([9] : List Nat) = [9])) (And.intro (And.intro (con_sw 900 10 (laws_markTripS_ok v22 v47.1 v49 h50)) (rfl : ([10] : List Nat) = [10])) (And.intro h51 (And.intro (laws_eqBookingS_ok v24.1 v16.1 v52 h53) (And.intro h54 True.intro))))))))))))))))))))))))))))))))))))))) (by kernel_rfl)
                    · rcases cond_cases hM with ⟨h55, hM⟩ | ⟨h55, hM⟩
                      · have hE : some false = some r := hM
                        have hE := Option.some.inj hE
                        subst hE
                        exact pr R 9999 [.new 0, .call false [] (.o (.c (.v (.int .i64 v1)))) [] [], .as 28 false, .call false [] (.o (.c (.v (.int .i64 v4)))) [] [], .as 33 false, .call false [] (.o (.c (.v (.int .i64 v7)))) [] [], .as 38 false, .call false [] (.o (.agg [.sl 1, .sl 2, .v (.int .i64 v10.Change)])) [] [(1, .row 95 6 (v10.Legs.map Leg.enc)), (2, .row 3 1 (v10.Off.map encI))], .call false [] (.o (.c (.sl 3))) [] [(3, .row 57 4 (v12.map Booking.enc))], .call false [] (.o (.c (.sl 4))) [] [(4, .row 55 2 (v14.map Trip.enc))], .call false [] (.tup [.c (.sl 5), .c (.v (.bool v16.2))]) [] [(5, .row 57 4 (v16.1.map Booking.enc))], .call false [] (.o (.agg [.sl 6, .sl 7, .v (.int .i64 v18.Change)])) [] [(6, .row 95 6 (v18.Legs.map Leg.enc)), (7, .row 3 1 (v18.Off.map encI))], .new 8, .call false [] (.o (.c (.sl 9))) [] [(9, .row 57 4 (v20.map Booking.enc))], .call false [] (.o (.c (.sl 10))) [] [(10, .row 55 2 (v22.map Trip.enc))], .call false [] (.tup [.c (.sl 11), .c (.v (.bool v24.2))]) [] [(11, .row 57 4 (v24.1.map Booking.enc))], .call false [] (.o (.c (.v (.bool v26)))) [] [], .as 70 false, .as 74 false, .xo [[], [], [.call false [] (.o (.agg [.sl 12, .sl 13, .v (.int .i64 v30.Change)])) [] [(12, .row 95 6 (v30.Legs.map Leg.enc)), (13, .row 3 1 (v30.Off.map encI))]], [.call false [] (.o (.c (.v (.bool v32)))) [] []], []] [.keep [1, 2, 3, 4, 5, 12, 13, 14, 15, 16, 17, 18, 79] [0, 5, 8, 6, 7, 9, 10, 11]] (laws_FnExactBookWay_x1 a0 a1 a2 a3 a4 v16 v18 v20 v22 v24 v32), .as 79 false, .call false [] (.o (.c (.sl 14))) [] [(14, .row 57 4 (v35.map Booking.enc))], .call false [] (.o (.c (.v (.bool v37)))) [] [], .as 84 false, .call false [] (.o (.c (.sl 15))) [] [(15, .row 55 2 (v40.map Trip.enc))], .call false [] (.o (.c (.v (.bool v42)))) [] [], .as 89 false, .ad (.keep [1, 2, 3, 4, 5, 12, 13, 14, 15, 16, 17, 18, 19, 79, 80, 81, 82, 83, 84, 85, 86, 87, 88, 89, 90, 91] [6, 7, 0, 5, 8, 9, 10, 11, 14, 15]), .call false [6, 7] (.o (.c (.v (.int .i64 v45.1)))) [(6, .row 95 6 (v45.2.Legs.map Leg.enc)), (7, .row 3 1 (v45.2.Off.map encI))] [], .call false [9] (.o (.c (.v (.int .i64 v47.1)))) [(9, .row 57 4 (v47.2.map Booking.enc))] [], .call false [10] (.o (.c (.v (.int .i64 v49.1)))) [(10, .row 55 2 (v49.2.map Trip.enc))] [], .as 101 false, .call false [] (.o (.c (.v (.bool v52)))) [] [], .as 107 false, .as 111 true] [] [] [] (And.intro (laws_szNetwork_ok a0 1048576 v1 h2) (And.intro h3 (And.intro (laws_szBookingS_ok a1 v1 v4 h5) (And.intro h6 (And.intro (laws_szTripS_ok a4 v4 v7 h8) (And.intro h9 (And.intro (And.intro (con_sw 1001 2 (con_sw 1000 1 (laws_toNetwork_ok a0 v10 h11))) (rfl : ([] : List Nat) = [])) (And.intro (And.intro (con_sw 1000 3 (laws_toBookingS_ok a1 v12 h13)) (rfl : ([] : List Nat) = [])) (And.intro (And.intro (con_sw 1000 4 (laws_toTripS_ok a4 v14 h15)) (rfl : ([] : List Nat) = [])) (And.intro (And.intro (con_sw 1000 5 (spec_BookWay_ok v10 v12 a2 a3 v14 v16 h17)) (rfl : ([] : List Nat) = [])) (And.intro (And.intro (con_sw 1001 7 (con_sw 1000 6 (laws_toNetwork_ok a0 v18 h19))) (rfl : ([] : List Nat) = [])) (And.intro (And.intro (con_sw 1000 9 (laws_toBookingS_ok a1 v20 h21)) (rfl : ([] : List Nat) = [])) (And.intro (And.intro (con_sw 1000 10 (laws_toTripS_ok a4 v22 h23)) (rfl : ([] : List Nat) = [])) (And.intro (And.intro (con_sw 1000 11 (impl_BookWay_ok v18 v20 a2 a3 v22 v24 h25)) (rfl : ([] : List Nat) = [])) (And.intro (laws_eqBookingS_ok v24.1 v16.1 v26 h27) (And.intro h28 (And.intro h29 (And.intro (And.intro (con_sw 1001 13 (con_sw 1000 12 (laws_toNetwork_ok a0 v30 h31))) (rfl : ([] : List Nat) = [])) (And.intro (laws_eqNetwork_ok v18 v30 v32 h33) (And.intro (rfl : (laws_FnExactBookWay_x1 a0 a1 a2 a3 a4 v16 v18 v20 v22 v24 v32) = (laws_FnExactBookWay_x1 a0 a1 a2 a3 a4 v16 v18 v20 v22 v24 v32)) (And.intro (And.intro (con_sw 1001 13 (con_sw 1000 12 (laws_toNetwork_ok a0 v30 h31))) (rfl : ([] : List Nat) = [])) (And.intro (laws_eqNetwork_ok v18 v30 v32 h33) (And.intro (rfl : (laws_FnExactBookWay_x1 a0 a1 a2 a3 a4 v16 v18 v20 v22 v24 v32) = (laws_FnExactBookWay_x1 a0 a1 a2 a3 a4 v16 v18 v20 v22 v24 v32)) (And.intro (And.intro (con_sw 1001 13 (con_sw 1000 12 (laws_toNetwork_ok a0 v30 h31))) (rfl : ([] : List Nat) = [])) (And.intro (laws_eqNetwork_ok v18 v30 v32 h33) (And.intro (rfl : (laws_FnExactBookWay_x1 a0 a1 a2 a3 a4 v16 v18 v20 v22 v24 v32) = (laws_FnExactBookWay_x1 a0 a1 a2 a3 a4 v16 v18 v20 v22 v24 v32)) (And.intro h34 (And.intro (And.intro (con_sw 1000 14 (laws_toBookingS_ok a1 v35 h36)) (rfl : ([] : List Nat) = [])) (And.intro (laws_eqBookingS_ok v20 v35 v37 h38) (And.intro h39 (And.intro (And.intro (con_sw 1000 15 (laws_toTripS_ok a4 v40 h41)) (rfl : ([] : List Nat) = [])) (And.intro (laws_eqTripS_ok v22 v40 v42 h43) (And.intro h44 (And.intro (And.intro (con_sw 920 7 (con_sw 900 6 (laws_markNetwork_ok v18 1 v45 h46))) (rfl : ([6, 7] : List Nat) = [6, 7])) (And.intro (And.intro (con_sw 900 9 (laws_markBookingS_ok v20 v45.1 v47 h48)) (rfl : ([9] : List Nat) = [9])) (And.intro (And.intro (con_sw 900 10 (laws_markTripS_ok v22 v47.1 v49 h50)) (rfl : ([10] : List Nat) = [10])) (And.intro h51 (And.intro (laws_eqBookingS_ok v24.1 v16.1 v52 h53) (And.intro h54 (And.intro h55 True.intro)))))))))))))))))))))))))))))))))))))))) (by kernel_rfl)
                      · obtain ⟨v56, h57, hM⟩ := bind_some hM
                        obtain ⟨v58, h59, hM⟩ := bind_some hM
                        rcases cond_cases hM with ⟨h60, hM⟩ | ⟨h60, hM⟩
                        · have hE : some false = some r := hM
                          have hE := Option.some.inj hE
                          subst hE
                          exact pr R 9999 [.new 0, .call false [] (.o (.c (.v (.int .i64 v1)))) [] [], .as 28 false, .call false [] (.o (.c (.v (.int .i64 v4)))) [] [], .as 33 false, .call false [] (.o (.c (.v (.int .i64 v7)))) [] [], .as 38 false, .call false [] (.o (.agg [.sl 1, .sl 2, .v (.int .i64 v10.Change)])) [] [(1, .row 95 6 (v10.Legs.map Leg.enc)), (2, .row 3 1 (v10.Off.map encI))], .call false [] (.o (.c (.sl 3))) [] [(3, .row 57 4 (v12.map Booking.enc))], .call false [] (.o (.c (.sl 4))) [] [(4, .row 55 2 (v14.map Trip.enc))], .call false [] (.tup [.c (.sl 5), .c (.v (.bool v16.2))]) [] [(5, .row 57 4 (v16.1.map Booking.enc))], .call false [] (.o (.agg [.sl 6, .sl 7, .v (.int .i64 v18.Change)])) [] [(6, .row 95 6 (v18.Legs.map Leg.enc)), (7, .row 3 1 (v18.Off.map encI))], .new 8, .call false [] (.o (.c (.sl 9))) [] [(9, .row 57 4 (v20.map Booking.enc))], .call false [] (.o (.c (.sl 10))) [] [(10, .row 55 2 (v22.map Trip.enc))], .call false [] (.tup [.c (.sl 11), .c (.v (.bool v24.2))]) [] [(11, .row 57 4 (v24.1.map Booking.enc))], .call false [] (.o (.c (.v (.bool v26)))) [] [], .as 70 false, .as 74 false, .xo [[], [], [.call false [] (.o (.agg [.sl 12, .sl 13, .v (.int .i64 v30.Change)])) [] [(12, .row 95 6 (v30.Legs.map Leg.enc)), (13, .row 3 1 (v30.Off.map encI))]], [.call false [] (.o (.c (.v (.bool v32)))) [] []], []] [.keep [1, 2, 3, 4, 5, 12, 13, 14, 15, 16, 17, 18, 79] [0, 5, 8, 6, 7, 9, 10, 11]] (laws_FnExactBookWay_x1 a0 a1 a2 a3 a4 v16 v18 v20 v22 v24 v32), .as 79 false, .call false [] (.o (.c (.sl 14))) [] [(14, .row 57 4 (v35.map Booking.enc))], .call false [] (.o (.c (.v (.bool v37)))) [] [], .as 84 false, .call false [] (.o (.c (.sl 15))) [] [(15, .row 55 2 (v40.map Trip.enc))], .call false [] (.o (.c (.v (.bool v42)))) [] [], .as 89 false, .ad (.keep [1, 2, 3, 4, 5, 12, 13, 14, 15, 16, 17, 18, 19, 79, 80, 81, 82, 83, 84, 85, 86, 87, 88, 89, 90, 91] [6, 7, 0, 5, 8, 9, 10, 11, 14, 15]), .call false [6, 7] (.o (.c (.v (.int .i64 v45.1)))) [(6, .row 95 6 (v45.2.Legs.map Leg.enc)), (7, .row 3 1 (v45.2.Off.map encI))] [], .call false [9] (.o (.c (.v (.int .i64 v47.1)))) [(9, .row 57 4 (v47.2.map Booking.enc))] [], .call false [10] (.o (.c (.v (.int .i64 v49.1)))) [(10, .row 55 2 (v49.2.map Trip.enc))] [], .as 101 false, .call false [] (.o (.c (.v (.bool v52)))) [] [], .as 107 false, .as 111 false, .call false [11] (.o (.c (.v (.int .i64 v56.1)))) [(11, .row 57 4 (v56.2.map Booking.enc))] [], .call false [] (.o (.c (.v (.int .i64 v58)))) [] [], .as 119 true] [] [] [] (And.intro (laws_szNetwork_ok a0 1048576 v1 h2) (And.intro h3 (And.intro (laws_szBookingS_ok a1 v1 v4 h5) (And.intro h6 (And.intro (laws_szTripS_ok a4 v4 v7 h8) (And.intro h9 (And.intro (And.intro (con_sw 1001 2 (con_sw 1000 1 (laws_toNetwork_ok a0 v10 h11))) (rfl : ([] : List Nat) = [])) (And.intro (And.intro (con_sw 1000 3 (laws_toBookingS_ok a1 v12 h13)) (rfl : ([] : List Nat) = [])) (And.intro (And.intro (con_sw 1000 4 (laws_toTripS_ok a4 v14 h15)) (rfl : ([] : List Nat) = [])) (And.intro (And.intro (con_sw 1000 5 (spec_BookWay_ok v10 v12 a2 a3 v14 v16 h17)) (rfl : ([] : List Nat) = [])) (And.intro (And.intro (con_sw 1001 7 (con_sw 1000 6 (laws_toNetwork_ok a0 v18 h19))) (rfl : ([] : List Nat) = [])) (And.intro (And.intro (con_sw 1000 9 (laws_toBookingS_ok a1 v20 h21)) (rfl : ([] : List Nat) = [])) (And.intro (And.intro (con_sw 1000 10 (laws_toTripS_ok a4 v22 h23)) (rfl : ([] : List Nat) = [])) (And.intro (And.intro (con_sw 1000 11 (impl_BookWay_ok v18 v20 a2 a3 v22 v24 h25)) (rfl : ([] : List Nat) = [])) (And.intro (laws_eqBookingS_ok v24.1 v16.1 v26 h27) (And.intro h28 (And.intro h29 (And.intro (And.intro (con_sw 1001 13 (con_sw 1000 12 (laws_toNetwork_ok a0 v30 h31))) (rfl : ([] : List Nat) = [])) (And.intro (laws_eqNetwork_ok v18 v30 v32 h33) (And.intro (rfl : (laws_FnExactBookWay_x1 a0 a1 a2 a3 a4 v16 v18 v20 v22 v24 v32) = (laws_FnExactBookWay_x1 a0 a1 a2 a3 a4 v16 v18 v20 v22 v24 v32)) (And.intro (And.intro (con_sw 1001 13 (con_sw 1000 12 (laws_toNetwork_ok a0 v30 h31))) (rfl : ([] : List Nat) = [])) (And.intro (laws_eqNetwork_ok v18 v30 v32 h33) (And.intro (rfl : (laws_FnExactBookWay_x1 a0 a1 a2 a3 a4 v16 v18 v20 v22 v24 v32) = (laws_FnExactBookWay_x1 a0 a1 a2 a3 a4 v16 v18 v20 v22 v24 v32)) (And.intro (And.intro (con_sw 1001 13 (con_sw 1000 12 (laws_toNetwork_ok a0 v30 h31))) (rfl : ([] : List Nat) = [])) (And.intro (laws_eqNetwork_ok v18 v30 v32 h33) (And.intro (rfl : (laws_FnExactBookWay_x1 a0 a1 a2 a3 a4 v16 v18 v20 v22 v24 v32) = (laws_FnExactBookWay_x1 a0 a1 a2 a3 a4 v16 v18 v20 v22 v24 v32)) (And.intro h34 (And.intro (And.intro (con_sw 1000 14 (laws_toBookingS_ok a1 v35 h36)) (rfl : ([] : List Nat) = [])) (And.intro (laws_eqBookingS_ok v20 v35 v37 h38) (And.intro h39 (And.intro (And.intro (con_sw 1000 15 (laws_toTripS_ok a4 v40 h41)) (rfl : ([] : List Nat) = [])) (And.intro (laws_eqTripS_ok v22 v40 v42 h43) (And.intro h44 (And.intro (And.intro (con_sw 920 7 (con_sw 900 6 (laws_markNetwork_ok v18 1 v45 h46))) (rfl : ([6, 7] : List Nat) = [6, 7])) (And.intro (And.intro (con_sw 900 9 (laws_markBookingS_ok v20 v45.1 v47 h48)) (rfl : ([9] : List Nat) = [9])) (And.intro (And.intro (con_sw 900 10 (laws_markTripS_ok v22 v47.1 v49 h50)) (rfl : ([10] : List Nat) = [10])) (And.intro h51 (And.intro (laws_eqBookingS_ok v24.1 v16.1 v52 h53) (And.intro h54 (And.intro h55 (And.intro (And.intro (con_sw 900 11 (laws_markBookingS_ok v24.1 1 v56 h57)) (rfl : ([11] : List Nat) = [11])) (And.intro (laws_heldBookingS_ok v56.2 1 v58 h59) (And.intro h60 True.intro))))))))))))))))))))))))))))))))))))))))))) (by kernel_rfl)
                        · rcases cond_cases hM with ⟨h61, hM⟩ | ⟨h61, hM⟩
                          · have hE : some false = some r := hM
                            have hE := Option.some.inj hE
                            subst hE
                            exact pr R 9999 [.new 0, .call false [] (.o (.c (.v (.int .i64 v1)))) [] [], .as 28 false, .call false [] (.o (.c (.v (.int .i64 v4)))) [] [], .as 33 false, .call false [] (.o (.c (.v (.int .i64 v7)))) [] [], .as 38 false, .call false [] (.o (.agg [.sl 1, .sl 2, .v (.int .i64 v10.Change)])) [] [(1, .row 95 6 (v10.Legs.map Leg.enc)), (2, .row 3 1 (v10.Off.map encI))], .call false [] (.o (.c (.sl 3))) [] [(3, .row 57 4 (v12.map Booking.enc))], .call false [] (.o (.c (.sl 4))) [] [(4, .row 55 2 (v14.map Trip.enc))], .call false [] (.tup [.c (.sl 5), .c (.v (.bool v16.2))]) [] [(5, .row 57 4 (v16.1.map Booking.enc))], .call false [] (.o (.agg [.sl 6, .sl 7, .v (.int .i64 v18.Change)])) [] [(6, .row 95 6 (v18.Legs.map Leg.enc)), (7, .row 3 1 (v18.Off.map encI))], .new 8, .call false [] (.o (.c (.sl 9))) [] [(9, .row 57 4 (v20.map Booking.enc))], .call false [] (.o (.c (.sl 10))) [] [(10, .row 55 2 (v22.map Trip.enc))], .call false [] (.tup [.c (.sl 11), .c (.v (.bool v24.2))]) [] [(11, .row 57 4 (v24.1.map Booking.enc))], .call false [] (.o (.c (.v (.bool v26)))) [] [], .as 70 false, .as 74 false, .xo [[], [], [.call false [] (.o (.agg [.sl 12, .sl 13, .v (.int .i64 v30.Change)])) [] [(12, .row 95 6 (v30.Legs.map Leg.enc)), (13, .row 3 1 (v30.Off.map encI))]], [.call false [] (.o (.c (.v (.bool v32)))) [] []], []] [.keep [1, 2, 3, 4, 5, 12, 13, 14, 15, 16, 17, 18, 79] [0, 5, 8, 6, 7, 9, 10, 11]] (laws_FnExactBookWay_x1 a0 a1 a2 a3 a4 v16 v18 v20 v22 v24 v32), .as 79 false, .call false [] (.o (.c (.sl 14))) [] [(14, .row 57 4 (v35.map Booking.enc))], .call false [] (.o (.c (.v (.bool v37)))) [] [], .as 84 false, .call false [] (.o (.c (.sl 15))) [] [(15, .row 55 2 (v40.map Trip.enc))], .call false [] (.o (.c (.v (.bool v42)))) [] [], .as 89 false, .ad (.keep [1, 2, 3, 4, 5, 12, 13, 14, 15, 16, 17, 18, 19, 79, 80, 81, 82, 83, 84, 85, 86, 87, 88, 89, 90, 91] [6, 7, 0, 5, 8, 9, 10, 11, 14, 15]), .call false [6, 7] (.o (.c (.v (.int .i64 v45.1)))) [(6, .row 95 6 (v45.2.Legs.map Leg.enc)), (7, .row 3 1 (v45.2.Off.map encI))] [], .call false [9] (.o (.c (.v (.int .i64 v47.1)))) [(9, .row 57 4 (v47.2.map Booking.enc))] [], .call false [10] (.o (.c (.v (.int .i64 v49.1)))) [(10, .row 55 2 (v49.2.map Trip.enc))] [], .as 101 false, .call false [] (.o (.c (.v (.bool v52)))) [] [], .as 107 false, .as 111 false, .call false [11] (.o (.c (.v (.int .i64 v56.1)))) [(11, .row 57 4 (v56.2.map Booking.enc))] [], .call false [] (.o (.c (.v (.int .i64 v58)))) [] [], .as 119 false, .as 122 true] [] [] [] (And.intro (laws_szNetwork_ok a0 1048576 v1 h2) (And.intro h3 (And.intro (laws_szBookingS_ok a1 v1 v4 h5) (And.intro h6 (And.intro (laws_szTripS_ok a4 v4 v7 h8) (And.intro h9 (And.intro (And.intro (con_sw 1001 2 (con_sw 1000 1 (laws_toNetwork_ok a0 v10 h11))) (rfl : ([] : List Nat) = [])) (And.intro (And.intro (con_sw 1000 3 (laws_toBookingS_ok a1 v12 h13)) (rfl : ([] : List Nat) = [])) (And.intro (And.intro (con_sw 1000 4 (laws_toTripS_ok a4 v14 h15)) (rfl : ([] : List Nat) = [])) (And.intro (And.intro (con_sw 1000 5 (spec_BookWay_ok v10 v12 a2 a3 v14 v16 h17)) (rfl : ([] : List Nat) = [])) (And.intro (And.intro (con_sw 1001 7 (con_sw 1000 6 (laws_toNetwork_ok a0 v18 h19))) (rfl : ([] : List Nat) = [])) (And.intro (And.intro (con_sw 1000 9 (laws_toBookingS_ok a1 v20 h21)) (rfl : ([] : List Nat) = [])) (And.intro (And.intro (con_sw 1000 10 (laws_toTripS_ok a4 v22 h23)) (rfl : ([] : List Nat) = [])) (And.intro (And.intro (con_sw 1000 11 (impl_BookWay_ok v18 v20 a2 a3 v22 v24 h25)) (rfl : ([] : List Nat) = [])) (And.intro (laws_eqBookingS_ok v24.1 v16.1 v26 h27) (And.intro h28 (And.intro h29 (And.intro (And.intro (con_sw 1001 13 (con_sw 1000 12 (laws_toNetwork_ok a0 v30 h31))) (rfl : ([] : List Nat) = [])) (And.intro (laws_eqNetwork_ok v18 v30 v32 h33) (And.intro (rfl : (laws_FnExactBookWay_x1 a0 a1 a2 a3 a4 v16 v18 v20 v22 v24 v32) = (laws_FnExactBookWay_x1 a0 a1 a2 a3 a4 v16 v18 v20 v22 v24 v32)) (And.intro (And.intro (con_sw 1001 13 (con_sw 1000 12 (laws_toNetwork_ok a0 v30 h31))) (rfl : ([] : List Nat) = [])) (And.intro (laws_eqNetwork_ok v18 v30 v32 h33) (And.intro (rfl : (laws_FnExactBookWay_x1 a0 a1 a2 a3 a4 v16 v18 v20 v22 v24 v32) = (laws_FnExactBookWay_x1 a0 a1 a2 a3 a4 v16 v18 v20 v22 v24 v32)) (And.intro (And.intro (con_sw 1001 13 (con_sw 1000 12 (laws_toNetwork_ok a0 v30 h31))) (rfl : ([] : List Nat) = [])) (And.intro (laws_eqNetwork_ok v18 v30 v32 h33) (And.intro (rfl : (laws_FnExactBookWay_x1 a0 a1 a2 a3 a4 v16 v18 v20 v22 v24 v32) = (laws_FnExactBookWay_x1 a0 a1 a2 a3 a4 v16 v18 v20 v22 v24 v32)) (And.intro h34 (And.intro (And.intro (con_sw 1000 14 (laws_toBookingS_ok a1 v35 h36)) (rfl : ([] : List Nat) = [])) (And.intro (laws_eqBookingS_ok v20 v35 v37 h38) (And.intro h39 (And.intro (And.intro (con_sw 1000 15 (laws_toTripS_ok a4 v40 h41)) (rfl : ([] : List Nat) = [])) (And.intro (laws_eqTripS_ok v22 v40 v42 h43) (And.intro h44 (And.intro (And.intro (con_sw 920 7 (con_sw 900 6 (laws_markNetwork_ok v18 1 v45 h46))) (rfl : ([6, 7] : List Nat) = [6, 7])) (And.intro (And.intro (con_sw 900 9 (laws_markBookingS_ok v20 v45.1 v47 h48)) (rfl : ([9] : List Nat) = [9])) (And.intro (And.intro (con_sw 900 10 (laws_markTripS_ok v22 v47.1 v49 h50)) (rfl : ([10] : List Nat) = [10])) (And.intro h51 (And.intro (laws_eqBookingS_ok v24.1 v16.1 v52 h53) (And.intro h54 (And.intro h55 (And.intro (And.intro (con_sw 900 11 (laws_markBookingS_ok v24.1 1 v56 h57)) (rfl : ([11] : List Nat) = [11])) (And.intro (laws_heldBookingS_ok v56.2 1 v58 h59) (And.intro h60 (And.intro h61 True.intro)))))))))))))))))))))))))))))))))))))))))))) (by kernel_rfl)
                          · obtain ⟨v62, h63, hM⟩ := bind_some hM
                            obtain ⟨v64, h65, hM⟩ := bind_some hM
                            obtain ⟨v66, h67, hM⟩ := bind_some hM
                            obtain ⟨v68, h69, hM⟩ := bind_some hM
                            obtain ⟨v70, h71, hM⟩ := bind_some hM
                            rcases cond_cases hM with ⟨h72, hM⟩ | ⟨h72, hM⟩
                            · have hE : some false = some r := hM
                              have hE := Option.some.inj hE
                              subst hE
                              exact pr R 9999 [.new 0, .call false [] (.o (.c (.v (.int .i64 v1)))) [] [], .as 28 false, .call false [] (.o (.c (.v (.int .i64 v4)))) [] [], .as 33 false, .call false [] (.o (.c (.v (.int .i64 v7)))) [] [], .as 38 false, .call false [] (.o (.agg [.sl 1, .sl 2, .v (.int .i64 v10.Change)])) [] [(1, .row 95 6 (v10.Legs.map Leg.enc)), (2, .row 3 1 (v10.Off.map encI))], .call false [] (.o (.c (.sl 3))) [] [(3, .row 57 4 (v12.map Booking.enc))], .call false [] (.o (.c (.sl 4))) [] [(4, .row 55 2 (v14.map Trip.enc))], .call false [] (.tup [.c (.sl 5), .c (.v (.bool v16.2))]) [] [(5, .row 57 4 (v16.1.map Booking.enc))], .call false [] (.o (.agg [.sl 6, .sl 7, .v (.int .i64 v18.Change)])) [] [(6, .row 95 6 (v18.Legs.map Leg.enc)), (7, .row 3 1 (v18.Off.map encI))], .new 8, .call false [] (.o (.c (.sl 9))) [] [(9, .row 57 4 (v20.map Booking.enc))], .call false [] (.o (.c (.sl 10))) [] [(10, .row 55 2 (v22.map Trip.enc))], .call false [] (.tup [.c (.sl 11), .c (.v (.bool v24.2))]) [] [(11, .row 57 4 (v24.1.map Booking.enc))], .call false [] (.o (.c (.v (.bool v26)))) [] [], .as 70 false, .as 74 false, .xo [[], [], [.call false [] (.o (.agg [.sl 12, .sl 13, .v (.int .i64 v30.Change)])) [] [(12, .row 95 6 (v30.Legs.map Leg.enc)), (13, .row 3 1 (v30.Off.map encI))]], [.call false [] (.o (.c (.v (.bool v32)))) [] []], []] [.keep [1, 2, 3, 4, 5, 12, 13, 14, 15, 16, 17, 18, 79] [0, 5, 8, 6, 7, 9, 10, 11]] (laws_FnExactBookWay_x1 a0 a1 a2 a3 a4 v16 v18 v20 v22 v24 v32), .as 79 false, .call false [] (.o (.c (.sl 14))) [] [(14, .row 57 4 (v35.map Booking.enc))], .call false [] (.o (.c (.v (.bool v37)))) [] [], .as 84 false, .call false [] (.o (.c (.sl 15))) [] [(15, .row 55 2 (v40.map Trip.enc))], .call false [] (.o (.c (.v (.bool v42)))) [] [], .as 89 false, .ad (.keep [1, 2, 3, 4, 5, 12, 13, 14, 15, 16, 17, 18, 19, 79, 80, 81, 82, 83, 84, 85, 86, 87, 88, 89, 90, 91] [6, 7, 0, 5, 8, 9, 10, 11, 14, 15]), .call false [6, 7] (.o (.c (.v (.int .i64 v45.1)))) [(6, .row 95 6 (v45.2.Legs.map Leg.enc)), (7, .row 3 1 (v45.2.Off.map encI))] [], .call false [9] (.o (.c (.v (.int .i64 v47.1)))) [(9, .row 57 4 (v47.2.map Booking.enc))] [], .call false [10] (.o (.c (.v (.int .i64 v49.1)))) [(10, .row 55 2 (v49.2.map Trip.enc))] [], .as 101 false, .call false [] (.o (.c (.v (.bool v52)))) [] [], .as 107 false, .as 111 false, .call false [11] (.o (.c (.v (.int .i64 v56.1)))) [(11, .row 57 4 (v56.2.map Booking.enc))] [], .call false [] (.o (.c (.v (.int .i64 v58)))) [] [], .as 119 false, .as 122 false, .call false [] (.o (.agg [.sl 16, .sl 17, .v (.int .i64 v62.Change)])) [] [(16, .row 95 6 (v62.Legs.map Leg.enc)), (17, .row 3 1 (v62.Off.map encI))], .call false [] (.o (.c (.sl 18))) [] [(18, .row 57 4 (v64.map Booking.enc))], .call false [] (.o (.c (.sl 19))) [] [(19, .row 55 2 (v66.map Trip.enc))], .call false [] (.tup [.c (.sl 20), .c (.v (.bool v68.2))]) [] [(20, .row 57 4 (v68.1.map Booking.enc))], .call false [] (.o (.c (.v (.bool v70)))) [] [], .as 139 true] [] [] [] (And.intro (laws_szNetwork_ok a0 1048576 v1 h2) (And.intro h3 (And.intro (laws_szBookingS_ok a1 v1 v4 h5) (And.intro h6 (And.intro (laws_szTripS_ok a4 v4 v7 h8) (And.intro h9 (And.intro (And.intro (con_sw 1001 2 (con_sw 1000 1 (laws_toNetwork_ok a0 v10 h11))) (rfl : ([] : List Nat) = [])) (And.intro (And.intro (con_sw 1000 3 (laws_toBookingS_ok a1 v12 h13)) (rfl : ([] : List Nat) = [])) (And.intro (And.intro (con_sw 1000 4 (laws_toTripS_ok a4 v14 h15)) (rfl : ([] : List Nat) = [])) (And.intro (And.intro (con_sw 1000 5 (spec_BookWay_ok v10 v12 a2 a3 v14 v16 h17)) (rfl : ([] : List Nat) = [])) (And.intro (And.intro (con_sw 1001 7 (con_sw 1000 6 (laws_toNetwork_ok a0 v18 h19))) (rfl : ([] : List Nat) = [])) (And.intro (And.intro (con_sw 1000 9 (laws_toBookingS_ok a1 v20 h21)) (rfl : ([] : List Nat) = [])) (And.intro (And.intro (con_sw 1000 10 (laws_toTripS_ok a4 v22 h23)) (rfl : ([] : List Nat) = [])) (And.intro (And.intro (con_sw 1000 11 (impl_BookWay_ok v18 v20 a2 a3 v22 v24 h25)) (rfl : ([] : List Nat) = [])) (And.intro (laws_eqBookingS_ok v24.1 v16.1 v26 h27) (And.intro h28 (And.intro h29 (And.intro (And.intro (con_sw 1001 13 (con_sw 1000 12 (laws_toNetwork_ok a0 v30 h31))) (rfl : ([] : List Nat) = [])) (And.intro (laws_eqNetwork_ok v18 v30 v32 h33) (And.intro (rfl : (laws_FnExactBookWay_x1 a0 a1 a2 a3 a4 v16 v18 v20 v22 v24 v32) = (laws_FnExactBookWay_x1 a0 a1 a2 a3 a4 v16 v18 v20 v22 v24 v32)) (And.intro (And.intro (con_sw 1001 13 (con_sw 1000 12 (laws_toNetwork_ok a0 v30 h31))) (rfl : ([] : List Nat) = [])) (And.intro (laws_eqNetwork_ok v18 v30 v32 h33) (And.intro (rfl : (laws_FnExactBookWay_x1 a0 a1 a2 a3 a4 v16 v18 v20 v22 v24 v32) = (laws_FnExactBookWay_x1 a0 a1 a2 a3 a4 v16 v18 v20 v22 v24 v32)) (And.intro (And.intro (con_sw 1001 13 (con_sw 1000 12 (laws_toNetwork_ok a0 v30 h31))) (rfl : ([] : List Nat) = [])) (And.intro (laws_eqNetwork_ok v18 v30 v32 h33) (And.intro (rfl : (laws_FnExactBookWay_x1 a0 a1 a2 a3 a4 v16 v18 v20 v22 v24 v32) = (laws_FnExactBookWay_x1 a0 a1 a2 a3 a4 v16 v18 v20 v22 v24 v32)) (And.intro h34 (And.intro (And.intro (con_sw 1000 14 (laws_toBookingS_ok a1 v35 h36)) (rfl : ([] : List Nat) = [])) (And.intro (laws_eqBookingS_ok v20 v35 v37 h38) (And.intro h39 (And.intro (And.intro (con_sw 1000 15 (laws_toTripS_ok a4 v40 h41)) (rfl : ([] : List Nat) = [])) (And.intro (laws_eqTripS_ok v22 v40 v42 h43) (And.intro h44 (And.intro (And.intro (con_sw 920 7 (con_sw 900 6 (laws_markNetwork_ok v18 1 v45 h46))) (rfl : ([6, 7] : List Nat) = [6, 7])) (And.intro (And.intro (con_sw 900 9 (laws_markBookingS_ok v20 v45.1 v47 h48)) (rfl : ([9] : List Nat) = [9])) (And.intro (And.intro (con_sw 900 10 (laws_markTripS_ok v22 v47.1 v49 h50)) (rfl : ([10] : List Nat) = [10])) (And.intro h51 (And.intro (laws_eqBookingS_ok v24.1 v16.1 v52 h53) (And.intro h54 (And.intro h55 (And.intro (And.intro (con_sw 900 11 (laws_markBookingS_ok v24.1 1 v56 h57)) (rfl : ([11] : List Nat) = [11])) (And.intro (laws_heldBookingS_ok v56.2 1 v58 h59) (And.intro h60 (And.intro h61 (And.intro (And.intro (con_sw 1001 17 (con_sw 1000 16 (laws_toNetwork_ok a0 v62 h63))) (rfl : ([] : List Nat) = [])) (And.intro (And.intro (con_sw 1000 18 (laws_toBookingS_ok a1 v64 h65)) (rfl : ([] : List Nat) = [])) (And.intro (And.intro (con_sw 1000 19 (laws_toTripS_ok a4 v66 h67)) (rfl : ([] : List Nat) = [])) (And.intro (And.intro (con_sw 1000 20 (impl_BookWay_ok v62 v64 a2 a3 v66 v68 h69)) (rfl : ([] : List Nat) = [])) (And.intro (laws_eqBookingS_ok v68.1 v16.1 v70 h71) (And.intro h72 True.intro)))))))))))))))))))))))))))))))))))))))))))))))))) (by kernel_rfl)
                            · rcases cond_cases hM with ⟨h73, hM⟩ | ⟨h73, hM⟩
                              · have hE : some false = some r := hM
                                have hE := Option.some.inj hE
                                subst hE
                                exact pr R 9999 [.new 0, .call false [] (.o (.c (.v (.int .i64 v1)))) [] [], .as 28 false, .call false [] (.o (.c (.v (.int .i64 v4)))) [] [], .as 33 false, .call false [] (.o (.c (.v (.int .i64 v7)))) [] [], .as 38 false, .call false [] (.o (.agg [.sl 1, .sl 2, .v (.int .i64 v10.Change)])) [] [(1, .row 95 6 (v10.Legs.map Leg.enc)), (2, .row 3 1 (v10.Off.map encI))], .call false [] (.o (.c (.sl 3))) [] [(3, .row 57 4 (v12.map Booking.enc))], .call false [] (.o (.c (.sl 4))) [] [(4, .row 55 2 (v14.map Trip.enc))], .call false [] (.tup [.c (.sl 5), .c (.v (.bool v16.2))]) [] [(5, .row 57 4 (v16.1.map Booking.enc))], .call false [] (.o (.agg [.sl 6, .sl 7, .v (.int .i64 v18.Change)])) [] [(6, .row 95 6 (v18.Legs.map Leg.enc)), (7, .row 3 1 (v18.Off.map encI))], .new 8, .call false [] (.o (.c (.sl 9))) [] [(9, .row 57 4 (v20.map Booking.enc))], .call false [] (.o (.c (.sl 10))) [] [(10, .row 55 2 (v22.map Trip.enc))], .call false [] (.tup [.c (.sl 11), .c (.v (.bool v24.2))]) [] [(11, .row 57 4 (v24.1.map Booking.enc))], .call false [] (.o (.c (.v (.bool v26)))) [] [], .as 70 false, .as 74 false, .xo [[], [], [.call false [] (.o (.agg [.sl 12, .sl 13, .v (.int .i64 v30.Change)])) [] [(12, .row 95 6 (v30.Legs.map Leg.enc)), (13, .row 3 1 (v30.Off.map encI))]], [.call false [] (.o (.c (.v (.bool v32)))) [] []], []] [.keep [1, 2, 3, 4, 5, 12, 13, 14, 15, 16, 17, 18, 79] [0, 5, 8, 6, 7, 9, 10, 11]] (laws_FnExactBookWay_x1 a0 a1 a2 a3 a4 v16 v18 v20 v22 v24 v32), .as 79 false, .call false [] (.o (.c (.sl 14))) [] [(14, .row 57 4 (v35.map Booking.enc))], .call false [] (.o (.c (.v (.bool v37)))) [] [], .as 84 false, .call false [] (.o (.c (.sl 15))) [] [(15, .row 55 2 (v40.map Trip.enc))], .call false [] (.o (.c (.v (.bool v42)))) [] [], .as 89 false, .ad (.keep [1, 2, 3, 4, 5, 12, 13, 14, 15, 16, 17, 18, 19, 79, 80, 81, 82, 83, 84, 85, 86, 87, 88, 89, 90, 91] [6, 7, 0, 5, 8, 9, 10, 11, 14, 15]), .call false [6, 7] (.o (.c (.v (.int .i64 v45.1)))) [(6, .row 95 6 (v45.2.Legs.map Leg.enc)), (7, .row 3 1 (v45.2.Off.map encI))] [], .call false [9] (.o (.c (.v (.int .i64 v47.1)))) [(9, .row 57 4 (v47.2.map Booking.enc))] [], .call false [10] (.o (.c (.v (.int .i64 v49.1)))) [(10, .row 55 2 (v49.2.map Trip.enc))] [], .as 101 false, .call false [] (.o (.c (.v (.bool v52)))) [] [], .as 107 false, .as 111 false, .call false [11] (.o (.c (.v (.int .i64 v56.1)))) [(11, .row 57 4 (v56.2.map Booking.enc))] [], .call false [] (.o (.c (.v (.int .i64 v58)))) [] [], .as 119 false, .as 122 false, .call false [] (.o (.agg [.sl 16, .sl 17, .v (.int .i64 v62.Change)])) [] [(16, .row 95 6 (v62.Legs.map Leg.enc)), (17, .row 3 1 (v62.Off.map encI))], .call false [] (.o (.c (.sl 18))) [] [(18, .row 57 4 (v64.map Booking.enc))], .call false [] (.o (.c (.sl 19))) [] [(19, .row 55 2 (v66.map Trip.enc))], .call false [] (.tup [.c (.sl 20), .c (.v (.bool v68.2))]) [] [(20, .row 57 4 (v68.1.map Booking.enc))], .call false [] (.o (.c (.v (.bool v70)))) [] [], .as 139 false, .as 143 true] [] [] [] (And.intro (laws_szNetwork_ok a0 1048576 v1 h2) (And.intro h3 (And.intro (laws_szBookingS_ok a1 v1 v4 h5) (And.intro h6 (And.intro (laws_szTripS_ok a4 v4 v7 h8) (And.intro h9 (And.intro (And.intro (con_sw 1001 2 (con_sw 1000 1 (laws_toNetwork_ok a0 v10 h11))) (rfl : ([] : List Nat) = [])) (And.intro (And.intro (con_sw 1000 3 (laws_toBookingS_ok a1 v12 h13)) (rfl : ([] : List Nat) = [])) (And.intro (And.intro (con_sw 1000 4 (laws_toTripS_ok a4 v14 h15)) (rfl : ([] : List Nat) = [])) (And.intro (And.intro (con_sw 1000 5 (spec_BookWay_ok v10 v12 a2 a3 v14 v16 h17)) (rfl : ([] : List Nat) = [])) (And.intro (And.intro (con_sw 1001 7 (con_sw 1000 6 (laws_toNetwork_ok a0 v18 h19))) (rfl : ([] : List Nat) = [])) (And.intro (And.intro (con_sw 1000 9 (laws_toBookingS_ok a1 v20 h21)) (rfl : ([] : List Nat) = [])) (And.intro (And.intro (con_sw 1000 10 (laws_toTripS_ok a4 v22 h23)) (rfl : ([] : List Nat) = [])) (And.intro (And.intro (con_sw 1000 11 (impl_BookWay_ok v18 v20 a2 a3 v22 v24 h25)) (rfl : ([] : List Nat) = [])) (And.intro (laws_eqBookingS_ok v24.1 v16.1 v26 h27) (And.intro h28 (And.intro h29 (And.intro (And.intro (con_sw 1001 13 (con_sw 1000 12 (laws_toNetwork_ok a0 v30 h31))) (rfl : ([] : List Nat) = [])) (And.intro (laws_eqNetwork_ok v18 v30 v32 h33) (And.intro (rfl : (laws_FnExactBookWay_x1 a0 a1 a2 a3 a4 v16 v18 v20 v22 v24 v32) = (laws_FnExactBookWay_x1 a0 a1 a2 a3 a4 v16 v18 v20 v22 v24 v32)) (And.intro (And.intro (con_sw 1001 13 (con_sw 1000 12 (laws_toNetwork_ok a0 v30 h31))) (rfl : ([] : List Nat) = [])) (And.intro (laws_eqNetwork_ok v18 v30 v32 h33) (And.intro (rfl : (laws_FnExactBookWay_x1 a0 a1 a2 a3 a4 v16 v18 v20 v22 v24 v32) = (laws_FnExactBookWay_x1 a0 a1 a2 a3 a4 v16 v18 v20 v22 v24 v32)) (And.intro (And.intro (con_sw 1001 13 (con_sw 1000 12 (laws_toNetwork_ok a0 v30 h31))) (rfl : ([] : List Nat) = [])) (And.intro (laws_eqNetwork_ok v18 v30 v32 h33) (And.intro (rfl : (laws_FnExactBookWay_x1 a0 a1 a2 a3 a4 v16 v18 v20 v22 v24 v32) = (laws_FnExactBookWay_x1 a0 a1 a2 a3 a4 v16 v18 v20 v22 v24 v32)) (And.intro h34 (And.intro (And.intro (con_sw 1000 14 (laws_toBookingS_ok a1 v35 h36)) (rfl : ([] : List Nat) = [])) (And.intro (laws_eqBookingS_ok v20 v35 v37 h38) (And.intro h39 (And.intro (And.intro (con_sw 1000 15 (laws_toTripS_ok a4 v40 h41)) (rfl : ([] : List Nat) = [])) (And.intro (laws_eqTripS_ok v22 v40 v42 h43) (And.intro h44 (And.intro (And.intro (con_sw 920 7 (con_sw 900 6 (laws_markNetwork_ok v18 1 v45 h46))) (rfl : ([6, 7] : List Nat) = [6, 7])) (And.intro (And.intro (con_sw 900 9 (laws_markBookingS_ok v20 v45.1 v47 h48)) (rfl : ([9] : List Nat) = [9])) (And.intro (And.intro (con_sw 900 10 (laws_markTripS_ok v22 v47.1 v49 h50)) (rfl : ([10] : List Nat) = [10])) (And.intro h51 (And.intro (laws_eqBookingS_ok v24.1 v16.1 v52 h53) (And.intro h54 (And.intro h55 (And.intro (And.intro (con_sw 900 11 (laws_markBookingS_ok v24.1 1 v56 h57)) (rfl : ([11] : List Nat) = [11])) (And.intro (laws_heldBookingS_ok v56.2 1 v58 h59) (And.intro h60 (And.intro h61 (And.intro (And.intro (con_sw 1001 17 (con_sw 1000 16 (laws_toNetwork_ok a0 v62 h63))) (rfl : ([] : List Nat) = [])) (And.intro (And.intro (con_sw 1000 18 (laws_toBookingS_ok a1 v64 h65)) (rfl : ([] : List Nat) = [])) (And.intro (And.intro (con_sw 1000 19 (laws_toTripS_ok a4 v66 h67)) (rfl : ([] : List Nat) = [])) (And.intro (And.intro (con_sw 1000 20 (impl_BookWay_ok v62 v64 a2 a3 v66 v68 h69)) (rfl : ([] : List Nat) = [])) (And.intro (laws_eqBookingS_ok v68.1 v16.1 v70 h71) (And.intro h72 (And.intro h73 True.intro))))))))))))))))))))))))))))))))))))))))))))))))))) (by kernel_rfl)
                              · obtain ⟨v74, h75, hM⟩ := bind_some hM
                                rcases cond_cases hM with ⟨h76, hM⟩ | ⟨h76, hM⟩
                                · have hE : some false = some r := hM
                                  have hE := Option.some.inj hE
                                  subst hE
                                  exact pr R 9999 [.new 0, .call false [] (.o (.c (.v (.int .i64 v1)))) [] [], .as 28 false, .call false [] (.o (.c (.v (.int .i64 v4)))) [] [], .as 33 false, .call false [] (.o (.c (.v (.int .i64 v7)))) [] [], .as 38 false, .call false [] (.o (.agg [.sl 1, .sl 2, .v (.int .i64 v10.Change)])) [] [(1, .row 95 6 (v10.Legs.map Leg.enc)), (2, .row 3 1 (v10.Off.map encI))], .call false [] (.o (.c (.sl 3))) [] [(3, .row 57 4 (v12.map Booking.enc))], .call false [] (.o (.c (.sl 4))) [] [(4, .row 55 2 (v14.map Trip.enc))], .call false [] (.tup [.c (.sl 5), .c (.v (.bool v16.2))]) [] [(5, .row 57 4 (v16.1.map Booking.enc))], .call false [] (.o (.agg [.sl 6, .sl 7, .v (.int .i64 v18.Change)])) [] [(6, .row 95 6 (v18.Legs.map Leg.enc)), (7, .row 3 1 (v18.Off.map encI))], .new 8, .call false [] (.o (.c (.sl 9))) [] [(9, .row 57 4 (v20.map Booking.enc))], .call false [] (.o (.c (.sl 10))) [] [(10, .row 55 2 (v22.map Trip.enc))], .call false [] (.tup [.c (.sl 11), .c (.v (.bool v24.2))]) [] [(11, .row 57 4 (v24.1.map Booking.enc))], .call false [] (.o (.c (.v (.bool v26)))) [] [], .as 70 false, .as 74 false, .xo [[], [], [.call false [] (.o (.agg [.sl 12, .sl 13, .v (.int .i64 v30.Change)])) [] [(12, .row 95 6 (v30.Legs.map Leg.enc)), (13, .row 3 1 (v30.Off.map encI))]], [.call false [] (.o (.c (.v (.bool v32)))) [] []], []] [.keep [1, 2, 3, 4, 5, 12, 13, 14, 15, 16, 17, 18, 79] [0, 5, 8, 6, 7, 9, 10, 11]] (laws_FnExactBookWay_x1 a0 a1 a2 a3 a4 v16 v18 v20 v22 v24 v32), .as 79 false, .call false [] (.o (.c (.sl 14))) [] [(14, .row 57 4 (v35.map Booking.enc))], .call false [] (.o (.c (.v (.bool v37)))) [] [], .as 84 false, .call false [] (.o (.c (.sl 15))) [] [(15, .row 55 2 (v40.map Trip.enc))], .call false [] (.o (.c (.v (.bool v42)))) [] [], .as 89 false, .ad (.keep [1, 2, 3, 4, 5, 12, 13, 14, 15, 16, 17, 18, 19, 79, 80, 81, 82, 83, 84, 85, 86, 87, 88, 89, 90, 91] [6, 7, 0, 5, 8, 9, 10, 11, 14, 15]), .call false [6, 7] (.o (.c (.v (.int .i64 v45.1)))) [(6, .row 95 6 (v45.2.Legs.map Leg.enc)), (7, .row 3 1 (v45.2.Off.map encI))] [], .call false [9] (.o (.c (.v (.int .i64 v47.1)))) [(9, .row 57 4 (v47.2.map Booking.enc))] [], .call false [10] (.o (.c (.v (.int .i64 v49.1)))) [(10, .row 55 2 (v49.2.map Trip.enc))] [], .as 101 false, .call false [] (.o (.c (.v (.bool v52)))) [] [], .as 107 false, .as 111 false, .call false [11] (.o (.c (.v (.int .i64 v56.1)))) [(11, .row 57 4 (v56.2.map Booking.enc))] [], .call false [] (.o (.c (.v (.int .i64 v58)))) [] [], .as 119 false, .as 122 false, .call false [] (.o (.agg [.sl 16, .sl 17, .v (.int .i64 v62.Change)])) [] [(16, .row 95 6 (v62.Legs.map Leg.enc)), (17, .row 3 1 (v62.Off.map encI))], .call false [] (.o (.c (.sl 18))) [] [(18, .row 57 4 (v64.map Booking.enc))], .call false [] (.o (.c (.sl 19))) [] [(19, .row 55 2 (v66.map Trip.enc))], .call false [] (.tup [.c (.sl 20), .c (.v (.bool v68.2))]) [] [(20, .row 57 4 (v68.1.map Booking.enc))], .call false [] (.o (.c (.v (.bool v70)))) [] [], .as 139 false, .as 143 false, .call false [] (.o (.c (.v (.int .i64 v74)))) [] [], .as 148 true] [] [] [] (And.intro (laws_szNetwork_ok a0 1048576 v1 h2) (And.intro h3 (And.intro (laws_szBookingS_ok a1 v1 v4 h5) (And.intro h6 (And.intro (laws_szTripS_ok a4 v4 v7 h8) (And.intro h9 (And.intro (And.intro (con_sw 1001 2 (con_sw 1000 1 (laws_toNetwork_ok a0 v10 h11))) (rfl : ([] : List Nat) = [])) (And.intro (And.intro (con_sw 1000 3 (laws_toBookingS_ok a1 v12 h13)) (rfl : ([] : List Nat) = [])) (And.intro (And.intro (con_sw 1000 4 (laws_toTripS_ok a4 v14 h15)) (rfl : ([] : List Nat) = [])) (And.intro (And.intro (con_sw 1000 5 (spec_BookWay_ok v10 v12 a2 a3 v14 v16 h17)) (rfl : ([] : List Nat) = [])) (And.intro (And.intro (con_sw 1001 7 (con_sw 1000 6 (laws_toNetwork_ok a0 v18 h19))) (rfl : ([] : List Nat) = [])) (And.intro (And.intro (con_sw 1000 9 (laws_toBookingS_ok a1 v20 h21)) (rfl : ([] : List Nat) = [])) (And.intro (And.intro (con_sw 1000 10 (laws_toTripS_ok a4 v22 h23)) (rfl : ([] : List Nat) = [])) (And.intro (And.intro (con_sw 1000 11 (impl_BookWay_ok v18 v20 a2 a3 v22 v24 h25)) (rfl : ([] : List Nat) = [])) (And.intro (laws_eqBookingS_ok v24.1 v16.1 v26 h27) (And.intro h28 (And.intro h29 (And.intro (And.intro (con_sw 1001 13 (con_sw 1000 12 (laws_toNetwork_ok a0 v30 h31))) (rfl : ([] : List Nat) = [])) (And.intro (laws_eqNetwork_ok v18 v30 v32 h33) (And.intro (rfl : (laws_FnExactBookWay_x1 a0 a1 a2 a3 a4 v16 v18 v20 v22 v24 v32) = (laws_FnExactBookWay_x1 a0 a1 a2 a3 a4 v16 v18 v20 v22 v24 v32)) (And.intro (And.intro (con_sw 1001 13 (con_sw 1000 12 (laws_toNetwork_ok a0 v30 h31))) (rfl : ([] : List Nat) = [])) (And.intro (laws_eqNetwork_ok v18 v30 v32 h33) (And.intro (rfl : (laws_FnExactBookWay_x1 a0 a1 a2 a3 a4 v16 v18 v20 v22 v24 v32) = (laws_FnExactBookWay_x1 a0 a1 a2 a3 a4 v16 v18 v20 v22 v24 v32)) (And.intro (And.intro (con_sw 1001 13 (con_sw 1000 12 (laws_toNetwork_ok a0 v30 h31))) (rfl : ([] : List Nat) = [])) (And.intro (laws_eqNetwork_ok v18 v30 v32 h33) (And.intro (rfl : (laws_FnExactBookWay_x1 a0 a1 a2 a3 a4 v16 v18 v20 v22 v24 v32) = (laws_FnExactBookWay_x1 a0 a1 a2 a3 a4 v16 v18 v20 v22 v24 v32)) (And.intro h34 (And.intro (And.intro (con_sw 1000 14 (laws_toBookingS_ok a1 v35 h36)) (rfl : ([] : List Nat) = [])) (And.intro (laws_eqBookingS_ok v20 v35 v37 h38) (And.intro h39 (And.intro (And.intro (con_sw 1000 15 (laws_toTripS_ok a4 v40 h41)) (rfl : ([] : List Nat) = [])) (And.intro (laws_eqTripS_ok v22 v40 v42 h43) (And.intro h44 (And.intro (And.intro (con_sw 920 7 (con_sw 900 6 (laws_markNetwork_ok v18 1 v45 h46))) (rfl : ([6, 7] : List Nat) = [6, 7])) (And.intro (And.intro (con_sw 900 9 (laws_markBookingS_ok v20 v45.1 v47 h48)) (rfl : ([9] : List Nat) = [9])) (And.intro (And.intro (con_sw 900 10 (laws_markTripS_ok v22 v47.1 v49 h50)) (rfl : ([10] : List Nat) = [10])) (And.intro h51 (And.intro (laws_eqBookingS_ok v24.1 v16.1 v52 h53) (And.intro h54 (And.intro h55 (And.intro (And.intro (con_sw 900 11 (laws_markBookingS_ok v24.1 1 v56 h57)) (rfl : ([11] : List Nat) = [11])) (And.intro (laws_heldBookingS_ok v56.2 1 v58 h59) (And.intro h60 (And.intro h61 (And.intro (And.intro (con_sw 1001 17 (con_sw 1000 16 (laws_toNetwork_ok a0 v62 h63))) (rfl : ([] : List Nat) = [])) (And.intro (And.intro (con_sw 1000 18 (laws_toBookingS_ok a1 v64 h65)) (rfl : ([] : List Nat) = [])) (And.intro (And.intro (con_sw 1000 19 (laws_toTripS_ok a4 v66 h67)) (rfl : ([] : List Nat) = [])) (And.intro (And.intro (con_sw 1000 20 (impl_BookWay_ok v62 v64 a2 a3 v66 v68 h69)) (rfl : ([] : List Nat) = [])) (And.intro (laws_eqBookingS_ok v68.1 v16.1 v70 h71) (And.intro h72 (And.intro h73 (And.intro (laws_heldBookingS_ok v56.2 1 v74 h75) (And.intro h76 True.intro))))))))))))))))))))))))))))))))))))))))))))))))))))) (by kernel_rfl)
                                · rcases cond_cases hM with ⟨h77, hM⟩ | ⟨h77, hM⟩
                                  · have hE : some false = some r := hM
                                    have hE := Option.some.inj hE
                                    subst hE
                                    exact pr R 9999 [.new 0, .call false [] (.o (.c (.v (.int .i64 v1)))) [] [], .as 28 false, .call false [] (.o (.c (.v (.int .i64 v4)))) [] [], .as 33 false, .call false [] (.o (.c (.v (.int .i64 v7)))) [] [], .as 38 false, .call false [] (.o (.agg [.sl 1, .sl 2, .v (.int .i64 v10.Change)])) [] [(1, .row 95 6 (v10.Legs.map Leg.enc)), (2, .row 3 1 (v10.Off.map encI))], .call false [] (.o (.c (.sl 3))) [] [(3, .row 57 4 (v12.map Booking.enc))], .call false [] (.o (.c (.sl 4))) [] [(4, .row 55 2 (v14.map Trip.enc))], .call false [] (.tup [.c (.sl 5), .c (.v (.bool v16.2))]) [] [(5, .row 57 4 (v16.1.map Booking.enc))], .call false [] (.o (.agg [.sl 6, .sl 7, .v (.int .i64 v18.Change)])) [] [(6, .row 95 6 (v18.Legs.map Leg.enc)), (7, .row 3 1 (v18.Off.map encI))], .new 8, .call false [] (.o (.c (.sl 9))) [] [(9, .row 57 4 (v20.map Booking.enc))], .call false [] (.o (.c (.sl 10))) [] [(10, .row 55 2 (v22.map Trip.enc))], .call false [] (.tup [.c (.sl 11), .c (.v (.bool v24.2))]) [] [(11, .row 57 4 (v24.1.map Booking.enc))], .call false [] (.o (.c (.v (.bool v26)))) [] [], .as 70 false, .as 74 false, .xo [[], [], [.call false [] (.o (.agg [.sl 12, .sl 13, .v (.int .i64 v30.Change)])) [] [(12, .row 95 6 (v30.Legs.map Leg.enc)), (13, .row 3 1 (v30.Off.map encI))]], [.call false [] (.o (.c (.v (.bool v32)))) [] []], []] [.keep [1, 2, 3, 4, 5, 12, 13, 14, 15, 16, 17, 18, 79] [0, 5, 8, 6, 7, 9, 10, 11]] (laws_FnExactBookWay_x1 a0 a1 a2 a3 a4 v16 v18 v20 v22 v24 v32), .as 79 false, .call false [] (.o (.c (.sl 14))) [] [(14, .row 57 4 (v35.map Booking.enc))], .call false [] (.o (.c (.v (.bool v37)))) [] [], .as 84 false, .call false [] (.o (.c (.sl 15))) [] [(15, .row 55 2 (v40.map Trip.enc))], .call false [] (.o (.c (.v (.bool v42)))) [] [], .as 89 false, .ad (.keep [1, 2, 3, 4, 5, 12, 13, 14, 15, 16, 17, 18, 19, 79, 80, 81, 82, 83, 84, 85, 86, 87, 88, 89, 90, 91] [6, 7, 0, 5, 8, 9, 10, 11, 14, 15]), .call false [6, 7] (.o (.c (.v (.int .i64 v45.1)))) [(6, .row 95 6 (v45.2.Legs.map Leg.enc)), (7, .row 3 1 (v45.2.Off.map encI))] [], .call false [9] (.o (.c (.v (.int .i64 v47.1)))) [(9, .row 57 4 (v47.2.map Booking.enc))] [], .call false [10] (.o (.c (.v (.int .i64 v49.1)))) [(10, .row 55 2 (v49.2.map Trip.enc))] [], .as 101 false, .call false [] (.o (.c (.v (.bool v52)))) [] [], .as 107 false, .as 111 false, .call false [11] (.o (.c (.v (.int .i64 v56.1)))) [(11, .row 57 4 (v56.2.map Booking.enc))] [], .call false [] (.o (.c (.v (.int .i64 v58)))) [] [], .as 119 false, .as 122 false, .call false [] (.o (.agg [.sl 16, .sl 17, .v (.int .i64 v62.Change)])) [] [(16, .row 95 6 (v62.Legs.map Leg.enc)), (17, .row 3 1 (v62.Off.map encI))], .call false [] (.o (.c (.sl 18))) [] [(18, .row 57 4 (v64.map Booking.enc))], .call false [] (.o (.c (.sl 19))) [] [(19, .row 55 2 (v66.map Trip.enc))], .call false [] (.tup [.c (.sl 20), .c (.v (.bool v68.2))]) [] [(20, .row 57 4 (v68.1.map Booking.enc))], .call false [] (.o (.c (.v (.bool v70)))) [] [], .as 139 false, .as 143 false, .call false [] (.o (.c (.v (.int .i64 v74)))) [] [], .as 148 false, .as 151 true] [] [] [] (And.intro (laws_szNetwork_ok a0 1048576 v1 h2) (And.intro h3 (And.intro (laws_szBookingS_ok a1 v1 v4 h5) (And.intro h6 (And.intro (laws_szTripS_ok a4 v4 v7 h8) (And.intro h9 (And.intro (And.intro (con_sw 1001 2 (con_sw 1000 1 (laws_toNetwork_ok a0 v10 h11))) (rfl : ([] : List Nat) = [])) (And.intro (And.intro (con_sw 1000 3 (laws_toBookingS_ok a1 v12 h13)) (rfl : ([] : List Nat) = [])) (And.intro (And.intro (con_sw 1000 4 (laws_toTripS_ok a4 v14 h15)) (rfl : ([] : List Nat) = [])) (And.intro (And.intro (con_sw 1000 5 (spec_BookWay_ok v10 v12 a2 a3 v14 v16 h17)) (rfl : ([] : List Nat) = [])) (And.intro (And.intro (con_sw 1001 7 (con_sw 1000 6 (laws_toNetwork_ok a0 v18 h19))) (rfl : ([] : List Nat) = [])) (And.intro (And.intro (con_sw 1000 9 (laws_toBookingS_ok a1 v20 h21)) (rfl : ([] : List Nat) = [])) (And.intro (And.intro (con_sw 1000 10 (laws_toTripS_ok a4 v22 h23)) (rfl : ([] : List Nat) = [])) (And.intro (And.intro (con_sw 1000 11 (impl_BookWay_ok v18 v20 a2 a3 v22 v24 h25)) (rfl : ([] : List Nat) = [])) (And.intro (laws_eqBookingS_ok v24.1 v16.1 v26 h27) (And.intro h28 (And.intro h29 (And.intro (And.intro (con_sw 1001 13 (con_sw 1000 12 (laws_toNetwork_ok a0 v30 h31))) (rfl : ([] : List Nat) = [])) (And.intro (laws_eqNetwork_ok v18 v30 v32 h33) (And.intro (rfl : (laws_FnExactBookWay_x1 a0 a1 a2 a3 a4 v16 v18 v20 v22 v24 v32) = (laws_FnExactBookWay_x1 a0 a1 a2 a3 a4 v16 v18 v20 v22 v24 v32)) (And.intro (And.intro (con_sw 1001 13 (con_sw 1000 12 (laws_toNetwork_ok a0 v30 h31))) (rfl : ([] : List Nat) = [])) (And.intro (laws_eqNetwork_ok v18 v30 v32 h33) (And.intro (rfl : (laws_FnExactBookWay_x1 a0 a1 a2 a3 a4 v16 v18 v20 v22 v24 v32) = (laws_FnExactBookWay_x1 a0 a1 a2 a3 a4 v16 v18 v20 v22 v24 v32)) (And.intro (And.intro (con_sw 1001 13 (con_sw 1000 12 (laws_toNetwork_ok a0 v30 h31))) (rfl : ([] : List Nat) = [])) (And.intro (laws_eqNetwork_ok v18 v30 v32 h33) (And.intro (rfl : (laws_FnExactBookWay_x1 a0 a1 a2 a3 a4 v16 v18 v20 v22 v24 v32) = (laws_FnExactBookWay_x1 a0 a1 a2 a3 a4 v16 v18 v20 v22 v24 v32)) (And.intro h34 (And.intro (And.intro (con_sw 1000 14 (laws_toBookingS_ok a1 v35 h36)) (rfl : ([] : List Nat) = [])) (And.intro (laws_eqBookingS_ok v20 v35 v37 h38) (And.intro h39 (And.intro (And.intro (con_sw 1000 15 (laws_toTripS_ok a4 v40 h41)) (rfl : ([] : List Nat) = [])) (And.intro (laws_eqTripS_ok v22 v40 v42 h43) (And.intro h44 (And.intro (And.intro (con_sw 920 7 (con_sw 900 6 (laws_markNetwork_ok v18 1 v45 h46))) (rfl : ([6, 7] : List Nat) = [6, 7])) (And.intro (And.intro (con_sw 900 9 (laws_markBookingS_ok v20 v45.1 v47 h48)) (rfl : ([9] : List Nat) = [9])) (And.intro (And.intro (con_sw 900 10 (laws_markTripS_ok v22 v47.1 v49 h50)) (rfl : ([10] : List Nat) = [10])) (And.intro h51 (And.intro (laws_eqBookingS_ok v24.1 v16.1 v52 h53) (And.intro h54 (And.intro h55 (And.intro (And.intro (con_sw 900 11 (laws_markBookingS_ok v24.1 1 v56 h57)) (rfl : ([11] : List Nat) = [11])) (And.intro (laws_heldBookingS_ok v56.2 1 v58 h59) (And.intro h60 (And.intro h61 (And.intro (And.intro (con_sw 1001 17 (con_sw 1000 16 (laws_toNetwork_ok a0 v62 h63))) (rfl : ([] : List Nat) = [])) (And.intro (And.intro (con_sw 1000 18 (laws_toBookingS_ok a1 v64 h65)) (rfl : ([] : List Nat) = [])) (And.intro (And.intro (con_sw 1000 19 (laws_toTripS_ok a4 v66 h67)) (rfl : ([] : List Nat) = [])) (And.intro (And.intro (con_sw 1000 20 (impl_BookWay_ok v62 v64 a2 a3 v66 v68 h69)) (rfl : ([] : List Nat) = [])) (And.intro (laws_eqBookingS_ok v68.1 v16.1 v70 h71) (And.intro h72 (And.intro h73 (And.intro (laws_heldBookingS_ok v56.2 1 v74 h75) (And.intro h76 (And.intro h77 True.intro)))))))))))))))))))))))))))))))))))))))))))))))))))))) (by kernel_rfl)
                                  · have hE : some true = some r := hM
                                    have hE := Option.some.inj hE
                                    subst hE
                                    exact pr R 9999 [.new 0, .call false [] (.o (.c (.v (.int .i64 v1)))) [] [], .as 28 false, .call false [] (.o (.c (.v (.int .i64 v4)))) [] [], .as 33 false, .call false [] (.o (.c (.v (.int .i64 v7)))) [] [], .as 38 false, .call false [] (.o (.agg [.sl 1, .sl 2, .v (.int .i64 v10.Change)])) [] [(1, .row 95 6 (v10.Legs.map Leg.enc)), (2, .row 3 1 (v10.Off.map encI))], .call false [] (.o (.c (.sl 3))) [] [(3, .row 57 4 (v12.map Booking.enc))], .call false [] (.o (.c (.sl 4))) [] [(4, .row 55 2 (v14.map Trip.enc))], .call false [] (.tup [.c (.sl 5), .c (.v (.bool v16.2))]) [] [(5, .row 57 4 (v16.1.map Booking.enc))], .call false [] (.o (.agg [.sl 6, .sl 7, .v (.int .i64 v18.Change)])) [] [(6, .row 95 6 (v18.Legs.map Leg.enc)), (7, .row 3 1 (v18.Off.map encI))], .new 8, .call false [] (.o (.c (.sl 9))) [] [(9, .row 57 4 (v20.map Booking.enc))], .call false [] (.o (.c (.sl 10))) [] [(10, .row 55 2 (v22.map Trip.enc))], .call false [] (.tup [.c (.sl 11), .c (.v (.bool v24.2))]) [] [(11, .row 57 4 (v24.1.map Booking.enc))], .call false [] (.o (.c (.v (.bool v26)))) [] [], .as 70 false, .as 74 false, .xo [[], [], [.call false [] (.o (.agg [.sl 12, .sl 13, .v (.int .i64 v30.Change)])) [] [(12, .row 95 6 (v30.Legs.map Leg.enc)), (13, .row 3 1 (v30.Off.map encI))]], [.call false [] (.o (.c (.v (.bool v32)))) [] []], []] [.keep [1, 2, 3, 4, 5, 12, 13, 14, 15, 16, 17, 18, 79] [0, 5, 8, 6, 7, 9, 10, 11]] (laws_FnExactBookWay_x1 a0 a1 a2 a3 a4 v16 v18 v20 v22 v24 v32), .as 79 false, .call false [] (.o (.c (.sl 14))) [] [(14, .row 57 4 (v35.map Booking.enc))], .call false [] (.o (.c (.v (.bool v37)))) [] [], .as 84 false, .call false [] (.o (.c (.sl 15))) [] [(15, .row 55 2 (v40.map Trip.enc))], .call false [] (.o (.c (.v (.bool v42)))) [] [], .as 89 false, .ad (.keep [1, 2, 3, 4, 5, 12, 13, 14, 15, 16, 17, 18, 19, 79, 80, 81, 82, 83, 84, 85, 86, 87, 88, 89, 90, 91] [6, 7, 0, 5, 8, 9, 10, 11, 14, 15]), .call false [6, 7] (.o (.c (.v (.int .i64 v45.1)))) [(6, .row 95 6 (v45.2.Legs.map Leg.enc)), (7, .row 3 1 (v45.2.Off.map encI))] [], .call false [9] (.o (.c (.v (.int .i64 v47.1)))) [(9, .row 57 4 (v47.2.map Booking.enc))] [], .call false [10] (.o (.c (.v (.int .i64 v49.1)))) [(10, .row 55 2 (v49.2.map Trip.enc))] [], .as 101 false, .call false [] (.o (.c (.v (.bool v52)))) [] [], .as 107 false, .as 111 false, .call false [11] (.o (.c (.v (.int .i64 v56.1)))) [(11, .row 57 4 (v56.2.map Booking.enc))] [], .call false [] (.o (.c (.v (.int .i64 v58)))) [] [], .as 119 false, .as 122 false, .call false [] (.o (.agg [.sl 16, .sl 17, .v (.int .i64 v62.Change)])) [] [(16, .row 95 6 (v62.Legs.map Leg.enc)), (17, .row 3 1 (v62.Off.map encI))], .call false [] (.o (.c (.sl 18))) [] [(18, .row 57 4 (v64.map Booking.enc))], .call false [] (.o (.c (.sl 19))) [] [(19, .row 55 2 (v66.map Trip.enc))], .call false [] (.tup [.c (.sl 20), .c (.v (.bool v68.2))]) [] [(20, .row 57 4 (v68.1.map Booking.enc))], .call false [] (.o (.c (.v (.bool v70)))) [] [], .as 139 false, .as 143 false, .call false [] (.o (.c (.v (.int .i64 v74)))) [] [], .as 148 false, .as 151 false] [] [] [] (And.intro (laws_szNetwork_ok a0 1048576 v1 h2) (And.intro h3 (And.intro (laws_szBookingS_ok a1 v1 v4 h5) (And.intro h6 (And.intro (laws_szTripS_ok a4 v4 v7 h8) (And.intro h9 (And.intro (And.intro (con_sw 1001 2 (con_sw 1000 1 (laws_toNetwork_ok a0 v10 h11))) (rfl : ([] : List Nat) = [])) (And.intro (And.intro (con_sw 1000 3 (laws_toBookingS_ok a1 v12 h13)) (rfl : ([] : List Nat) = [])) (And.intro (And.intro (con_sw 1000 4 (laws_toTripS_ok a4 v14 h15)) (rfl : ([] : List Nat) = [])) (And.intro (And.intro (con_sw 1000 5 (spec_BookWay_ok v10 v12 a2 a3 v14 v16 h17)) (rfl : ([] : List Nat) = [])) (And.intro (And.intro (con_sw 1001 7 (con_sw 1000 6 (laws_toNetwork_ok a0 v18 h19))) (rfl : ([] : List Nat) = [])) (And.intro (And.intro (con_sw 1000 9 (laws_toBookingS_ok a1 v20 h21)) (rfl : ([] : List Nat) = [])) (And.intro (And.intro (con_sw 1000 10 (laws_toTripS_ok a4 v22 h23)) (rfl : ([] : List Nat) = [])) (And.intro (And.intro (con_sw 1000 11 (impl_BookWay_ok v18 v20 a2 a3 v22 v24 h25)) (rfl : ([] : List Nat) = [])) (And.intro (laws_eqBookingS_ok v24.1 v16.1 v26 h27) (And.intro h28 (And.intro h29 (And.intro (And.intro (con_sw 1001 13 (con_sw 1000 12 (laws_toNetwork_ok a0 v30 h31))) (rfl : ([] : List Nat) = [])) (And.intro (laws_eqNetwork_ok v18 v30 v32 h33) (And.intro (rfl : (laws_FnExactBookWay_x1 a0 a1 a2 a3 a4 v16 v18 v20 v22 v24 v32) = (laws_FnExactBookWay_x1 a0 a1 a2 a3 a4 v16 v18 v20 v22 v24 v32)) (And.intro (And.intro (con_sw 1001 13 (con_sw 1000 12 (laws_toNetwork_ok a0 v30 h31))) (rfl : ([] : List Nat) = [])) (And.intro (laws_eqNetwork_ok v18 v30 v32 h33) (And.intro (rfl : (laws_FnExactBookWay_x1 a0 a1 a2 a3 a4 v16 v18 v20 v22 v24 v32) = (laws_FnExactBookWay_x1 a0 a1 a2 a3 a4 v16 v18 v20 v22 v24 v32)) (And.intro (And.intro (con_sw 1001 13 (con_sw 1000 12 (laws_toNetwork_ok a0 v30 h31))) (rfl : ([] : List Nat) = [])) (And.intro (laws_eqNetwork_ok v18 v30 v32 h33) (And.intro (rfl : (laws_FnExactBookWay_x1 a0 a1 a2 a3 a4 v16 v18 v20 v22 v24 v32) = (laws_FnExactBookWay_x1 a0 a1 a2 a3 a4 v16 v18 v20 v22 v24 v32)) (And.intro h34 (And.intro (And.intro (con_sw 1000 14 (laws_toBookingS_ok a1 v35 h36)) (rfl : ([] : List Nat) = [])) (And.intro (laws_eqBookingS_ok v20 v35 v37 h38) (And.intro h39 (And.intro (And.intro (con_sw 1000 15 (laws_toTripS_ok a4 v40 h41)) (rfl : ([] : List Nat) = [])) (And.intro (laws_eqTripS_ok v22 v40 v42 h43) (And.intro h44 (And.intro (And.intro (con_sw 920 7 (con_sw 900 6 (laws_markNetwork_ok v18 1 v45 h46))) (rfl : ([6, 7] : List Nat) = [6, 7])) (And.intro (And.intro (con_sw 900 9 (laws_markBookingS_ok v20 v45.1 v47 h48)) (rfl : ([9] : List Nat) = [9])) (And.intro (And.intro (con_sw 900 10 (laws_markTripS_ok v22 v47.1 v49 h50)) (rfl : ([10] : List Nat) = [10])) (And.intro h51 (And.intro (laws_eqBookingS_ok v24.1 v16.1 v52 h53) (And.intro h54 (And.intro h55 (And.intro (And.intro (con_sw 900 11 (laws_markBookingS_ok v24.1 1 v56 h57)) (rfl : ([11] : List Nat) = [11])) (And.intro (laws_heldBookingS_ok v56.2 1 v58 h59) (And.intro h60 (And.intro h61 (And.intro (And.intro (con_sw 1001 17 (con_sw 1000 16 (laws_toNetwork_ok a0 v62 h63))) (rfl : ([] : List Nat) = [])) (And.intro (And.intro (con_sw 1000 18 (laws_toBookingS_ok a1 v64 h65)) (rfl : ([] : List Nat) = [])) (And.intro (And.intro (con_sw 1000 19 (laws_toTripS_ok a4 v66 h67)) (rfl : ([] : List Nat) = [])) (And.intro (And.intro (con_sw 1000 20 (impl_BookWay_ok v62 v64 a2 a3 v66 v68 h69)) (rfl : ([] : List Nat) = [])) (And.intro (laws_eqBookingS_ok v68.1 v16.1 v70 h71) (And.intro h72 (And.intro h73 (And.intro (laws_heldBookingS_ok v56.2 1 v74 h75) (And.intro h76 (And.intro h77 True.intro)))))))))))))))))))))))))))))))))))))))))))))))))))))) (by kernel_rfl)
end Go.Sx
