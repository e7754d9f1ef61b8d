/- The functions of the program as plain Lean, and that each runs so (printed by wip/gen). -/
import Derived.Test.YtgpdelkcedmghaaGxW2
namespace Go.Sx
open Go.Proofs
set_option linter.unusedVariables false

-- loop.example/g03014/laws.FnExactNextFree
def laws_FnExactNextFree_x1 (a1 : (List Booking)) (a2 : (List Trip)) (v20 : (List Booking)) (v22 : (List Trip)) (v32 : Bool) : St := ⟨[(1, .o (.c (.rs 4 (a1.map Booking.enc)))), (2, .o (.c (.rs 2 (a2.map Trip.enc)))), (17, .o (.c (.sl 9))), (18, .o (.c (.sl 10))), (78, .o (.c (.v (.bool (!v32)))))], [(9, .row 74 4 (v20.map Booking.enc)), (10, .row 31 2 (v22.map Trip.enc))]⟩
def laws_FnExactNextFree (a0 : Network) (a1 : (List Booking)) (a2 : (List Trip)) (a3 : Int) (a4 : Int) (a5 : Int) : Option Bool :=
  (laws_szNetwork a0 1048576).bind fun v1 =>
  bif (decide (v1 < 0)) then
  some true
  else
  (laws_szBookingS a1 v1).bind fun v4 =>
  bif (decide (v4 < 0)) then
  some true
  else
  (laws_szTripS a2 v4).bind fun v7 =>
  bif (decide (v7 < 0)) then
  some true
  else
  (laws_toNetwork a0).bind fun v10 =>
  (laws_toBookingS a1).bind fun v12 =>
  (laws_toTripS a2).bind fun v14 =>
  (spec_NextFree v10 v12 v14 a3 a4 a5).bind fun v16 =>
  (laws_toNetwork a0).bind fun v18 =>
  (laws_toBookingS a1).bind fun v20 =>
  (laws_toTripS a2).bind fun v22 =>
  (impl_NextFree v18 v20 v22 a3 a4 a5).bind fun v24 =>
  (laws_eqTrip v24.1 v16.1).bind fun v26 =>
  bif (!v26) then
  some false
  else
  bif (!(v24.2 == v16.2)) then
  some false
  else
  (laws_toNetwork a0).bind fun v30 =>
  (laws_eqNetwork v18 v30).bind fun v32 =>
  bif (!v32) then
  some false
  else
  (laws_toBookingS a1).bind fun v35 =>
  (laws_eqBookingS v20 v35).bind fun v37 =>
  bif (!v37) then
  some false
  else
  (laws_toTripS a2).bind fun v40 =>
  (laws_eqTripS v22 v40).bind fun v42 =>
  bif (!v42) then
  some false
  else
  some true
theorem laws_FnExactNextFree_ok (a0 : Network) (a1 : (List Booking)) (a2 : (List Trip)) (a3 : Int) (a4 : Int) (a5 : Int) (r : Bool) (hM : laws_FnExactNextFree a0 a1 a2 a3 a4 a5 = some r) :
    Con Try.prog 13 [.agg [.rs 6 (a0.Legs.map Leg.enc), .rs 1 (a0.Off.map encI), .v (.int .i64 a0.Change)], .c (.rs 4 (a1.map Booking.enc)), .c (.rs 2 (a2.map Trip.enc)), .c (.v (.int .i64 a3)), .c (.v (.int .i64 a4)), .c (.v (.int .i64 a5))] [] (.o (.c (.v (.bool r)))) [] [] := by
  unfold laws_FnExactNextFree at hM
  refine cn (N := 89) (pids := []) Try_mixed Try.func13 (by kernel_rfl) (by kernel_rfl) (by kernel_rfl) rfl fun ρ g w R => ?_
  obtain ⟨v1, h2, hM⟩ := bind_some hM
  rcases cond_cases hM with ⟨h3, hM⟩ | ⟨h3, hM⟩
  · have hE : some true = some r := hM
    have hE := Option.some.inj hE
    subst hE
    exact pr R 9999 [.new 0, .call false [] (.o (.c (.v (.int .i64 v1)))) [] [], .as 25 true] [] [] [] (And.intro (laws_szNetwork_ok a0 1048576 v1 h2) (And.intro h3 True.intro)) (by kernel_rfl)
  · obtain ⟨v4, h5, hM⟩ := bind_some hM
    rcases cond_cases hM with ⟨h6, hM⟩ | ⟨h6, hM⟩
    · have hE : some true = some r := hM
      have hE := Option.some.inj hE
      subst hE
      exact pr R 9999 [.new 0, .call false [] (.o (.c (.v (.int .i64 v1)))) [] [], .as 25 false, .call false [] (.o (.c (.v (.int .i64 v4)))) [] [], .as 30 true] [] [] [] (And.intro (laws_szNetwork_ok a0 1048576 v1 h2) (And.intro h3 (And.intro (laws_szBookingS_ok a1 v1 v4 h5) (And.intro h6 True.intro)))) (by kernel_rfl)
    · obtain ⟨v7, h8, hM⟩ := bind_some hM
      rcases cond_cases hM with ⟨h9, hM⟩ | ⟨h9, hM⟩
      · have hE : some true = some r := hM
        have hE := Option.some.inj hE
        subst hE
        exact pr R 9999 [.new 0, .call false [] (.o (.c (.v (.int .i64 v1)))) [] [], .as 25 false, .call false [] (.o (.c (.v (.int .i64 v4)))) [] [], .as 30 false, .call false [] (.o (.c (.v (.int .i64 v7)))) [] [], .as 35 true] [] [] [] (And.intro (laws_szNetwork_ok a0 1048576 v1 h2) (And.intro h3 (And.intro (laws_szBookingS_ok a1 v1 v4 h5) (And.intro h6 (And.intro (laws_szTripS_ok a2 v4 v7 h8) (And.intro h9 True.intro)))))) (by kernel_rfl)
      · obtain ⟨v10, h11, hM⟩ := bind_some hM
        obtain ⟨v12, h13, hM⟩ := bind_some hM
        obtain ⟨v14, h15, hM⟩ := bind_some hM
        obtain ⟨v16, h17, hM⟩ := bind_some hM
        obtain ⟨v18, h19, hM⟩ := bind_some hM
        obtain ⟨v20, h21, hM⟩ := bind_some hM
        obtain ⟨v22, h23, hM⟩ := bind_some hM
        obtain ⟨v24, h25, hM⟩ := bind_some hM
        obtain ⟨v26, h27, hM⟩ := bind_some hM
        rcases cond_cases hM with ⟨h28, hM⟩ | ⟨h28, hM⟩
        · have hE : some false = some r := hM
          have hE := Option.some.inj hE
          subst hE
          exact pr R 9999 [.new 0, .call false [] (.o (.c (.v (.int .i64 v1)))) [] [], .as 25 false, .call false [] (.o (.c (.v (.int .i64 v4)))) [] [], .as 30 false, .call false [] (.o (.c (.v (.int .i64 v7)))) [] [], .as 35 false, .call false [] (.o (.agg [.sl 1, .sl 2, .v (.int .i64 v10.Change)])) [] [(1, .row 89 6 (v10.Legs.map Leg.enc)), (2, .row 3 1 (v10.Off.map encI))], .call false [] (.o (.c (.sl 3))) [] [(3, .row 74 4 (v12.map Booking.enc))], .call false [] (.o (.c (.sl 4))) [] [(4, .row 31 2 (v14.map Trip.enc))], .call false [] (.tup [.c (.v (.agg (Trip.enc v16.1).toArray)), .c (.v (.bool v16.2))]) [] [], .new 5, .call false [] (.o (.agg [.sl 6, .sl 7, .v (.int .i64 v18.Change)])) [] [(6, .row 89 6 (v18.Legs.map Leg.enc)), (7, .row 3 1 (v18.Off.map encI))], .new 8, .call false [] (.o (.c (.sl 9))) [] [(9, .row 74 4 (v20.map Booking.enc))], .call false [] (.o (.c (.sl 10))) [] [(10, .row 31 2 (v22.map Trip.enc))], .call false [] (.tup [.c (.v (.agg (Trip.enc v24.1).toArray)), .c (.v (.bool v24.2))]) [] [], .new 11, .call false [] (.o (.c (.v (.bool v26)))) [] [], .as 69 true] [] [] [] (And.intro (laws_szNetwork_ok a0 1048576 v1 h2) (And.intro h3 (And.intro (laws_szBookingS_ok a1 v1 v4 h5) (And.intro h6 (And.intro (laws_szTripS_ok a2 v4 v7 h8) (And.intro h9 (And.intro (And.intro (con_sw 1001 2 (con_sw 1000 1 (laws_toNetwork_ok a0 v10 h11))) (rfl : ([] : List Nat) = [])) (And.intro (And.intro (con_sw 1000 3 (laws_toBookingS_ok a1 v12 h13)) (rfl : ([] : List Nat) = [])) (And.intro (And.intro (con_sw 1000 4 (laws_toTripS_ok a2 v14 h15)) (rfl : ([] : List Nat) = [])) (And.intro (spec_NextFree_ok v10 v12 v14 a3 a4 a5 v16 h17) (And.intro (And.intro (con_sw 1001 7 (con_sw 1000 6 (laws_toNetwork_ok a0 v18 h19))) (rfl : ([] : List Nat) = [])) (And.intro (And.intro (con_sw 1000 9 (laws_toBookingS_ok a1 v20 h21)) (rfl : ([] : List Nat) = [])) (And.intro (And.intro (con_sw 1000 10 (laws_toTripS_ok a2 v22 h23)) (rfl : ([] : List Nat) = [])) (And.intro (impl_NextFree_ok v18 v20 v22 a3 a4 a5 v24 h25) (And.intro (laws_eqTrip_ok v24.1 v16.1 v26 h27) (And.intro h28 True.intro)))))))))))))))) (by kernel_rfl)
        · rcases cond_cases hM with ⟨h29, hM⟩ | ⟨h29, hM⟩
          · have hE : some false = some r := hM
            have hE := Option.some.inj hE
            subst hE
            exact pr R 9999 [.new 0, .call false [] (.o (.c (.v (.int .i64 v1)))) [] [], .as 25 false, .call false [] (.o (.c (.v (.int .i64 v4)))) [] [], .as 30 false, .call false [] (.o (.c (.v (.int .i64 v7)))) [] [], .as 35 false, .call false [] (.o (.agg [.sl 1, .sl 2, .v (.int .i64 v10.Change)])) [] [(1, .row 89 6 (v10.Legs.map Leg.enc)), (2, .row 3 1 (v10.Off.map encI))], .call false [] (.o (.c (.sl 3))) [] [(3, .row 74 4 (v12.map Booking.enc))], .call false [] (.o (.c (.sl 4))) [] [(4, .row 31 2 (v14.map Trip.enc))], .call false [] (.tup [.c (.v (.agg (Trip.enc v16.1).toArray)), .c (.v (.bool v16.2))]) [] [], .new 5, .call false [] (.o (.agg [.sl 6, .sl 7, .v (.int .i64 v18.Change)])) [] [(6, .row 89 6 (v18.Legs.map Leg.enc)), (7, .row 3 1 (v18.Off.map encI))], .new 8, .call false [] (.o (.c (.sl 9))) [] [(9, .row 74 4 (v20.map Booking.enc))], .call false [] (.o (.c (.sl 10))) [] [(10, .row 31 2 (v22.map Trip.enc))], .call false [] (.tup [.c (.v (.agg (Trip.enc v24.1).toArray)), .c (.v (.bool v24.2))]) [] [], .new 11, .call false [] (.o (.c (.v (.bool v26)))) [] [], .as 69 false, .as 73 true] [] [] [] (And.intro (laws_szNetwork_ok a0 1048576 v1 h2) (And.intro h3 (And.intro (laws_szBookingS_ok a1 v1 v4 h5) (And.intro h6 (And.intro (laws_szTripS_ok a2 v4 v7 h8) (And.intro h9 (And.intro (And.intro (con_sw 1001 2 (con_sw 1000 1 (laws_toNetwork_ok a0 v10 h11))) (rfl : ([] : List Nat) = [])) (And.intro (And.intro (con_sw 1000 3 (laws_toBookingS_ok a1 v12 h13)) (rfl : ([] : List Nat) = [])) (And.intro (And.intro (con_sw 1000 4 (laws_toTripS_ok a2 v14 h15)) (rfl : ([] : List Nat) = [])) (And.intro (spec_NextFree_ok v10 v12 v14 a3 a4 a5 v16 h17) (And.intro (And.intro (con_sw 1001 7 (con_sw 1000 6 (laws_toNetwork_ok a0 v18 h19))) (rfl : ([] : List Nat) = [])) (And.intro (And.intro (con_sw 1000 9 (laws_toBookingS_ok a1 v20 h21)) (rfl : ([] : List Nat) = [])) (And.intro (And.intro (con_sw 1000 10 (laws_toTripS_ok a2 v22 h23)) (rfl : ([] : List Nat) = [])) (And.intro (impl_NextFree_ok v18 v20 v22 a3 a4 a5 v24 h25) (And.intro (laws_eqTrip_ok v24.1 v16.1 v26 h27) (And.intro h28 (And.intro h29 True.intro))))))))))))))))) (by kernel_rfl)
          · obtain ⟨v30, h31, hM⟩ := bind_some hM
            obtain ⟨v32, h33, hM⟩ := bind_some hM
            rcases cond_cases hM with ⟨h34, hM⟩ | ⟨h34, hM⟩
            · have hE : some false = some r := hM
              have hE := Option.some.inj hE
              subst hE
              exact pr R 9999 [.new 0, .call false [] (.o (.c (.v (.int .i64 v1)))) [] [], .as 25 false, .call false [] (.o (.c (.v (.int .i64 v4)))) [] [], .as 30 false, .call false [] (.o (.c (.v (.int .i64 v7)))) [] [], .as 35 false, .call false [] (.o (.agg [.sl 1, .sl 2, .v (.int .i64 v10.Change)])) [] [(1, .row 89 6 (v10.Legs.map Leg.enc)), (2, .row 3 1 (v10.Off.map encI))], .call false [] (.o (.c (.sl 3))) [] [(3, .row 74 4 (v12.map Booking.enc))], .call false [] (.o (.c (.sl 4))) [] [(4, .row 31 2 (v14.map Trip.enc))], .call false [] (.tup [.c (.v (.agg (Trip.enc v16.1).toArray)), .c (.v (.bool v16.2))]) [] [], .new 5, .call false [] (.o (.agg [.sl 6, .sl 7, .v (.int .i64 v18.Change)])) [] [(6, .row 89 6 (v18.Legs.map Leg.enc)), (7, .row 3 1 (v18.Off.map encI))], .new 8, .call false [] (.o (.c (.sl 9))) [] [(9, .row 74 4 (v20.map Booking.enc))], .call false [] (.o (.c (.sl 10))) [] [(10, .row 31 2 (v22.map Trip.enc))], .call false [] (.tup [.c (.v (.agg (Trip.enc v24.1).toArray)), .c (.v (.bool v24.2))]) [] [], .new 11, .call false [] (.o (.c (.v (.bool v26)))) [] [], .as 69 false, .as 73 false, .xo [[], [], [.call false [] (.o (.agg [.sl 12, .sl 13, .v (.int .i64 v30.Change)])) [] [(12, .row 89 6 (v30.Legs.map Leg.enc)), (13, .row 3 1 (v30.Off.map encI))]], [.call false [] (.o (.c (.v (.bool v32)))) [] []], []] [.keep [1, 2, 17, 18, 78] [9, 10]] (laws_FnExactNextFree_x1 a1 a2 v20 v22 v32), .as 78 true] [] [] [] (And.intro (laws_szNetwork_ok a0 1048576 v1 h2) (And.intro h3 (And.intro (laws_szBookingS_ok a1 v1 v4 h5) (And.intro h6 (And.intro (laws_szTripS_ok a2 v4 v7 h8) (And.intro h9 (And.intro (And.intro (con_sw 1001 2 (con_sw 1000 1 (laws_toNetwork_ok a0 v10 h11))) (rfl : ([] : List Nat) = [])) (And.intro (And.intro (con_sw 1000 3 (laws_toBookingS_ok a1 v12 h13)) (rfl : ([] : List Nat) = [])) (And.intro (And.intro (con_sw 1000 4 (laws_toTripS_ok a2 v14 h15)) (rfl : ([] : List Nat) = [])) (And.intro (spec_NextFree_ok v10 v12 v14 a3 a4 a5 v16 h17) (And.intro (And.intro (con_sw 1001 7 (con_sw 1000 6 (laws_toNetwork_ok a0 v18 h19))) (rfl : ([] : List Nat) = [])) (And.intro (And.intro (con_sw 1000 9 (laws_toBookingS_ok a1 v20 h21)) (rfl : ([] : List Nat) = [])) (And.intro (And.intro (con_sw 1000 10 (laws_toTripS_ok a2 v22 h23)) (rfl : ([] : List Nat) = [])) (And.intro (impl_NextFree_ok v18 v20 v22 a3 a4 a5 v24 h25) (And.intro (laws_eqTrip_ok v24.1 v16.1 v26 h27) (And.intro h28 (And.intro h29 (And.intro (And.intro (con_sw 1001 13 (con_sw 1000 12 (laws_toNetwork_ok a0 v30 h31))) (rfl : ([] : List Nat) = [])) (And.intro (laws_eqNetwork_ok v18 v30 v32 h33) (And.intro (rfl : (laws_FnExactNextFree_x1 a1 a2 v20 v22 v32) = (laws_FnExactNextFree_x1 a1 a2 v20 v22 v32)) (And.intro (And.intro (con_sw 1001 13 (con_sw 1000 12 (laws_toNetwork_ok a0 v30 h31))) (rfl : ([] : List Nat) = [])) (And.intro (laws_eqNetwork_ok v18 v30 v32 h33) (And.intro (rfl : (laws_FnExactNextFree_x1 a1 a2 v20 v22 v32) = (laws_FnExactNextFree_x1 a1 a2 v20 v22 v32)) (And.intro (And.intro (con_sw 1001 13 (con_sw 1000 12 (laws_toNetwork_ok a0 v30 h31))) (rfl : ([] : List Nat) = [])) (And.intro (laws_eqNetwork_ok v18 v30 v32 h33) (And.intro (rfl : (laws_FnExactNextFree_x1 a1 a2 v20 v22 v32) = (laws_FnExactNextFree_x1 a1 a2 v20 v22 v32)) (And.intro h34 True.intro))))))))))))))))))))))))))) (by kernel_rfl)
            · obtain ⟨v35, h36, hM⟩ := bind_some hM
              obtain ⟨v37, h38, hM⟩ := bind_some hM
              rcases cond_cases hM with ⟨h39, hM⟩ | ⟨h39, hM⟩
              · have hE : some false = some r := hM
                have hE := Option.some.inj hE
                subst hE
                exact pr R 9999 [.new 0, .call false [] (.o (.c (.v (.int .i64 v1)))) [] [], .as 25 false, .call false [] (.o (.c (.v (.int .i64 v4)))) [] [], .as 30 false, .call false [] (.o (.c (.v (.int .i64 v7)))) [] [], .as 35 false, .call false [] (.o (.agg [.sl 1, .sl 2, .v (.int .i64 v10.Change)])) [] [(1, .row 89 6 (v10.Legs.map Leg.enc)), (2, .row 3 1 (v10.Off.map encI))], .call false [] (.o (.c (.sl 3))) [] [(3, .row 74 4 (v12.map Booking.enc))], .call false [] (.o (.c (.sl 4))) [] [(4, .row 31 2 (v14.map Trip.enc))], .call false [] (.tup [.c (.v (.agg (Trip.enc v16.1).toArray)), .c (.v (.bool v16.2))]) [] [], .new 5, .call false [] (.o (.agg [.sl 6, .sl 7, .v (.int .i64 v18.Change)])) [] [(6, .row 89 6 (v18.Legs.map Leg.enc)), (7, .row 3 1 (v18.Off.map encI))], .new 8, .call false [] (.o (.c (.sl 9))) [] [(9, .row 74 4 (v20.map Booking.enc))], .call false [] (.o (.c (.sl 10))) [] [(10, .row 31 2 (v22.map Trip.enc))], .call false [] (.tup [.c (.v (.agg (Trip.enc v24.1).toArray)), .c (.v (.bool v24.2))]) [] [], .new 11, .call false [] (.o (.c (.v (.bool v26)))) [] [], .as 69 false, .as 73 false, .xo [[], [], [.call false [] (.o (.agg [.sl 12, .sl 13, .v (.int .i64 v30.Change)])) [] [(12, .row 89 6 (v30.Legs.map Leg.enc)), (13, .row 3 1 (v30.Off.map encI))]], [.call false [] (.o (.c (.v (.bool v32)))) [] []], []] [.keep [1, 2, 17, 18, 78] [9, 10]] (laws_FnExactNextFree_x1 a1 a2 v20 v22 v32), .as 78 false, .call false [] (.o (.c (.sl 14))) [] [(14, .row 74 4 (v35.map Booking.enc))], .call false [] (.o (.c (.v (.bool v37)))) [] [], .as 83 true] [] [] [] (And.intro (laws_szNetwork_ok a0 1048576 v1 h2) (And.intro h3 (And.intro (laws_szBookingS_ok a1 v1 v4 h5) (And.intro h6 (And.intro (laws_szTripS_ok a2 v4 v7 h8) (And.intro h9 (And.intro (And.intro (con_sw 1001 2 (con_sw 1000 1 (laws_toNetwork_ok a0 v10 h11))) (rfl : ([] : List Nat) = [])) (And.intro (And.intro (con_sw 1000 3 (laws_toBookingS_ok a1 v12 h13)) (rfl : ([] : List Nat) = [])) (And.intro (And.intro (con_sw 1000 4 (laws_toTripS_ok a2 v14 h15)) (rfl : ([] : List Nat) = [])) (And.intro (spec_NextFree_ok v10 v12 v14 a3 a4 a5 v16 h17) (And.intro (And.intro (con_sw 1001 7 (con_sw 1000 6 (laws_toNetwork_ok a0 v18 h19))) (rfl : ([] : List Nat) = [])) (And.intro (And.intro (con_sw 1000 9 (laws_toBookingS_ok a1 v20 h21)) (rfl : ([] : List Nat) = [])) (And.intro (And.intro (con_sw 1000 10 (laws_toTripS_ok a2 v22 h23)) (rfl : ([] : List Nat) = [])) (And.intro (impl_NextFree_ok v18 v20 v22 a3 a4 a5 v24 h25) (And.intro (laws_eqTrip_ok v24.1 v16.1 v26 h27) (And.intro h28 (And.intro h29 (And.intro (And.intro (con_sw 1001 13 (con_sw 1000 12 (laws_toNetwork_ok a0 v30 h31))) (rfl : ([] : List Nat) = [])) (And.intro (laws_eqNetwork_ok v18 v30 v32 h33) (And.intro (rfl : (laws_FnExactNextFree_x1 a1 a2 v20 v22 v32) = (laws_FnExactNextFree_x1 a1 a2 v20 v22 v32)) (And.intro (And.intro (con_sw 1001 13 (con_sw 1000 12 (laws_toNetwork_ok a0 v30 h31))) (rfl : ([] : List Nat) = [])) (And.intro (laws_eqNetwork_ok v18 v30 v32 h33) (And.intro (rfl : (laws_FnExactNextFree_x1 a1 a2 v20 v22 v32) = (laws_FnExactNextFree_x1 a1 a2 v20 v22 v32)) (And.intro (And.intro (con_sw 1001 13 (con_sw 1000 12 (laws_toNetwork_ok a0 v30 h31))) (rfl : ([] : List Nat) = [])) (And.intro (laws_eqNetwork_ok v18 v30 v32 h33) (And.intro (rfl : (laws_FnExactNextFree_x1 a1 a2 v20 v22 v32) = (laws_FnExactNextFree_x1 a1 a2 v20 v22 v32)) (And.intro h34 (And.intro (And.intro (con_sw 1000 14 (laws_toBookingS_ok a1 v35 h36)) (rfl : ([] : List Nat) = [])) (And.intro (laws_eqBookingS_ok v20 v35 v37 h38) (And.intro h39 True.intro)))))))))))))))))))))))))))))) (by kernel_rfl)
              · obtain ⟨v40, h41, hM⟩ := bind_some hM
                obtain ⟨v42, h43, hM⟩ := bind_some hM
                rcases cond_cases hM with ⟨h44, hM⟩ | ⟨h44, hM⟩
                · have hE : some false = some r := hM
                  have hE := Option.some.inj hE
                  subst hE
                  exact pr R 9999 [.new 0, .call false [] (.o (.c (.v (.int .i64 v1)))) [] [], .as 25 false, .call false [] (.o (.c (.v (.int .i64 v4)))) [] [], .as 30 false, .call false [] (.o (.c (.v (.int .i64 v7)))) [] [], .as 35 false, .call false [] (.o (.agg [.sl 1, .sl 2, .v (.int .i64 v10.Change)])) [] [(1, .row 89 6 (v10.Legs.map Leg.enc)), (2, .row 3 1 (v10.Off.map encI))], .call false [] (.o (.c (.sl 3))) [] [(3, .row 74 4 (v12.map Booking.enc))], .call false [] (.o (.c (.sl 4))) [] [(4, .row 31 2 (v14.map Trip.enc))], .call false [] (.tup [.c (.v (.agg (Trip.enc v16.1).toArray)), .c (.v (.bool v16.2))]) [] [], .new 5, .call false [] (.o (.agg [.sl 6, .sl 7, .v (.int .i64 v18.Change)])) [] [(6, .row 89 6 (v18.Legs.map Leg.enc)), (7, .row 3 1 (v18.Off.map encI))], .new 8, .call false [] (.o (.c (.sl 9))) [] [(9, .row 74 4 (v20.map Booking.enc))], .call false [] (.o (.c (.sl 10))) [] [(10, .row 31 2 (v22.map Trip.enc))], .call false [] (.tup [.c (.v (.agg (Trip.enc v24.1).toArray)), .c (.v (.bool v24.2))]) [] [], .new 11, .call false [] (.o (.c (.v (.bool v26)))) [] [], .as 69 false, .as 73 false, .xo [[], [], [.call false [] (.o (.agg [.sl 12, .sl 13, .v (.int .i64 v30.Change)])) [] [(12, .row 89 6 (v30.Legs.map Leg.enc)), (13, .row 3 1 (v30.Off.map encI))]], [.call false [] (.o (.c (.v (.bool v32)))) [] []], []] [.keep [1, 2, 17, 18, 78] [9, 10]] (laws_FnExactNextFree_x1 a1 a2 v20 v22 v32), .as 78 false, .call false [] (.o (.c (.sl 14))) [] [(14, .row 74 4 (v35.map Booking.enc))], .call false [] (.o (.c (.v (.bool v37)))) [] [], .as 83 false, .call false [] (.o (.c (.sl 15))) [] [(15, .row 31 2 (v40.map Trip.enc))], .call false [] (.o (.c (.v (.bool v42)))) [] [], .as 88 true] [] [] [] (And.intro (laws_szNetwork_ok a0 1048576 v1 h2) (And.intro h3 (And.intro (laws_szBookingS_ok a1 v1 v4 h5) (And.intro h6 (And.intro (laws_szTripS_ok a2 v4 v7 h8) (And.intro h9 (And.intro (And.intro (con_sw 1001 2 (con_sw 1000 1 (laws_toNetwork_ok a0 v10 h11))) (rfl : ([] : List Nat) = [])) (And.intro (And.intro (con_sw 1000 3 (laws_toBookingS_ok a1 v12 h13)) (rfl : ([] : List Nat) = [])) (And.intro (And.intro (con_sw 1000 4 (laws_toTripS_ok a2 v14 h15)) (rfl : ([] : List Nat) = [])) (And.intro (spec_NextFree_ok v10 v12 v14 a3 a4 a5 v16 h17) (And.intro (And.intro (con_sw 1001 7 (con_sw 1000 6 (laws_toNetwork_ok a0 v18 h19))) (rfl : ([] : List Nat) = [])) (And.intro (And.intro (con_sw 1000 9 (laws_toBookingS_ok a1 v20 h21)) (rfl : ([] : List Nat) = [])) (And.intro (And.intro (con_sw 1000 10 (laws_toTripS_ok a2 v22 h23)) (rfl : ([] : List Nat) = [])) (And.intro (impl_NextFree_ok v18 v20 v22 a3 a4 a5 v24 h25) (And.intro (laws_eqTrip_ok v24.1 v16.1 v26 h27) (And.intro h28 (And.intro h29 (And.intro (And.intro (con_sw 1001 13 (con_sw 1000 12 (laws_toNetwork_ok a0 v30 h31))) (rfl : ([] : List Nat) = [])) (And.intro (laws_eqNetwork_ok v18 v30 v32 h33) (And.intro (rfl : (laws_FnExactNextFree_x1 a1 a2 v20 v22 v32) = (laws_FnExactNextFree_x1 a1 a2 v20 v22 v32)) (And.intro (And.intro (con_sw 1001 13 (con_sw 1000 12 (laws_toNetwork_ok a0 v30 h31))) (rfl : ([] : List Nat) = [])) (And.intro (laws_eqNetwork_ok v18 v30 v32 h33) (And.intro (rfl : (laws_FnExactNextFree_x1 a1 a2 v20 v22 v32) = (laws_FnExactNextFree_x1 a1 a2 v20 v22 v32)) (And.intro (And.intro (con_sw 1001 13 (con_sw 1000 12 (laws_toNetwork_ok a0 v30 h31))) (rfl : ([] : List Nat) = [])) (And.intro (laws_eqNetwork_ok v18 v30 v32 h33) (And.intro (rfl : (laws_FnExactNextFree_x1 a1 a2 v20 v22 v32) = (laws_FnExactNextFree_x1 a1 a2 v20 v22 v32)) (And.intro h34 (And.intro (And.intro (con_sw 1000 14 (laws_toBookingS_ok a1 v35 h36)) (rfl : ([] : List Nat) = [])) (And.intro (laws_eqBookingS_ok v20 v35 v37 h38) (And.intro h39 (And.intro (And.intro (con_sw 1000 15 (laws_toTripS_ok a2 v40 h41)) (rfl : ([] : List Nat) = [])) (And.intro (laws_eqTripS_ok v22 v40 v42 h43) (And.intro h44 True.intro))))))))))))))))))))))))))))))))) (by kernel_rfl)
                · have hE : some true = some r := hM
                  have hE := Option.some.inj hE
                  subst hE
                  exact pr R 9999 [.new 0, .call false [] (.o (.c (.v (.int .i64 v1)))) [] [], .as 25 false, .call false [] (.o (.c (.v (.int .i64 v4)))) [] [], .as 30 false, .call false [] (.o (.c (.v (.int .i64 v7)))) [] [], .as 35 false, .call false [] (.o (.agg [.sl 1, .sl 2, .v (.int .i64 v10.Change)])) [] [(1, .row 89 6 (v10.Legs.map Leg.enc)), (2, .row 3 1 (v10.Off.map encI))], .call false [] (.o (.c (.sl 3))) [] [(3, .row 74 4 (v12.map Booking.enc))], .call false [] (.o (.c (.sl 4))) [] [(4, .row 31 2 (v14.map Trip.enc))], .call false [] (.tup [.c (.v (.agg (Trip.enc v16.1).toArray)), .c (.v (.bool v16.2))]) [] [], .new 5, .call false [] (.o (.agg [.sl 6, .sl 7, .v (.int .i64 v18.Change)])) [] [(6, .row 89 6 (v18.Legs.map Leg.enc)), (7, .row 3 1 (v18.Off.map encI))], .new 8, .call false [] (.o (.c (.sl 9))) [] [(9, .row 74 4 (v20.map Booking.enc))], .call false [] (.o (.c (.sl 10))) [] [(10, .row 31 2 (v22.map Trip.enc))], .call false [] (.tup [.c (.v (.agg (Trip.enc v24.1).toArray)), .c (.v (.bool v24.2))]) [] [], .new 11, .call false [] (.o (.c (.v (.bool v26)))) [] [], .as 69 false, .as 73 false, .xo [[], [], [.call false [] (.o (.agg [.sl 12, .sl 13, .v (.int .i64 v30.Change)])) [] [(12, .row 89 6 (v30.Legs.map Leg.enc)), (13, .row 3 1 (v30.Off.map encI))]], [.call false [] (.o (.c (.v (.bool v32)))) [] []], []] [.keep [1, 2, 17, 18, 78] [9, 10]] (laws_FnExactNextFree_x1 a1 a2 v20 v22 v32), .as 78 false, .call false [] (.o (.c (.sl 14))) [] [(14, .row 74 4 (v35.map Booking.enc))], .call false [] (.o (.c (.v (.bool v37)))) [] [], .as 83 false, .call false [] (.o (.c (.sl 15))) [] [(15, .row 31 2 (v40.map Trip.enc))], .call false [] (.o (.c (.v (.bool v42)))) [] [], .as 88 false] [] [] [] (And.intro (laws_szNetwork_ok a0 1048576 v1 h2) (And.intro h3 (And.intro (laws_szBookingS_ok a1 v1 v4 h5) (And.intro h6 (And.intro (laws_szTripS_ok a2 v4 v7 h8) (And.intro h9 (And.intro (And.intro (con_sw 1001 2 (con_sw 1000 1 (laws_toNetwork_ok a0 v10 h11))) (rfl : ([] : List Nat) = [])) (And.intro (And.intro (con_sw 1000 3 (laws_toBookingS_ok a1 v12 h13)) (rfl : ([] : List Nat) = [])) (And.intro (And.intro (con_sw 1000 4 (laws_toTripS_ok a2 v14 h15)) (rfl : ([] : List Nat) = [])) (And.intro (spec_NextFree_ok v10 v12 v14 a3 a4 a5 v16 h17) (And.intro (And.intro (con_sw 1001 7 (con_sw 1000 6 (laws_toNetwork_ok a0 v18 h19))) (rfl : ([] : List Nat) = [])) (And.intro (And.intro (con_sw 1000 9 (laws_toBookingS_ok a1 v20 h21)) (rfl : ([] : List Nat) = [])) (And.intro (And.intro (con_sw 1000 10 (laws_toTripS_ok a2 v22 h23)) (rfl : ([] : List Nat) = [])) (And.intro (impl_NextFree_ok v18 v20 v22 a3 a4 a5 v24 h25) (And.intro (laws_eqTrip_ok v24.1 v16.1 v26 h27) (And.intro h28 (And.intro h29 (And.intro (And.intro (con_sw 1001 13 (con_sw 1000 12 (laws_toNetwork_ok a0 v30 h31))) (rfl : ([] : List Nat) = [])) (And.intro (laws_eqNetwork_ok v18 v30 v32 h33) (And.intro (rfl : (laws_FnExactNextFree_x1 a1 a2 v20 v22 v32) = (laws_FnExactNextFree_x1 a1 a2 v20 v22 v32)) (And.intro (And.intro (con_sw 1001 13 (con_sw 1000 12 (laws_toNetwork_ok a0 v30 h31))) (rfl : ([] : List Nat) = [])) (And.intro (laws_eqNetwork_ok v18 v30 v32 h33) (And.intro (rfl : (laws_FnExactNextFree_x1 a1 a2 v20 v22 v32) = (laws_FnExactNextFree_x1 a1 a2 v20 v22 v32)) (And.intro (And.intro (con_sw 1001 13 (con_sw 1000 12 (laws_toNetwork_ok a0 v30 h31))) (rfl : ([] : List Nat) = [])) (And.intro (laws_eqNetwork_ok v18 v30 v32 h33) (And.intro (rfl : (laws_FnExactNextFree_x1 a1 a2 v20 v22 v32) = (laws_FnExactNextFree_x1 a1 a2 v20 v22 v32)) (And.intro h34 (And.intro (And.intro (con_sw 1000 14 (laws_toBookingS_ok a1 v35 h36)) (rfl : ([] : List Nat) = [])) (And.intro (laws_eqBookingS_ok v20 v35 v37 h38) (And.intro h39 (And.intro (And.intro (con_sw 1000 15 (laws_toTripS_ok a2 v40 h41)) (rfl : ([] : List Nat) = [])) (And.intro (laws_eqTripS_ok v22 v40 v42 h43) (And.intro h44 True.intro))))))))))))))))))))))))))))))))) (by kernel_rfl)

-- loop.example/g03014/spec.DropFrom
def spec_DropFrom_L1_b (a0 : Network) (a1 : (List Booking)) (a2 : Int) (a3 : Int) (v1 : Bool) (s3 : (List Booking)) (s4 : Int) : Option (Ctl ((List Booking) × Int) (List Booking) (List Booking)) :=
  bif (decide (s4 < (a1.length : Int))) then
  bif (!v1) then
  (gi a1 s4).bind fun v8 =>
  (ap 32 s3 ([v8] : List Booking)).bind fun v10 =>
  some (.next (v10, w64 (s4 + 1)))
  else
  (gi a1 s4).bind fun v12 =>
  bif (v12.Thing != a2) then
  (gi a1 s4).bind fun v15 =>
  (ap 32 s3 ([v15] : List Booking)).bind fun v17 =>
  some (.next (v17, w64 (s4 + 1)))
  else
  (gi a1 s4).bind fun v19 =>
  (spec_l3Starts a0 v19.Trip).bind fun v21 =>
  bif (decide (v21 < a3)) then
  (gi a1 s4).bind fun v24 =>
  (ap 32 s3 ([v24] : List Booking)).bind fun v26 =>
  some (.next (v26, w64 (s4 + 1)))
  else
  some (.next (s3, w64 (s4 + 1)))
  else
  some (.brk s3)
def spec_DropFrom_L1 (a0 : Network) (a1 : (List Booking)) (a2 : Int) (a3 : Int) (v1 : Bool) (s : (List Booking) × Int) : Option (Ctl ((List Booking) × Int) (List Booking) (List Booking)) := spec_DropFrom_L1_b a0 a1 a2 a3 v1 s.1 s.2
def spec_DropFrom_L1_s (a0 : Network) (a1 : (List Booking)) (a2 : Int) (a3 : Int) (v1 : Bool) (s3 : (List Booking)) (s4 : Int) : St := ⟨[(1, .o (.c (.rs 4 (a1.map Booking.enc)))), (2, .o (.c (.v (.int .i64 a2)))), (3, .o (.c (.v (.int .i64 a3)))), (4, .o (.c (.ptr 0 0))), (9, .o (.c (.sl 1))), (10, .o (.c (.v (.bool v1)))), (11, .o (.c (.v (.int .i64 s4))))], [(0, .box 54 [.rs 6 (a0.Legs.map Leg.enc), .rs 1 (a0.Off.map encI), .v (.int .i64 a0.Change)]), (1, .row 74 4 (s3.map Booking.enc))]⟩
def spec_DropFrom_L1_S (a0 : Network) (a1 : (List Booking)) (a2 : Int) (a3 : Int) (v1 : Bool) (s : (List Booking) × Int) : St := spec_DropFrom_L1_s a0 a1 a2 a3 v1 s.1 s.2
def spec_DropFrom_L1_a (s5 : (List Booking)) : Option (List Booking) :=
  some s5
def spec_DropFrom_L1_k (x : ((List Booking)) ⊕ ((List Booking))) : Option (List Booking) := match x with
  | .inl t => spec_DropFrom_L1_a t
  | .inr y => some y
def spec_DropFrom (a0 : Network) (a1 : (List Booking)) (a2 : Int) (a3 : Int) : Option (List Booking) :=
  (spec_AreBookings a0 a1).bind fun v1 =>
  (loopM (spec_DropFrom_L1 a0 a1 a2 a3 v1) big (([] : List Booking), 0)).bind (spec_DropFrom_L1_k)
theorem spec_DropFrom_ok (a0 : Network) (a1 : (List Booking)) (a2 : Int) (a3 : Int) (r : (List Booking)) (hM : spec_DropFrom a0 a1 a2 a3 = some r) :
    Con Try.prog 54 [.agg [.rs 6 (a0.Legs.map Leg.enc), .rs 1 (a0.Off.map encI), .v (.int .i64 a0.Change)], .c (.rs 4 (a1.map Booking.enc)), .c (.v (.int .i64 a2)), .c (.v (.int .i64 a3))] [] (.o (.c (.sl 1000))) [] [(1000, .row 74 4 (r.map Booking.enc))] := by
  unfold spec_DropFrom at hM
  refine cn (N := 52) (pids := []) Try_mixed Try.func54 (by kernel_rfl) (by kernel_rfl) (by kernel_rfl) rfl fun ρ g w R => ?_
  obtain ⟨v1, h2, hM⟩ := bind_some hM
  have K1 : ∀ (s5 : (List Booking)), spec_DropFrom_L1_a s5 = some r → Gr R [.code (cAt Try.f54 [1, 1, 1, 1])] (⟨[(9, .o (.c (.sl 1)))], [(1, .row 74 4 (s5.map Booking.enc))]⟩) := by
    intro s5 hM
    unfold spec_DropFrom_L1_a at hM
    have hE : some s5 = some r := hM
    have hE := Option.some.inj hE
    subst hE
    exact pr R 9999 [] [.sw 1 1000] [] [1000] True.intro (by kernel_rfl)
  refine pc R 9999 [.new 0, .new 1, .call false [] (.o (.c (.v (.bool v1)))) [] []] [.keep [1, 2, 3, 4, 9, 10, 11] [0, 1]] (k' := [.code (.loop (cAt Try.f54 [1, 1, 1, 0, 1, 0, 0])), .blk 0, .code (cAt Try.f54 [1, 1, 1, 1])]) (S' := spec_DropFrom_L1_S a0 a1 a2 a3 v1 (([] : List Booking), 0)) (And.intro (spec_AreBookings_ok a0 a1 v1 h2) True.intro) (by kernel_rfl) ?_
  refine lq (spec_DropFrom_L1_S a0 a1 a2 a3 v1) (body := spec_DropFrom_L1 a0 a1 a2 a3 v1) (k := spec_DropFrom_L1_k) hM fun m1 s c1 hM hK1 => ?_
  obtain ⟨s3, s4⟩ := s
  have hM : spec_DropFrom_L1_b a0 a1 a2 a3 v1 s3 s4 = some c1 := hM
  unfold spec_DropFrom_L1_b at hM
  rcases cond_cases hM with ⟨h6, hM⟩ | ⟨h6, hM⟩
  · rcases cond_cases hM with ⟨h7, hM⟩ | ⟨h7, hM⟩
    · obtain ⟨v8, h9, hM⟩ := bind_some hM
      obtain ⟨v10, h11, hM⟩ := bind_some hM
      have hE : some (Ctl.next (v10, w64 (s4 + 1))) = some c1 := hM
      have hE := Option.some.inj hE
      subst hE
      exact pc R 9999 [.ln (a1.length), .as 19 true, .as 24 true, .ix (Booking.enc v8), .new 2, .new 3, .nm (v10.map Booking.enc)] [.sw 3 1, .keep [1, 2, 3, 4, 9, 10, 11] [0, 1]] (And.intro (lenm Booking.enc a1) (And.intro h6 (And.intro h7 (And.intro (gi_map Booking.enc h9) (And.intro (ap_ok Booking.enc h11) True.intro))))) (by kernel_rfl) (li (Sf := spec_DropFrom_L1_S a0 a1 a2 a3 v1) (M := Mk (spec_DropFrom_L1 a0 a1 a2 a3 v1) (spec_DropFrom_L1_k) r) (k := [.blk 0, .code (cAt Try.f54 [1, 1, 1, 1])]) (Nat.lt_succ_self m1) hK1)
    · obtain ⟨v12, h13, hM⟩ := bind_some hM
      rcases cond_cases hM with ⟨h14, hM⟩ | ⟨h14, hM⟩
      · obtain ⟨v15, h16, hM⟩ := bind_some hM
        obtain ⟨v17, h18, hM⟩ := bind_some hM
        have hE : some (Ctl.next (v17, w64 (s4 + 1))) = some c1 := hM
        have hE := Option.some.inj hE
        subst hE
        exact pc R 9999 [.ln (a1.length), .as 19 true, .as 24 false, .ix (Booking.enc v12), .as 33 true, .ix (Booking.enc v15), .new 4, .new 5, .nm (v17.map Booking.enc)] [.sw 5 1, .keep [1, 2, 3, 4, 9, 10, 11] [0, 1]] (And.intro (lenm Booking.enc a1) (And.intro h6 (And.intro h7 (And.intro (gi_map Booking.enc h13) (And.intro h14 (And.intro (gi_map Booking.enc h16) (And.intro (ap_ok Booking.enc h18) True.intro))))))) (by kernel_rfl) (li (Sf := spec_DropFrom_L1_S a0 a1 a2 a3 v1) (M := Mk (spec_DropFrom_L1 a0 a1 a2 a3 v1) (spec_DropFrom_L1_k) r) (k := [.blk 0, .code (cAt Try.f54 [1, 1, 1, 1])]) (Nat.lt_succ_self m1) hK1)
      · obtain ⟨v19, h20, hM⟩ := bind_some hM
        obtain ⟨v21, h22, hM⟩ := bind_some hM
        rcases cond_cases hM with ⟨h23, hM⟩ | ⟨h23, hM⟩
        · obtain ⟨v24, h25, hM⟩ := bind_some hM
          obtain ⟨v26, h27, hM⟩ := bind_some hM
          have hE : some (Ctl.next (v26, w64 (s4 + 1))) = some c1 := hM
          have hE := Option.some.inj hE
          subst hE
          exact pc R 9999 [.ln (a1.length), .as 19 true, .as 24 false, .ix (Booking.enc v12), .as 33 false, .ix (Booking.enc v19), .call false [] (.o (.c (.v (.int .i64 v21)))) [] [], .as 43 true, .ix (Booking.enc v24), .new 6, .new 7, .nm (v26.map Booking.enc)] [.sw 7 1, .keep [1, 2, 3, 4, 9, 10, 11] [0, 1]] (And.intro (lenm Booking.enc a1) (And.intro h6 (And.intro h7 (And.intro (gi_map Booking.enc h13) (And.intro h14 (And.intro (gi_map Booking.enc h20) (And.intro (spec_l3Starts_ok a0 v19.Trip v21 h22) (And.intro h23 (And.intro (gi_map Booking.enc h25) (And.intro (ap_ok Booking.enc h27) True.intro)))))))))) (by kernel_rfl) (li (Sf := spec_DropFrom_L1_S a0 a1 a2 a3 v1) (M := Mk (spec_DropFrom_L1 a0 a1 a2 a3 v1) (spec_DropFrom_L1_k) r) (k := [.blk 0, .code (cAt Try.f54 [1, 1, 1, 1])]) (Nat.lt_succ_self m1) hK1)
        · have hE : some (Ctl.next (s3, w64 (s4 + 1))) = some c1 := hM
          have hE := Option.some.inj hE
          subst hE
          exact pc R 9999 [.ln (a1.length), .as 19 true, .as 24 false, .ix (Booking.enc v12), .as 33 false, .ix (Booking.enc v19), .call false [] (.o (.c (.v (.int .i64 v21)))) [] [], .as 43 false] [.keep [1, 2, 3, 4, 9, 10, 11] [0, 1]] (And.intro (lenm Booking.enc a1) (And.intro h6 (And.intro h7 (And.intro (gi_map Booking.enc h13) (And.intro h14 (And.intro (gi_map Booking.enc h20) (And.intro (spec_l3Starts_ok a0 v19.Trip v21 h22) (And.intro h23 True.intro)))))))) (by kernel_rfl) (li (Sf := spec_DropFrom_L1_S a0 a1 a2 a3 v1) (M := Mk (spec_DropFrom_L1 a0 a1 a2 a3 v1) (spec_DropFrom_L1_k) r) (k := [.blk 0, .code (cAt Try.f54 [1, 1, 1, 1])]) (Nat.lt_succ_self m1) hK1)
  · have hE : some (Ctl.brk s3) = some c1 := hM
    have hE := Option.some.inj hE
    subst hE
    exact pc R 5 [.ln (a1.length), .as 19 false] [.keep [9] [1]] (And.intro (lenm Booking.enc a1) (And.intro h6 True.intro)) (by kernel_rfl) (K1 s3 hK1)

-- loop.example/g03014/impl.copyBookings
def impl_copyBookings (a0 : (List Booking)) : Option (List Booking) :=
  (ap 32 ([] : List Booking) a0).bind fun v1 =>
  some v1
theorem impl_copyBookings_ok (a0 : (List Booking)) (r : (List Booking)) (hM : impl_copyBookings a0 = some r) :
    Con Try.prog 80 [.c (.rs 4 (a0.map Booking.enc))] [] (.o (.c (.sl 1000))) [] [(1000, .row 74 4 (r.map Booking.enc))] := by
  unfold impl_copyBookings at hM
  refine cn (N := 6) (pids := []) Try_mixed Try.func80 (by kernel_rfl) (by kernel_rfl) (by kernel_rfl) rfl fun ρ g w R => ?_
  obtain ⟨v1, h2, hM⟩ := bind_some hM
  have hE : some v1 = some r := hM
  have hE := Option.some.inj hE
  subst hE
  exact pr R 9999 [.new 0, .new 1, .nm (v1.map Booking.enc)] [.sw 1 1000] [] [1000] (And.intro (ap_ok Booking.enc h2) True.intro) (by kernel_rfl)

-- loop.example/g03014/impl.DropFrom
def impl_DropFrom_L1_b (a0 : Network) (a1 : (List Booking)) (a2 : Int) (a3 : Int) (s6 : (List Booking)) (s7 : Int) : Option (Ctl ((List Booking) × Int) (List Booking) (List Booking)) :=
  bif (decide (s7 < (a1.length : Int))) then
  (gi a1 s7).bind fun v10 =>
  bif (v10.Thing != a2) then
  (ap 32 s6 ([v10] : List Booking)).bind fun v13 =>
  some (.next (v13, w64 (s7 + 1)))
  else
  (impl_starts a0 v10.Trip).bind fun v15 =>
  bif (decide (v15 < a3)) then
  (ap 32 s6 ([v10] : List Booking)).bind fun v18 =>
  some (.next (v18, w64 (s7 + 1)))
  else
  some (.next (s6, w64 (s7 + 1)))
  else
  some (.brk s6)
def impl_DropFrom_L1 (a0 : Network) (a1 : (List Booking)) (a2 : Int) (a3 : Int) (s : (List Booking) × Int) : Option (Ctl ((List Booking) × Int) (List Booking) (List Booking)) := impl_DropFrom_L1_b a0 a1 a2 a3 s.1 s.2
def impl_DropFrom_L1_s (a0 : Network) (a1 : (List Booking)) (a2 : Int) (a3 : Int) (s6 : (List Booking)) (s7 : Int) : St := ⟨[(2, .o (.c (.v (.int .i64 a2)))), (3, .o (.c (.v (.int .i64 a3)))), (4, .o (.c (.ptr 0 0))), (9, .o (.c (.sl 2))), (19, .o (.c (.rs 4 (a1.map Booking.enc)))), (20, .o (.c (.v (.int .i64 (a1.length : Int))))), (21, .o (.c (.v (.int .i64 s7))))], [(0, .box 54 [.rs 6 (a0.Legs.map Leg.enc), .rs 1 (a0.Off.map encI), .v (.int .i64 a0.Change)]), (2, .row 74 4 (s6.map Booking.enc))]⟩
def impl_DropFrom_L1_S (a0 : Network) (a1 : (List Booking)) (a2 : Int) (a3 : Int) (s : (List Booking) × Int) : St := impl_DropFrom_L1_s a0 a1 a2 a3 s.1 s.2
def impl_DropFrom_L1_a (s8 : (List Booking)) : Option (List Booking) :=
  some s8
def impl_DropFrom_L1_k (x : ((List Booking)) ⊕ ((List Booking))) : Option (List Booking) := match x with
  | .inl t => impl_DropFrom_L1_a t
  | .inr y => some y
def impl_DropFrom (a0 : Network) (a1 : (List Booking)) (a2 : Int) (a3 : Int) : Option (List Booking) :=
  (impl_AreBookings a0 a1).bind fun v1 =>
  bif (!v1) then
  (impl_copyBookings a1).bind fun v4 =>
  some v4
  else
  (loopM (impl_DropFrom_L1 a0 a1 a2 a3) big (([] : List Booking), 0)).bind (impl_DropFrom_L1_k)
theorem impl_DropFrom_ok (a0 : Network) (a1 : (List Booking)) (a2 : Int) (a3 : Int) (r : (List Booking)) (hM : impl_DropFrom a0 a1 a2 a3 = some r) :
    Con Try.prog 55 [.agg [.rs 6 (a0.Legs.map Leg.enc), .rs 1 (a0.Off.map encI), .v (.int .i64 a0.Change)], .c (.rs 4 (a1.map Booking.enc)), .c (.v (.int .i64 a2)), .c (.v (.int .i64 a3))] [] (.o (.c (.sl 1000))) [] [(1000, .row 74 4 (r.map Booking.enc))] := by
  unfold impl_DropFrom at hM
  refine cn (N := 43) (pids := []) Try_mixed Try.func55 (by kernel_rfl) (by kernel_rfl) (by kernel_rfl) rfl fun ρ g w R => ?_
  obtain ⟨v1, h2, hM⟩ := bind_some hM
  rcases cond_cases hM with ⟨h3, hM⟩ | ⟨h3, hM⟩
  · obtain ⟨v4, h5, hM⟩ := bind_some hM
    have hE : some v4 = some r := hM
    have hE := Option.some.inj hE
    subst hE
    exact pr R 9999 [.new 0, .call false [] (.o (.c (.v (.bool v1)))) [] [], .as 15 true, .call false [] (.o (.c (.sl 1))) [] [(1, .row 74 4 (v4.map Booking.enc))]] [.sw 1 1000] [] [1000] (And.intro (impl_AreBookings_ok a0 a1 v1 h2) (And.intro h3 (And.intro (And.intro (con_sw 1000 1 (impl_copyBookings_ok a1 v4 h5)) (rfl : ([] : List Nat) = [])) True.intro))) (by kernel_rfl)
  · have K1 : ∀ (s8 : (List Booking)), impl_DropFrom_L1_a s8 = some r → Gr R [.code (cAt Try.f55 [1, 1, 1, 1])] (⟨[(9, .o (.c (.sl 2)))], [(2, .row 74 4 (s8.map Booking.enc))]⟩) := by
      intro s8 hM
      unfold impl_DropFrom_L1_a at hM
      have hE : some s8 = some r := hM
      have hE := Option.some.inj hE
      subst hE
      exact pr R 9999 [] [.sw 2 1000] [] [1000] True.intro (by kernel_rfl)
    refine pc R 9999 [.new 0, .call false [] (.o (.c (.v (.bool v1)))) [] [], .as 15 false, .new 2, .ln (a1.length)] [.keep [2, 3, 4, 9, 19, 20, 21] [0, 2]] (k' := [.code (.loop (cAt Try.f55 [1, 1, 1, 0, 1, 0, 0])), .blk 0, .code (cAt Try.f55 [1, 1, 1, 1])]) (S' := impl_DropFrom_L1_S a0 a1 a2 a3 (([] : List Booking), 0)) (And.intro (impl_AreBookings_ok a0 a1 v1 h2) (And.intro h3 (And.intro (lenm Booking.enc a1) True.intro))) (by kernel_rfl) ?_
    refine lq (impl_DropFrom_L1_S a0 a1 a2 a3) (body := impl_DropFrom_L1 a0 a1 a2 a3) (k := impl_DropFrom_L1_k) hM fun m1 s c1 hM hK1 => ?_
    obtain ⟨s6, s7⟩ := s
    have hM : impl_DropFrom_L1_b a0 a1 a2 a3 s6 s7 = some c1 := hM
    unfold impl_DropFrom_L1_b at hM
    rcases cond_cases hM with ⟨h9, hM⟩ | ⟨h9, hM⟩
    · obtain ⟨v10, h11, hM⟩ := bind_some hM
      rcases cond_cases hM with ⟨h12, hM⟩ | ⟨h12, hM⟩
      · obtain ⟨v13, h14, hM⟩ := bind_some hM
        have hE : some (Ctl.next (v13, w64 (s7 + 1))) = some c1 := hM
        have hE := Option.some.inj hE
        subst hE
        exact pc R 9999 [.as 22 true, .ix (Booking.enc v10), .new 3, .as 29 true, .new 4, .new 5, .nm (v13.map Booking.enc)] [.sw 5 2, .keep [2, 3, 4, 9, 19, 20, 21] [0, 2]] (And.intro h9 (And.intro (gi_map Booking.enc h11) (And.intro h12 (And.intro (ap_ok Booking.enc h14) True.intro)))) (by kernel_rfl) (li (Sf := impl_DropFrom_L1_S a0 a1 a2 a3) (M := Mk (impl_DropFrom_L1 a0 a1 a2 a3) (impl_DropFrom_L1_k) r) (k := [.blk 0, .code (cAt Try.f55 [1, 1, 1, 1])]) (Nat.lt_succ_self m1) hK1)
      · obtain ⟨v15, h16, hM⟩ := bind_some hM
        rcases cond_cases hM with ⟨h17, hM⟩ | ⟨h17, hM⟩
        · obtain ⟨v18, h19, hM⟩ := bind_some hM
          have hE : some (Ctl.next (v18, w64 (s7 + 1))) = some c1 := hM
          have hE := Option.some.inj hE
          subst hE
          exact pc R 9999 [.as 22 true, .ix (Booking.enc v10), .new 3, .as 29 false, .call false [] (.o (.c (.v (.int .i64 v15)))) [] [], .as 36 true, .new 6, .new 7, .nm (v18.map Booking.enc)] [.sw 7 2, .keep [2, 3, 4, 9, 19, 20, 21] [0, 2]] (And.intro h9 (And.intro (gi_map Booking.enc h11) (And.intro h12 (And.intro (impl_starts_ok a0 v10.Trip v15 h16) (And.intro h17 (And.intro (ap_ok Booking.enc h19) True.intro)))))) (by kernel_rfl) (li (Sf := impl_DropFrom_L1_S a0 a1 a2 a3) (M := Mk (impl_DropFrom_L1 a0 a1 a2 a3) (impl_DropFrom_L1_k) r) (k := [.blk 0, .code (cAt Try.f55 [1, 1, 1, 1])]) (Nat.lt_succ_self m1) hK1)
        · have hE : some (Ctl.next (s6, w64 (s7 + 1))) = some c1 := hM
          have hE := Option.some.inj hE
          subst hE
          exact pc R 9999 [.as 22 true, .ix (Booking.enc v10), .new 3, .as 29 false, .call false [] (.o (.c (.v (.int .i64 v15)))) [] [], .as 36 false] [.keep [2, 3, 4, 9, 19, 20, 21] [0, 2]] (And.intro h9 (And.intro (gi_map Booking.enc h11) (And.intro h12 (And.intro (impl_starts_ok a0 v10.Trip v15 h16) (And.intro h17 True.intro))))) (by kernel_rfl) (li (Sf := impl_DropFrom_L1_S a0 a1 a2 a3) (M := Mk (impl_DropFrom_L1 a0 a1 a2 a3) (impl_DropFrom_L1_k) r) (k := [.blk 0, .code (cAt Try.f55 [1, 1, 1, 1])]) (Nat.lt_succ_self m1) hK1)
    · have hE : some (Ctl.brk s6) = some c1 := hM
      have hE := Option.some.inj hE
      subst hE
      exact pc R 5 [.as 22 false] [.keep [9] [2]] (And.intro h9 True.intro) (by kernel_rfl) (K1 s6 hK1)

-- loop.example/g03014/laws.markText
def laws_markText_L1_b (s2 : Int) (s3 : ByteArray) : Option (Ctl (Int × ByteArray) ByteArray ByteArray) :=
  bif (decide (s2 > 0)) then
  (catM (strOfNums ([IntKind.u8.wrap (w64 (48 + (Int.tmod s2 10)))] : List Int)) s3).bind fun v8 =>
  some (.next (w64 (Int.tdiv s2 10), v8))
  else
  some (.brk s3)
def laws_markText_L1 (s : Int × ByteArray) : Option (Ctl (Int × ByteArray) ByteArray ByteArray) := laws_markText_L1_b s.1 s.2
def laws_markText_L1_s (s2 : Int) (s3 : ByteArray) : St := ⟨[(0, .o (.c (.v (.int .i64 s2)))), (3, .o (.c (.v (.string s3))))], []⟩
def laws_markText_L1_S (s : Int × ByteArray) : St := laws_markText_L1_s s.1 s.2
def laws_markText_L1_a (s4 : ByteArray) : Option ByteArray :=
  (catM (ByteArray.mk #[109]) s4).bind fun v5 =>
  some v5
def laws_markText_L1_k (x : (ByteArray) ⊕ (ByteArray)) : Option ByteArray := match x with
  | .inl t => laws_markText_L1_a t
  | .inr y => some y
def laws_markText (a0 : Int) : Option ByteArray :=
  bif (decide (a0 ≤ 0)) then
  some (ByteArray.mk #[109, 48])
  else
  (loopM (laws_markText_L1) big (a0, (ByteArray.mk #[]))).bind (laws_markText_L1_k)
theorem laws_markText_ok (a0 : Int) (r : ByteArray) (hM : laws_markText a0 = some r) :
    Con Try.prog 96 [.c (.v (.int .i64 a0))] [] (.o (.c (.v (.string r)))) [] [] := by
  unfold laws_markText at hM
  refine cn (N := 20) (pids := []) Try_mixed Try.func96 (by kernel_rfl) (by kernel_rfl) (by kernel_rfl) rfl fun ρ g w R => ?_
  rcases cond_cases hM with ⟨h1, hM⟩ | ⟨h1, hM⟩
  · have hE : some (ByteArray.mk #[109, 48]) = some r := hM
    have hE := Option.some.inj hE
    subst hE
    exact pr R 9999 [.as 5 true] [] [] [] (And.intro h1 True.intro) (by kernel_rfl)
  · have K1 : ∀ (s4 : ByteArray), laws_markText_L1_a s4 = some r → Gr R [.code (cAt Try.f96 [1, 1, 1, 1])] (⟨[(3, .o (.c (.v (.string s4))))], []⟩) := by
      intro s4 hM
      unfold laws_markText_L1_a at hM
      obtain ⟨v5, h6, hM⟩ := bind_some hM
      have hE : some v5 = some r := hM
      have hE := Option.some.inj hE
      subst hE
      exact pr R 9999 [.run 19 (.string v5)] [] [] [] (And.intro (catM_run (P := Try.prog) (t := 9) (x := .tmp 0) (y := .tmp 0) h6) True.intro) (by kernel_rfl)
    refine pc R 9999 [.as 5 false] [.keep [0, 3] []] (k' := [.code (.loop (cAt Try.f96 [1, 1, 1, 0, 0, 0])), .blk 0, .code (cAt Try.f96 [1, 1, 1, 1])]) (S' := laws_markText_L1_S (a0, (ByteArray.mk #[]))) (And.intro h1 True.intro) (by kernel_rfl) ?_
    refine lq (laws_markText_L1_S) (body := laws_markText_L1) (k := laws_markText_L1_k) hM fun m1 s c1 hM hK1 => ?_
    obtain ⟨s2, s3⟩ := s
    have hM : laws_markText_L1_b s2 s3 = some c1 := hM
    unfold laws_markText_L1_b at hM
    rcases cond_cases hM with ⟨h7, hM⟩ | ⟨h7, hM⟩
    · obtain ⟨v8, h9, hM⟩ := bind_some hM
      have hE : some (Ctl.next (w64 (Int.tdiv s2 10), v8)) = some c1 := hM
      have hE := Option.some.inj hE
      subst hE
      exact pc R 9999 [.as 7 true, .new 0, .ix [.string (strOfNums ([IntKind.u8.wrap (w64 (48 + (Int.tmod s2 10)))] : List Int))], .run 15 (.string v8)] [.keep [0, 3] []] (And.intro h7 (And.intro (conv_ok ([IntKind.u8.wrap (w64 (48 + (Int.tmod s2 10)))] : List Int)) (And.intro (catM_run (P := Try.prog) (t := 9) (x := .tmp 0) (y := .tmp 0) h9) True.intro))) (by kernel_rfl) (li (Sf := laws_markText_L1_S) (M := Mk (laws_markText_L1) (laws_markText_L1_k) r) (k := [.blk 0, .code (cAt Try.f96 [1, 1, 1, 1])]) (Nat.lt_succ_self m1) hK1)
    · have hE : some (Ctl.brk s3) = some c1 := hM
      have hE := Option.some.inj hE
      subst hE
      exact pc R 5 [.as 7 false] [.keep [3] []] (And.intro h7 True.intro) (by kernel_rfl) (K1 s3 hK1)

-- loop.example/g03014/laws.markLegS
def laws_markLegS_L1_b (s1 : (List Leg)) (s2 : Int) (s3 : Int) : Option (Ctl ((List Leg) × Int × Int) ((List Leg) × Int) (Int × (List Leg))) :=
  bif (decide (s3 < (s1.length : Int))) then
  (laws_markText s2).bind fun v7 =>
  (gi s1 s3).bind fun v9 =>
  (laws_markText (w64 (s2 + 1))).bind fun v11 =>
  (gi (List.set s1 (Int.toNat s3) (Leg.mk v7 v9.To v9.Start v9.Takes v9.Days v9.Room)) s3).bind fun v13 =>
  (gi (List.set (List.set s1 (Int.toNat s3) (Leg.mk v7 v9.To v9.Start v9.Takes v9.Days v9.Room)) (Int.toNat s3) (Leg.mk v13.From v11 v13.Start v13.Takes v13.Days v13.Room)) s3).bind fun v15 =>
  (gi (List.set (List.set (List.set s1 (Int.toNat s3) (Leg.mk v7 v9.To v9.Start v9.Takes v9.Days v9.Room)) (Int.toNat s3) (Leg.mk v13.From v11 v13.Start v13.Takes v13.Days v13.Room)) (Int.toNat s3) (Leg.mk v15.From v15.To (w64 ((w64 (s2 + 1)) + 1)) v15.Takes v15.Days v15.Room)) s3).bind fun v17 =>
  (gi (List.set (List.set (List.set (List.set s1 (Int.toNat s3) (Leg.mk v7 v9.To v9.Start v9.Takes v9.Days v9.Room)) (Int.toNat s3) (Leg.mk v13.From v11 v13.Start v13.Takes v13.Days v13.Room)) (Int.toNat s3) (Leg.mk v15.From v15.To (w64 ((w64 (s2 + 1)) + 1)) v15.Takes v15.Days v15.Room)) (Int.toNat s3) (Leg.mk v17.From v17.To v17.Start (w64 ((w64 ((w64 (s2 + 1)) + 1)) + 1)) v17.Days v17.Room)) s3).bind fun v19 =>
  (gi (List.set (List.set (List.set (List.set (List.set s1 (Int.toNat s3) (Leg.mk v7 v9.To v9.Start v9.Takes v9.Days v9.Room)) (Int.toNat s3) (Leg.mk v13.From v11 v13.Start v13.Takes v13.Days v13.Room)) (Int.toNat s3) (Leg.mk v15.From v15.To (w64 ((w64 (s2 + 1)) + 1)) v15.Takes v15.Days v15.Room)) (Int.toNat s3) (Leg.mk v17.From v17.To v17.Start (w64 ((w64 ((w64 (s2 + 1)) + 1)) + 1)) v17.Days v17.Room)) (Int.toNat s3) (Leg.mk v19.From v19.To v19.Start v19.Takes (w64 ((w64 ((w64 ((w64 (s2 + 1)) + 1)) + 1)) + 1)) v19.Room)) s3).bind fun v21 =>
  some (.next (List.set (List.set (List.set (List.set (List.set (List.set s1 (Int.toNat s3) (Leg.mk v7 v9.To v9.Start v9.Takes v9.Days v9.Room)) (Int.toNat s3) (Leg.mk v13.From v11 v13.Start v13.Takes v13.Days v13.Room)) (Int.toNat s3) (Leg.mk v15.From v15.To (w64 ((w64 (s2 + 1)) + 1)) v15.Takes v15.Days v15.Room)) (Int.toNat s3) (Leg.mk v17.From v17.To v17.Start (w64 ((w64 ((w64 (s2 + 1)) + 1)) + 1)) v17.Days v17.Room)) (Int.toNat s3) (Leg.mk v19.From v19.To v19.Start v19.Takes (w64 ((w64 ((w64 ((w64 (s2 + 1)) + 1)) + 1)) + 1)) v19.Room)) (Int.toNat s3) (Leg.mk v21.From v21.To v21.Start v21.Takes v21.Days (w64 ((w64 ((w64 ((w64 ((w64 (s2 + 1)) + 1)) + 1)) + 1)) + 1))), w64 ((w64 ((w64 ((w64 ((w64 ((w64 (s2 + 1)) + 1)) + 1)) + 1)) + 1)) + 1), w64 (s3 + 1)))
  else
  some (.brk (s1, s2))
def laws_markLegS_L1 (s : (List Leg) × Int × Int) : Option (Ctl ((List Leg) × Int × Int) ((List Leg) × Int) (Int × (List Leg))) := laws_markLegS_L1_b s.1 s.2.1 s.2.2
def laws_markLegS_L1_s (s1 : (List Leg)) (s2 : Int) (s3 : Int) : St := ⟨[(0, .o (.c (.sl 900))), (1, .o (.c (.v (.int .i64 s2)))), (5, .o (.c (.v (.int .i64 s3))))], [(900, .row 89 6 (s1.map Leg.enc))]⟩
def laws_markLegS_L1_S (s : (List Leg) × Int × Int) : St := laws_markLegS_L1_s s.1 s.2.1 s.2.2
def laws_markLegS_L1_a (s4 : (List Leg)) (s5 : Int) : Option (Int × (List Leg)) :=
  some (s5, s4)
def laws_markLegS_L1_k (x : ((List Leg) × Int) ⊕ (Int × (List Leg))) : Option (Int × (List Leg)) := match x with
  | .inl t => laws_markLegS_L1_a t.1 t.2
  | .inr y => some y
def laws_markLegS (a0 : (List Leg)) (a1 : Int) : Option (Int × (List Leg)) :=
  (loopM (laws_markLegS_L1) big (a0, a1, 0)).bind (laws_markLegS_L1_k)
theorem laws_markLegS_ok (a0 : (List Leg)) (a1 : Int) (r : Int × (List Leg)) (hM : laws_markLegS a0 a1 = some r) :
    Con Try.prog 81 [.c (.sl 900), .c (.v (.int .i64 a1))] [(900, .row 89 6 (a0.map Leg.enc))] (.o (.c (.v (.int .i64 r.1)))) [(900, .row 89 6 (r.2.map Leg.enc))] [] := by
  unfold laws_markLegS at hM
  refine cn (N := 57) (pids := [900]) Try_mixed Try.func81 (by kernel_rfl) (by kernel_rfl) (by kernel_rfl) rfl fun ρ g w R => ?_
  have K1 : ∀ (s4 : (List Leg)) (s5 : Int), laws_markLegS_L1_a s4 s5 = some r → Gr R [.code (cAt Try.f81 [1, 1])] (⟨[(0, .o (.c (.sl 900))), (1, .o (.c (.v (.int .i64 s5))))], [(900, .row 89 6 (s4.map Leg.enc))]⟩) := by
    intro s4 s5 hM
    unfold laws_markLegS_L1_a at hM
    have hE : some (s5, s4) = some r := hM
    have hE := Option.some.inj hE
    subst hE
    exact pr R 9999 [] [] [900] [] True.intro (by kernel_rfl)
  refine pc R 9999 [] [.keep [0, 1, 5] [900]] (k' := [.code (.loop (cAt Try.f81 [1, 0, 1, 0, 0])), .blk 0, .code (cAt Try.f81 [1, 1])]) (S' := laws_markLegS_L1_S (a0, a1, 0)) True.intro (by kernel_rfl) ?_
  refine lq (laws_markLegS_L1_S) (body := laws_markLegS_L1) (k := laws_markLegS_L1_k) hM fun m1 s c1 hM hK1 => ?_
  obtain ⟨s1, s2, s3⟩ := s
  have hM : laws_markLegS_L1_b s1 s2 s3 = some c1 := hM
  unfold laws_markLegS_L1_b at hM
  rcases cond_cases hM with ⟨h6, hM⟩ | ⟨h6, hM⟩
  · obtain ⟨v7, h8, hM⟩ := bind_some hM
    obtain ⟨v9, h10, hM⟩ := bind_some hM
    obtain ⟨v11, h12, hM⟩ := bind_some hM
    obtain ⟨v13, h14, hM⟩ := bind_some hM
    obtain ⟨v15, h16, hM⟩ := bind_some hM
    obtain ⟨v17, h18, hM⟩ := bind_some hM
    obtain ⟨v19, h20, hM⟩ := bind_some hM
    obtain ⟨v21, h22, hM⟩ := bind_some hM
    have hE : some (Ctl.next (List.set (List.set (List.set (List.set (List.set (List.set s1 (Int.toNat s3) (Leg.mk v7 v9.To v9.Start v9.Takes v9.Days v9.Room)) (Int.toNat s3) (Leg.mk v13.From v11 v13.Start v13.Takes v13.Days v13.Room)) (Int.toNat s3) (Leg.mk v15.From v15.To (w64 ((w64 (s2 + 1)) + 1)) v15.Takes v15.Days v15.Room)) (Int.toNat s3) (Leg.mk v17.From v17.To v17.Start (w64 ((w64 ((w64 (s2 + 1)) + 1)) + 1)) v17.Days v17.Room)) (Int.toNat s3) (Leg.mk v19.From v19.To v19.Start v19.Takes (w64 ((w64 ((w64 ((w64 (s2 + 1)) + 1)) + 1)) + 1)) v19.Room)) (Int.toNat s3) (Leg.mk v21.From v21.To v21.Start v21.Takes v21.Days (w64 ((w64 ((w64 ((w64 ((w64 (s2 + 1)) + 1)) + 1)) + 1)) + 1))), w64 ((w64 ((w64 ((w64 ((w64 ((w64 (s2 + 1)) + 1)) + 1)) + 1)) + 1)) + 1), w64 (s3 + 1))) = some c1 := hM
    have hE := Option.some.inj hE
    subst hE
    exact pc R 9999 [.ln (s1.length), .as 9 true, .call false [] (.o (.c (.v (.string v7)))) [] [], .ix (Leg.enc v9), .nm ((List.set s1 (Int.toNat s3) (Leg.mk v7 v9.To v9.Start v9.Takes v9.Days v9.Room)).map Leg.enc), .call false [] (.o (.c (.v (.string v11)))) [] [], .ix (Leg.enc v13), .nm ((List.set (List.set s1 (Int.toNat s3) (Leg.mk v7 v9.To v9.Start v9.Takes v9.Days v9.Room)) (Int.toNat s3) (Leg.mk v13.From v11 v13.Start v13.Takes v13.Days v13.Room)).map Leg.enc), .ix (Leg.enc v15), .nm ((List.set (List.set (List.set s1 (Int.toNat s3) (Leg.mk v7 v9.To v9.Start v9.Takes v9.Days v9.Room)) (Int.toNat s3) (Leg.mk v13.From v11 v13.Start v13.Takes v13.Days v13.Room)) (Int.toNat s3) (Leg.mk v15.From v15.To (w64 ((w64 (s2 + 1)) + 1)) v15.Takes v15.Days v15.Room)).map Leg.enc), .ix (Leg.enc v17), .nm ((List.set (List.set (List.set (List.set s1 (Int.toNat s3) (Leg.mk v7 v9.To v9.Start v9.Takes v9.Days v9.Room)) (Int.toNat s3) (Leg.mk v13.From v11 v13.Start v13.Takes v13.Days v13.Room)) (Int.toNat s3) (Leg.mk v15.From v15.To (w64 ((w64 (s2 + 1)) + 1)) v15.Takes v15.Days v15.Room)) (Int.toNat s3) (Leg.mk v17.From v17.To v17.Start (w64 ((w64 ((w64 (s2 + 1)) + 1)) + 1)) v17.Days v17.Room)).map Leg.enc), .ix (Leg.enc v19), .nm ((List.set (List.set (List.set (List.set (List.set s1 (Int.toNat s3) (Leg.mk v7 v9.To v9.Start v9.Takes v9.Days v9.Room)) (Int.toNat s3) (Leg.mk v13.From v11 v13.Start v13.Takes v13.Days v13.Room)) (Int.toNat s3) (Leg.mk v15.From v15.To (w64 ((w64 (s2 + 1)) + 1)) v15.Takes v15.Days v15.Room)) (Int.toNat s3) (Leg.mk v17.From v17.To v17.Start (w64 ((w64 ((w64 (s2 + 1)) + 1)) + 1)) v17.Days v17.Room)) (Int.toNat s3) (Leg.mk v19.From v19.To v19.Start v19.Takes (w64 ((w64 ((w64 ((w64 (s2 + 1)) + 1)) + 1)) + 1)) v19.Room)).map Leg.enc), .ix (Leg.enc v21), .nm ((List.set (List.set (List.set (List.set (List.set (List.set s1 (Int.toNat s3) (Leg.mk v7 v9.To v9.Start v9.Takes v9.Days v9.Room)) (Int.toNat s3) (Leg.mk v13.From v11 v13.Start v13.Takes v13.Days v13.Room)) (Int.toNat s3) (Leg.mk v15.From v15.To (w64 ((w64 (s2 + 1)) + 1)) v15.Takes v15.Days v15.Room)) (Int.toNat s3) (Leg.mk v17.From v17.To v17.Start (w64 ((w64 ((w64 (s2 + 1)) + 1)) + 1)) v17.Days v17.Room)) (Int.toNat s3) (Leg.mk v19.From v19.To v19.Start v19.Takes (w64 ((w64 ((w64 ((w64 (s2 + 1)) + 1)) + 1)) + 1)) v19.Room)) (Int.toNat s3) (Leg.mk v21.From v21.To v21.Start v21.Takes v21.Days (w64 ((w64 ((w64 ((w64 ((w64 (s2 + 1)) + 1)) + 1)) + 1)) + 1)))).map Leg.enc)] [.keep [0, 1, 5] [900]] (And.intro (lenm Leg.enc s1) (And.intro h6 (And.intro (laws_markText_ok s2 v7 h8) (And.intro (gi_lt Leg.enc h10) (And.intro (And.intro (gi_map Leg.enc h10).2 (set_map Leg.enc s1 (Int.toNat s3) (Leg.mk v7 v9.To v9.Start v9.Takes v9.Days v9.Room))) (And.intro (laws_markText_ok (w64 (s2 + 1)) v11 h12) (And.intro (gi_lt Leg.enc h14) (And.intro (And.intro (gi_map Leg.enc h14).2 (set_map Leg.enc (List.set s1 (Int.toNat s3) (Leg.mk v7 v9.To v9.Start v9.Takes v9.Days v9.Room)) (Int.toNat s3) (Leg.mk v13.From v11 v13.Start v13.Takes v13.Days v13.Room))) (And.intro (gi_lt Leg.enc h16) (And.intro (And.intro (gi_map Leg.enc h16).2 (set_map Leg.enc (List.set (List.set s1 (Int.toNat s3) (Leg.mk v7 v9.To v9.Start v9.Takes v9.Days v9.Room)) (Int.toNat s3) (Leg.mk v13.From v11 v13.Start v13.Takes v13.Days v13.Room)) (Int.toNat s3) (Leg.mk v15.From v15.To (w64 ((w64 (s2 + 1)) + 1)) v15.Takes v15.Days v15.Room))) (And.intro (gi_lt Leg.enc h18) (And.intro (And.intro (gi_map Leg.enc h18).2 (set_map Leg.enc (List.set (List.set (List.set s1 (Int.toNat s3) (Leg.mk v7 v9.To v9.Start v9.Takes v9.Days v9.Room)) (Int.toNat s3) (Leg.mk v13.From v11 v13.Start v13.Takes v13.Days v13.Room)) (Int.toNat s3) (Leg.mk v15.From v15.To (w64 ((w64 (s2 + 1)) + 1)) v15.Takes v15.Days v15.Room)) (Int.toNat s3) (Leg.mk v17.From v17.To v17.Start (w64 ((w64 ((w64 (s2 + 1)) + 1)) + 1)) v17.Days v17.Room))) (And.intro (gi_lt Leg.enc h20) (And.intro (And.intro (gi_map Leg.enc h20).2 (set_map Leg.enc (List.set (List.set (List.set (List.set s1 (Int.toNat s3) (Leg.mk v7 v9.To v9.Start v9.Takes v9.Days v9.Room)) (Int.toNat s3) (Leg.mk v13.From v11 v13.Start v13.Takes v13.Days v13.Room)) (Int.toNat s3) (Leg.mk v15.From v15.To (w64 ((w64 (s2 + 1)) + 1)) v15.Takes v15.Days v15.Room)) (Int.toNat s3) (Leg.mk v17.From v17.To v17.Start (w64 ((w64 ((w64 (s2 + 1)) + 1)) + 1)) v17.Days v17.Room)) (Int.toNat s3) (Leg.mk v19.From v19.To v19.Start v19.Takes (w64 ((w64 ((w64 ((w64 (s2 + 1)) + 1)) + 1)) + 1)) v19.Room))) (And.intro (gi_lt Leg.enc h22) (And.intro (And.intro (gi_map Leg.enc h22).2 (set_map Leg.enc (List.set (List.set (List.set (List.set (List.set s1 (Int.toNat s3) (Leg.mk v7 v9.To v9.Start v9.Takes v9.Days v9.Room)) (Int.toNat s3) (Leg.mk v13.From v11 v13.Start v13.Takes v13.Days v13.Room)) (Int.toNat s3) (Leg.mk v15.From v15.To (w64 ((w64 (s2 + 1)) + 1)) v15.Takes v15.Days v15.Room)) (Int.toNat s3) (Leg.mk v17.From v17.To v17.Start (w64 ((w64 ((w64 (s2 + 1)) + 1)) + 1)) v17.Days v17.Room)) (Int.toNat s3) (Leg.mk v19.From v19.To v19.Start v19.Takes (w64 ((w64 ((w64 ((w64 (s2 + 1)) + 1)) + 1)) + 1)) v19.Room)) (Int.toNat s3) (Leg.mk v21.From v21.To v21.Start v21.Takes v21.Days (w64 ((w64 ((w64 ((w64 ((w64 (s2 + 1)) + 1)) + 1)) + 1)) + 1))))) True.intro)))))))))))))))) (by kernel_rfl) (li (Sf := laws_markLegS_L1_S) (M := Mk (laws_markLegS_L1) (laws_markLegS_L1_k) r) (k := [.blk 0, .code (cAt Try.f81 [1, 1])]) (Nat.lt_succ_self m1) hK1)
  · have hE : some (Ctl.brk (s1, s2)) = some c1 := hM
    have hE := Option.some.inj hE
    subst hE
    exact pc R 5 [.ln (s1.length), .as 9 false] [.keep [0, 1] [900]] (And.intro (lenm Leg.enc s1) (And.intro h6 True.intro)) (by kernel_rfl) (K1 s1 s2 hK1)

-- loop.example/g03014/laws.markNetwork
def laws_markNetwork (a0 : Network) (a1 : Int) : Option (Int × Network) :=
  (laws_markLegS a0.Legs a1).bind fun v1 =>
  (laws_markIntS a0.Off v1.1).bind fun v3 =>
  some (v3.1, (Network.mk v1.2 v3.2 a0.Change))
theorem laws_markNetwork_ok (a0 : Network) (a1 : Int) (r : Int × Network) (hM : laws_markNetwork a0 a1 = some r) :
    Con Try.prog 56 [.agg [.sl 900, .sl 920, .v (.int .i64 a0.Change)], .c (.v (.int .i64 a1))] [(900, .row 89 6 (a0.Legs.map Leg.enc)), (920, .row 3 1 (a0.Off.map encI))] (.o (.c (.v (.int .i64 r.1)))) [(900, .row 89 6 (r.2.Legs.map Leg.enc)), (920, .row 3 1 (r.2.Off.map encI))] [] := by
  unfold laws_markNetwork at hM
  refine cn (N := 14) (pids := [900, 920]) Try_mixed Try.func56 (by kernel_rfl) (by kernel_rfl) (by kernel_rfl) rfl fun ρ g w R => ?_
  obtain ⟨v1, h2, hM⟩ := bind_some hM
  obtain ⟨v3, h4, hM⟩ := bind_some hM
  have hE : some (v3.1, (Network.mk v1.2 v3.2 a0.Change)) = some r := hM
  have hE := Option.some.inj hE
  subst hE
  exact pr R 9999 [.new 0, .call false [900] (.o (.c (.v (.int .i64 v1.1)))) [(900, .row 89 6 (v1.2.map Leg.enc))] [], .call false [920] (.o (.c (.v (.int .i64 v3.1)))) [(920, .row 3 1 (v3.2.map encI))] []] [] [900, 920] [] (And.intro (And.intro (con_sw 900 900 (laws_markLegS_ok a0.Legs a1 v1 h2)) (rfl : ([900] : List Nat) = [900])) (And.intro (And.intro (con_sw 900 920 (laws_markIntS_ok a0.Off v1.1 v3 h4)) (rfl : ([920] : List Nat) = [920])) True.intro)) (by kernel_rfl)

-- loop.example/g03014/laws.heldBookingS
def laws_heldBookingS_L1_b (a0 : (List Booking)) (s1 : Int) (s2 : Int) : Option (Ctl (Int × Int) Int Int) :=
  bif (decide (s2 < (a0.length : Int))) then
  (gi a0 s2).bind fun v5 =>
  bif (v5.Thing != s1) then
  some (.ret (-1))
  else
  (gi a0 s2).bind fun v8 =>
  bif (v8.Trip.Leg != (w64 (s1 + 1))) then
  some (.ret (-1))
  else
  (gi a0 s2).bind fun v11 =>
  bif (v11.Trip.Day != (w64 ((w64 (s1 + 1)) + 1))) then
  some (.ret (-1))
  else
  (gi a0 s2).bind fun v14 =>
  bif (v14.Weight != (w64 ((w64 ((w64 (s1 + 1)) + 1)) + 1))) then
  some (.ret (-1))
  else
  some (.next (w64 ((w64 ((w64 ((w64 (s1 + 1)) + 1)) + 1)) + 1), w64 (s2 + 1)))
  else
  some (.brk s1)
def laws_heldBookingS_L1 (a0 : (List Booking)) (s : Int × Int) : Option (Ctl (Int × Int) Int Int) := laws_heldBookingS_L1_b a0 s.1 s.2
def laws_heldBookingS_L1_s (a0 : (List Booking)) (s1 : Int) (s2 : Int) : St := ⟨[(0, .o (.c (.rs 4 (a0.map Booking.enc)))), (1, .o (.c (.v (.int .i64 s1)))), (5, .o (.c (.v (.int .i64 s2))))], []⟩
def laws_heldBookingS_L1_S (a0 : (List Booking)) (s : Int × Int) : St := laws_heldBookingS_L1_s a0 s.1 s.2
def laws_heldBookingS_L1_a (s3 : Int) : Option Int :=
  some s3
def laws_heldBookingS_L1_k (x : (Int) ⊕ (Int)) : Option Int := match x with
  | .inl t => laws_heldBookingS_L1_a t
  | .inr y => some y
def laws_heldBookingS (a0 : (List Booking)) (a1 : Int) : Option Int :=
  (loopM (laws_heldBookingS_L1 a0) big (a1, 0)).bind (laws_heldBookingS_L1_k)
theorem laws_heldBookingS_ok (a0 : (List Booking)) (a1 : Int) (r : Int) (hM : laws_heldBookingS a0 a1 = some r) :
    Con Try.prog 57 [.c (.rs 4 (a0.map Booking.enc)), .c (.v (.int .i64 a1))] [] (.o (.c (.v (.int .i64 r)))) [] [] := by
  unfold laws_heldBookingS at hM
  refine cn (N := 51) (pids := []) Try_mixed Try.func57 (by kernel_rfl) (by kernel_rfl) (by kernel_rfl) rfl fun ρ g w R => ?_
  have K1 : ∀ (s3 : Int), laws_heldBookingS_L1_a s3 = some r → Gr R [.code (cAt Try.f57 [1, 1])] (⟨[(1, .o (.c (.v (.int .i64 s3))))], []⟩) := by
    intro s3 hM
    unfold laws_heldBookingS_L1_a at hM
    have hE : some s3 = some r := hM
    have hE := Option.some.inj hE
    subst hE
    exact pr R 9999 [] [] [] [] True.intro (by kernel_rfl)
  refine pc R 9999 [] [.keep [0, 1, 5] []] (k' := [.code (.loop (cAt Try.f57 [1, 0, 1, 0, 0])), .blk 0, .code (cAt Try.f57 [1, 1])]) (S' := laws_heldBookingS_L1_S a0 (a1, 0)) True.intro (by kernel_rfl) ?_
  refine lq (laws_heldBookingS_L1_S a0) (body := laws_heldBookingS_L1 a0) (k := laws_heldBookingS_L1_k) hM fun m1 s c1 hM hK1 => ?_
  obtain ⟨s1, s2⟩ := s
  have hM : laws_heldBookingS_L1_b a0 s1 s2 = some c1 := hM
  unfold laws_heldBookingS_L1_b at hM
  rcases cond_cases hM with ⟨h4, hM⟩ | ⟨h4, hM⟩
  · obtain ⟨v5, h6, hM⟩ := bind_some hM
    rcases cond_cases hM with ⟨h7, hM⟩ | ⟨h7, hM⟩
    · have hE : some (Ctl.ret (-1)) = some c1 := hM
      have hE := Option.some.inj hE
      subst hE
      have hE : some (-1) = some r := hK1
      have hE := Option.some.inj hE
      subst hE
      exact pr R 9999 [.ln (a0.length), .as 9 true, .ix (Booking.enc v5), .as 18 true] [] [] [] (And.intro (lenm Booking.enc a0) (And.intro h4 (And.intro (gi_map Booking.enc h6) (And.intro h7 True.intro)))) (by kernel_rfl)
    · obtain ⟨v8, h9, hM⟩ := bind_some hM
      rcases cond_cases hM with ⟨h10, hM⟩ | ⟨h10, hM⟩
      · have hE : some (Ctl.ret (-1)) = some c1 := hM
        have hE := Option.some.inj hE
        subst hE
        have hE : some (-1) = some r := hK1
        have hE := Option.some.inj hE
        subst hE
        exact pr R 9999 [.ln (a0.length), .as 9 true, .ix (Booking.enc v5), .as 18 false, .ix (Booking.enc v8), .as 28 true] [] [] [] (And.intro (lenm Booking.enc a0) (And.intro h4 (And.intro (gi_map Booking.enc h6) (And.intro h7 (And.intro (gi_map Booking.enc h9) (And.intro h10 True.intro)))))) (by kernel_rfl)
      · obtain ⟨v11, h12, hM⟩ := bind_some hM
        rcases cond_cases hM with ⟨h13, hM⟩ | ⟨h13, hM⟩
        · have hE : some (Ctl.ret (-1)) = some c1 := hM
          have hE := Option.some.inj hE
          subst hE
          have hE : some (-1) = some r := hK1
          have hE := Option.some.inj hE
          subst hE
          exact pr R 9999 [.ln (a0.length), .as 9 true, .ix (Booking.enc v5), .as 18 false, .ix (Booking.enc v8), .as 28 false, .ix (Booking.enc v11), .as 38 true] [] [] [] (And.intro (lenm Booking.enc a0) (And.intro h4 (And.intro (gi_map Booking.enc h6) (And.intro h7 (And.intro (gi_map Booking.enc h9) (And.intro h10 (And.intro (gi_map Booking.enc h12) (And.intro h13 True.intro)))))))) (by kernel_rfl)
        · obtain ⟨v14, h15, hM⟩ := bind_some hM
          rcases cond_cases hM with ⟨h16, hM⟩ | ⟨h16, hM⟩
          · have hE : some (Ctl.ret (-1)) = some c1 := hM
            have hE := Option.some.inj hE
            subst hE
            have hE : some (-1) = some r := hK1
            have hE := Option.some.inj hE
            subst hE
            exact pr R 9999 [.ln (a0.length), .as 9 true, .ix (Booking.enc v5), .as 18 false, .ix (Booking.enc v8), .as 28 false, .ix (Booking.enc v11), .as 38 false, .ix (Booking.enc v14), .as 47 true] [] [] [] (And.intro (lenm Booking.enc a0) (And.intro h4 (And.intro (gi_map Booking.enc h6) (And.intro h7 (And.intro (gi_map Booking.enc h9) (And.intro h10 (And.intro (gi_map Booking.enc h12) (And.intro h13 (And.intro (gi_map Booking.enc h15) (And.intro h16 True.intro)))))))))) (by kernel_rfl)
          · have hE : some (Ctl.next (w64 ((w64 ((w64 ((w64 (s1 + 1)) + 1)) + 1)) + 1), w64 (s2 + 1))) = some c1 := hM
            have hE := Option.some.inj hE
            subst hE
            exact pc R 9999 [.ln (a0.length), .as 9 true, .ix (Booking.enc v5), .as 18 false, .ix (Booking.enc v8), .as 28 false, .ix (Booking.enc v11), .as 38 false, .ix (Booking.enc v14), .as 47 false] [.keep [0, 1, 5] []] (And.intro (lenm Booking.enc a0) (And.intro h4 (And.intro (gi_map Booking.enc h6) (And.intro h7 (And.intro (gi_map Booking.enc h9) (And.intro h10 (And.intro (gi_map Booking.enc h12) (And.intro h13 (And.intro (gi_map Booking.enc h15) (And.intro h16 True.intro)))))))))) (by kernel_rfl) (li (Sf := laws_heldBookingS_L1_S a0) (M := Mk (laws_heldBookingS_L1 a0) (laws_heldBookingS_L1_k) r) (k := [.blk 0, .code (cAt Try.f57 [1, 1])]) (Nat.lt_succ_self m1) hK1)
  · have hE : some (Ctl.brk s1) = some c1 := hM
    have hE := Option.some.inj hE
    subst hE
    exact pc R 5 [.ln (a0.length), .as 9 false] [.keep [1] []] (And.intro (lenm Booking.enc a0) (And.intro h4 True.intro)) (by kernel_rfl) (K1 s1 hK1)

-- loop.example/g03014/laws.FnExactDropFrom
def laws_FnExactDropFrom_x1 (a0 : Network) (a1 : (List Booking)) (a2 : Int) (a3 : Int) (v11 : (List Booking)) (v13 : Network) (v15 : (List Booking)) (v17 : (List Booking)) (v24 : Bool) : St := ⟨[(1, .o (.c (.rs 4 (a1.map Booking.enc)))), (2, .o (.c (.v (.int .i64 a2)))), (3, .o (.c (.v (.int .i64 a3)))), (4, .o (.c (.ptr 0 0))), (10, .o (.c (.sl 4))), (11, .o (.c (.ptr 7 0))), (12, .o (.c (.sl 8))), (13, .o (.c (.sl 9))), (52, .o (.c (.v (.bool (!v24)))))], [(0, .box 47 [.rs 6 (a0.Legs.map Leg.enc), .rs 1 (a0.Off.map encI), .v (.int .i64 a0.Change)]), (4, .row 74 4 (v11.map Booking.enc)), (7, .box 54 [.sl 5, .sl 6, .v (.int .i64 v13.Change)]), (5, .row 89 6 (v13.Legs.map Leg.enc)), (6, .row 3 1 (v13.Off.map encI)), (8, .row 74 4 (v15.map Booking.enc)), (9, .row 74 4 (v17.map Booking.enc))]⟩
def laws_FnExactDropFrom (a0 : Network) (a1 : (List Booking)) (a2 : Int) (a3 : Int) : Option Bool :=
  (laws_szNetwork a0 1048576).bind fun v1 =>
  bif (decide (v1 < 0)) then
  some true
  else
  (laws_szBookingS a1 v1).bind fun v4 =>
  bif (decide (v4 < 0)) then
  some true
  else
  (laws_toNetwork a0).bind fun v7 =>
  (laws_toBookingS a1).bind fun v9 =>
  (spec_DropFrom v7 v9 a2 a3).bind fun v11 =>
  (laws_toNetwork a0).bind fun v13 =>
  (laws_toBookingS a1).bind fun v15 =>
  (impl_DropFrom v13 v15 a2 a3).bind fun v17 =>
  (laws_eqBookingS v17 v11).bind fun v19 =>
  bif (!v19) then
  some false
  else
  (laws_toNetwork a0).bind fun v22 =>
  (laws_eqNetwork v13 v22).bind fun v24 =>
  bif (!v24) then
  some false
  else
  (laws_toBookingS a1).bind fun v27 =>
  (laws_eqBookingS v15 v27).bind fun v29 =>
  bif (!v29) then
  some false
  else
  (laws_markNetwork v13 1).bind fun v32 =>
  (laws_markBookingS v15 v32.1).bind fun v34 =>
  bif (decide (v34.1 < 0)) then
  some false
  else
  (laws_eqBookingS v17 v11).bind fun v37 =>
  bif (!v37) then
  some false
  else
  (laws_markBookingS v17 1).bind fun v40 =>
  (laws_heldBookingS v40.2 1).bind fun v42 =>
  bif (decide (v42 < 0)) then
  some false
  else
  bif (v42 != v40.1) then
  some false
  else
  (laws_toNetwork a0).bind fun v46 =>
  (laws_toBookingS a1).bind fun v48 =>
  (impl_DropFrom v46 v48 a2 a3).bind fun v50 =>
  (laws_eqBookingS v50 v11).bind fun v52 =>
  bif (!v52) then
  some false
  else
  (laws_heldBookingS v40.2 1).bind fun v55 =>
  bif (decide (v55 < 0)) then
  some false
  else
  bif (v55 != v40.1) then
  some false
  else
  some true
theorem laws_FnExactDropFrom_ok (a0 : Network) (a1 : (List Booking)) (a2 : Int) (a3 : Int) (r : Bool) (hM : laws_FnExactDropFrom a0 a1 a2 a3 = some r) :
    Con Try.prog 14 [.agg [.rs 6 (a0.Legs.map Leg.enc), .rs 1 (a0.Off.map encI), .v (.int .i64 a0.Change)], .c (.rs 4 (a1.map Booking.enc)), .c (.v (.int .i64 a2)), .c (.v (.int .i64 a3))] [] (.o (.c (.v (.bool r)))) [] [] := by
  unfold laws_FnExactDropFrom at hM
  refine cn (N := 102) (pids := []) Try_mixed Try.func14 (by kernel_rfl) (by kernel_rfl) (by kernel_rfl) rfl fun ρ g w R => ?_
  obtain ⟨v1, h2, hM⟩ := bind_some hM
  rcases cond_cases hM with ⟨h3, hM⟩ | ⟨h3, hM⟩
  · have hE : some true = some r := hM
    have hE := Option.some.inj hE
    subst hE
    exact pr R 9999 [.new 0, .call false [] (.o (.c (.v (.int .i64 v1)))) [] [], .as 22 true] [] [] [] (And.intro (laws_szNetwork_ok a0 1048576 v1 h2) (And.intro h3 True.intro)) (by kernel_rfl)
  · obtain ⟨v4, h5, hM⟩ := bind_some hM
    rcases cond_cases hM with ⟨h6, hM⟩ | ⟨h6, hM⟩
    · have hE : some true = some r := hM
      have hE := Option.some.inj hE
      subst hE
      exact pr R 9999 [.new 0, .call false [] (.o (.c (.v (.int .i64 v1)))) [] [], .as 22 false, .call false [] (.o (.c (.v (.int .i64 v4)))) [] [], .as 27 true] [] [] [] (And.intro (laws_szNetwork_ok a0 1048576 v1 h2) (And.intro h3 (And.intro (laws_szBookingS_ok a1 v1 v4 h5) (And.intro h6 True.intro)))) (by kernel_rfl)
    · obtain ⟨v7, h8, hM⟩ := bind_some hM
      obtain ⟨v9, h10, hM⟩ := bind_some hM
      obtain ⟨v11, h12, hM⟩ := bind_some hM
      obtain ⟨v13, h14, hM⟩ := bind_some hM
      obtain ⟨v15, h16, hM⟩ := bind_some hM
      obtain ⟨v17, h18, hM⟩ := bind_some hM
      obtain ⟨v19, h20, hM⟩ := bind_some hM
      rcases cond_cases hM with ⟨h21, hM⟩ | ⟨h21, hM⟩
      · have hE : some false = some r := hM
        have hE := Option.some.inj hE
        subst hE
        exact pr R 9999 [.new 0, .call false [] (.o (.c (.v (.int .i64 v1)))) [] [], .as 22 false, .call false [] (.o (.c (.v (.int .i64 v4)))) [] [], .as 27 false, .call false [] (.o (.agg [.sl 1, .sl 2, .v (.int .i64 v7.Change)])) [] [(1, .row 89 6 (v7.Legs.map Leg.enc)), (2, .row 3 1 (v7.Off.map encI))], .call false [] (.o (.c (.sl 3))) [] [(3, .row 74 4 (v9.map Booking.enc))], .call false [] (.o (.c (.sl 4))) [] [(4, .row 74 4 (v11.map Booking.enc))], .call false [] (.o (.agg [.sl 5, .sl 6, .v (.int .i64 v13.Change)])) [] [(5, .row 89 6 (v13.Legs.map Leg.enc)), (6, .row 3 1 (v13.Off.map encI))], .new 7, .call false [] (.o (.c (.sl 8))) [] [(8, .row 74 4 (v15.map Booking.enc))], .call false [] (.o (.c (.sl 9))) [] [(9, .row 74 4 (v17.map Booking.enc))], .call false [] (.o (.c (.v (.bool v19)))) [] [], .as 47 true] [] [] [] (And.intro (laws_szNetwork_ok a0 1048576 v1 h2) (And.intro h3 (And.intro (laws_szBookingS_ok a1 v1 v4 h5) (And.intro h6 (And.intro (And.intro (con_sw 1001 2 (con_sw 1000 1 (laws_toNetwork_ok a0 v7 h8))) (rfl : ([] : List Nat) = [])) (And.intro (And.intro (con_sw 1000 3 (laws_toBookingS_ok a1 v9 h10)) (rfl : ([] : List Nat) = [])) (And.intro (And.intro (con_sw 1000 4 (spec_DropFrom_ok v7 v9 a2 a3 v11 h12)) (rfl : ([] : List Nat) = [])) (And.intro (And.intro (con_sw 1001 6 (con_sw 1000 5 (laws_toNetwork_ok a0 v13 h14))) (rfl : ([] : List Nat) = [])) (And.intro (And.intro (con_sw 1000 8 (laws_toBookingS_ok a1 v15 h16)) (rfl : ([] : List Nat) = [])) (And.intro (And.intro (con_sw 1000 9 (impl_DropFrom_ok v13 v15 a2 a3 v17 h18)) (rfl : ([] : List Nat) = [])) (And.intro (laws_eqBookingS_ok v17 v11 v19 h20) (And.intro h21 True.intro)))))))))))) (by kernel_rfl)
      · obtain ⟨v22, h23, hM⟩ := bind_some hM
        obtain ⟨v24, h25, hM⟩ := bind_some hM
        rcases cond_cases hM with ⟨h26, hM⟩ | ⟨h26, hM⟩
        · have hE : some false = some r := hM
          have hE := Option.some.inj hE
          subst hE
          exact pr R 9999 [.new 0, .call false [] (.o (.c (.v (.int .i64 v1)))) [] [], .as 22 false, .call false [] (.o (.c (.v (.int .i64 v4)))) [] [], .as 27 false, .call false [] (.o (.agg [.sl 1, .sl 2, .v (.int .i64 v7.Change)])) [] [(1, .row 89 6 (v7.Legs.map Leg.enc)), (2, .row 3 1 (v7.Off.map encI))], .call false [] (.o (.c (.sl 3))) [] [(3, .row 74 4 (v9.map Booking.enc))], .call false [] (.o (.c (.sl 4))) [] [(4, .row 74 4 (v11.map Booking.enc))], .call false [] (.o (.agg [.sl 5, .sl 6, .v (.int .i64 v13.Change)])) [] [(5, .row 89 6 (v13.Legs.map Leg.enc)), (6, .row 3 1 (v13.Off.map encI))], .new 7, .call false [] (.o (.c (.sl 8))) [] [(8, .row 74 4 (v15.map Booking.enc))], .call false [] (.o (.c (.sl 9))) [] [(9, .row 74 4 (v17.map Booking.enc))], .call false [] (.o (.c (.v (.bool v19)))) [] [], .as 47 false, .xo [[], [], [.call false [] (.o (.agg [.sl 10, .sl 11, .v (.int .i64 v22.Change)])) [] [(10, .row 89 6 (v22.Legs.map Leg.enc)), (11, .row 3 1 (v22.Off.map encI))]], [.call false [] (.o (.c (.v (.bool v24)))) [] []], []] [.keep [1, 2, 3, 4, 10, 11, 12, 13, 52] [0, 4, 7, 5, 6, 8, 9]] (laws_FnExactDropFrom_x1 a0 a1 a2 a3 v11 v13 v15 v17 v24), .as 52 true] [] [] [] (And.intro (laws_szNetwork_ok a0 1048576 v1 h2) (And.intro h3 (And.intro (laws_szBookingS_ok a1 v1 v4 h5) (And.intro h6 (And.intro (And.intro (con_sw 1001 2 (con_sw 1000 1 (laws_toNetwork_ok a0 v7 h8))) (rfl : ([] : List Nat) = [])) (And.intro (And.intro (con_sw 1000 3 (laws_toBookingS_ok a1 v9 h10)) (rfl : ([] : List Nat) = [])) (And.intro (And.intro (con_sw 1000 4 (spec_DropFrom_ok v7 v9 a2 a3 v11 h12)) (rfl : ([] : List Nat) = [])) (And.intro (And.intro (con_sw 1001 6 (con_sw 1000 5 (laws_toNetwork_ok a0 v13 h14))) (rfl : ([] : List Nat) = [])) (And.intro (And.intro (con_sw 1000 8 (laws_toBookingS_ok a1 v15 h16)) (rfl : ([] : List Nat) = [])) (And.intro (And.intro (con_sw 1000 9 (impl_DropFrom_ok v13 v15 a2 a3 v17 h18)) (rfl : ([] : List Nat) = [])) (And.intro (laws_eqBookingS_ok v17 v11 v19 h20) (And.intro h21 (And.intro (And.intro (con_sw 1001 11 (con_sw 1000 10 (laws_toNetwork_ok a0 v22 h23))) (rfl : ([] : List Nat) = [])) (And.intro (laws_eqNetwork_ok v13 v22 v24 h25) (And.intro (rfl : (laws_FnExactDropFrom_x1 a0 a1 a2 a3 v11 v13 v15 v17 v24) = (laws_FnExactDropFrom_x1 a0 a1 a2 a3 v11 v13 v15 v17 v24)) (And.intro (And.intro (con_sw 1001 11 (con_sw 1000 10 (laws_toNetwork_ok a0 v22 h23))) (rfl : ([] : List Nat) = [])) (And.intro (laws_eqNetwork_ok v13 v22 v24 h25) (And.intro (rfl : (laws_FnExactDropFrom_x1 a0 a1 a2 a3 v11 v13 v15 v17 v24) = (laws_FnExactDropFrom_x1 a0 a1 a2 a3 v11 v13 v15 v17 v24)) (And.intro (And.intro (con_sw 1001 11 (con_sw 1000 10 (laws_toNetwork_ok a0 v22 h23))) (rfl : ([] : List Nat) = [])) (And.intro (laws_eqNetwork_ok v13 v22 v24 h25) (And.intro (rfl : (laws_FnExactDropFrom_x1 a0 a1 a2 a3 v11 v13 v15 v17 v24) = (laws_FnExactDropFrom_x1 a0 a1 a2 a3 v11 v13 v15 v17 v24)) (And.intro h26 True.intro)))))))))))))))))))))) (by kernel_rfl)
        · obtain ⟨v27, h28, hM⟩ := bind_some hM
          obtain ⟨v29, h30, hM⟩ := bind_some hM
          rcases cond_cases hM with ⟨h31, hM⟩ | ⟨h31, hM⟩
          · have hE : some false = some r := hM
            have hE := Option.some.inj hE
            subst hE
            exact pr R 9999 [.new 0, .call false [] (.o (.c (.v (.int .i64 v1)))) [] [], .as 22 false, .call false [] (.o (.c (.v (.int .i64 v4)))) [] [], .as 27 false, .call false [] (.o (.agg [.sl 1, .sl 2, .v (.int .i64 v7.Change)])) [] [(1, .row 89 6 (v7.Legs.map Leg.enc)), (2, .row 3 1 (v7.Off.map encI))], .call false [] (.o (.c (.sl 3))) [] [(3, .row 74 4 (v9.map Booking.enc))], .call false [] (.o (.c (.sl 4))) [] [(4, .row 74 4 (v11.map Booking.enc))], .call false [] (.o (.agg [.sl 5, .sl 6, .v (.int .i64 v13.Change)])) [] [(5, .row 89 6 (v13.Legs.map Leg.enc)), (6, .row 3 1 (v13.Off.map encI))], .new 7, .call false [] (.o (.c (.sl 8))) [] [(8, .row 74 4 (v15.map Booking.enc))], .call false [] (.o (.c (.sl 9))) [] [(9, .row 74 4 (v17.map Booking.enc))], .call false [] (.o (.c (.v (.bool v19)))) [] [], .as 47 false, .xo [[], [], [.call false [] (.o (.agg [.sl 10, .sl 11, .v (.int .i64 v22.Change)])) [] [(10, .row 89 6 (v22.Legs.map Leg.enc)), (11, .row 3 1 (v22.Off.map encI))]], [.call false [] (.o (.c (.v (.bool v24)))) [] []], []] [.keep [1, 2, 3, 4, 10, 11, 12, 13, 52] [0, 4, 7, 5, 6, 8, 9]] (laws_FnExactDropFrom_x1 a0 a1 a2 a3 v11 v13 v15 v17 v24), .as 52 false, .call false [] (.o (.c (.sl 12))) [] [(12, .row 74 4 (v27.map Booking.enc))], .call false [] (.o (.c (.v (.bool v29)))) [] [], .as 57 true] [] [] [] (And.intro (laws_szNetwork_ok a0 1048576 v1 h2) (And.intro h3 (And.intro (laws_szBookingS_ok a1 v1 v4 h5) (And.intro h6 (And.intro (And.intro (con_sw 1001 2 (con_sw 1000 1 (laws_toNetwork_ok a0 v7 h8))) (rfl : ([] : List Nat) = [])) (And.intro (And.intro (con_sw 1000 3 (laws_toBookingS_ok a1 v9 h10)) (rfl : ([] : List Nat) = [])) (And.intro (And.intro (con_sw 1000 4 (spec_DropFrom_ok v7 v9 a2 a3 v11 h12)) (rfl : ([] : List Nat) = [])) (And.intro (And.intro (con_sw 1001 6 (con_sw 1000 5 (laws_toNetwork_ok a0 v13 h14))) (rfl : ([] : List Nat) = [])) (And.intro (And.intro (con_sw 1000 8 (laws_toBookingS_ok a1 v15 h16)) (rfl : ([] : List Nat) = [])) (And.intro (And.intro (con_sw 1000 9 (impl_DropFrom_ok v13 v15 a2 a3 v17 h18)) (rfl : ([] : List Nat) = [])) (And.intro (laws_eqBookingS_ok v17 v11 v19 h20) (And.intro h21 (And.intro (And.intro (con_sw 1001 11 (con_sw 1000 10 (laws_toNetwork_ok a0 v22 h23))) (rfl : ([] : List Nat) = [])) (And.intro (laws_eqNetwork_ok v13 v22 v24 h25) (And.intro (rfl : (laws_FnExactDropFrom_x1 a0 a1 a2 a3 v11 v13 v15 v17 v24) = (laws_FnExactDropFrom_x1 a0 a1 a2 a3 v11 v13 v15 v17 v24)) (And.intro (And.intro (con_sw 1001 11 (con_sw 1000 10 (laws_toNetwork_ok a0 v22 h23))) (rfl : ([] : List Nat) = [])) (And.intro (laws_eqNetwork_ok v13 v22 v24 h25) (And.intro (rfl : (laws_FnExactDropFrom_x1 a0 a1 a2 a3 v11 v13 v15 v17 v24) = (laws_FnExactDropFrom_x1 a0 a1 a2 a3 v11 v13 v15 v17 v24)) (And.intro (And.intro (con_sw 1001 11 (con_sw 1000 10 (laws_toNetwork_ok a0 v22 h23))) (rfl : ([] : List Nat) = [])) (And.intro (laws_eqNetwork_ok v13 v22 v24 h25) (And.intro (rfl : (laws_FnExactDropFrom_x1 a0 a1 a2 a3 v11 v13 v15 v17 v24) = (laws_FnExactDropFrom_x1 a0 a1 a2 a3 v11 v13 v15 v17 v24)) (And.intro h26 (And.intro (And.intro (con_sw 1000 12 (laws_toBookingS_ok a1 v27 h28)) (rfl : ([] : List Nat) = [])) (And.intro (laws_eqBookingS_ok v15 v27 v29 h30) (And.intro h31 True.intro))))))))))))))))))))))))) (by kernel_rfl)
          · obtain ⟨v32, h33, hM⟩ := bind_some hM
            obtain ⟨v34, h35, hM⟩ := bind_some hM
            rcases cond_cases hM with ⟨h36, hM⟩ | ⟨h36, hM⟩
            · have hE : some false = some r := hM
              have hE := Option.some.inj hE
              subst hE
              exact pr R 9999 [.new 0, .call false [] (.o (.c (.v (.int .i64 v1)))) [] [], .as 22 false, .call false [] (.o (.c (.v (.int .i64 v4)))) [] [], .as 27 false, .call false [] (.o (.agg [.sl 1, .sl 2, .v (.int .i64 v7.Change)])) [] [(1, .row 89 6 (v7.Legs.map Leg.enc)), (2, .row 3 1 (v7.Off.map encI))], .call false [] (.o (.c (.sl 3))) [] [(3, .row 74 4 (v9.map Booking.enc))], .call false [] (.o (.c (.sl 4))) [] [(4, .row 74 4 (v11.map Booking.enc))], .call false [] (.o (.agg [.sl 5, .sl 6, .v (.int .i64 v13.Change)])) [] [(5, .row 89 6 (v13.Legs.map Leg.enc)), (6, .row 3 1 (v13.Off.map encI))], .new 7, .call false [] (.o (.c (.sl 8))) [] [(8, .row 74 4 (v15.map Booking.enc))], .call false [] (.o (.c (.sl 9))) [] [(9, .row 74 4 (v17.map Booking.enc))], .call false [] (.o (.c (.v (.bool v19)))) [] [], .as 47 false, .xo [[], [], [.call false [] (.o (.agg [.sl 10, .sl 11, .v (.int .i64 v22.Change)])) [] [(10, .row 89 6 (v22.Legs.map Leg.enc)), (11, .row 3 1 (v22.Off.map encI))]], [.call false [] (.o (.c (.v (.bool v24)))) [] []], []] [.keep [1, 2, 3, 4, 10, 11, 12, 13, 52] [0, 4, 7, 5, 6, 8, 9]] (laws_FnExactDropFrom_x1 a0 a1 a2 a3 v11 v13 v15 v17 v24), .as 52 false, .call false [] (.o (.c (.sl 12))) [] [(12, .row 74 4 (v27.map Booking.enc))], .call false [] (.o (.c (.v (.bool v29)))) [] [], .as 57 false, .ad (.keep [1, 2, 3, 4, 10, 11, 12, 13, 14, 52, 53, 54, 55, 56, 57, 58, 59] [5, 6, 0, 4, 7, 8, 9, 12]), .call false [5, 6] (.o (.c (.v (.int .i64 v32.1)))) [(5, .row 89 6 (v32.2.Legs.map Leg.enc)), (6, .row 3 1 (v32.2.Off.map encI))] [], .call false [8] (.o (.c (.v (.int .i64 v34.1)))) [(8, .row 74 4 (v34.2.map Booking.enc))] [], .as 66 true] [] [] [] (And.intro (laws_szNetwork_ok a0 1048576 v1 h2) (And.intro h3 (And.intro (laws_szBookingS_ok a1 v1 v4 h5) (And.intro h6 (And.intro (And.intro (con_sw 1001 2 (con_sw 1000 1 (laws_toNetwork_ok a0 v7 h8))) (rfl : ([] : List Nat) = [])) (And.intro (And.intro (con_sw 1000 3 (laws_toBookingS_ok a1 v9 h10)) (rfl : ([] : List Nat) = [])) (And.intro (And.intro (con_sw 1000 4 (spec_DropFrom_ok v7 v9 a2 a3 v11 h12)) (rfl : ([] : List Nat) = [])) (And.intro (And.intro (con_sw 1001 6 (con_sw 1000 5 (laws_toNetwork_ok a0 v13 h14))) (rfl : ([] : List Nat) = [])) (And.intro (And.intro (con_sw 1000 8 (laws_toBookingS_ok a1 v15 h16)) (rfl : ([] : List Nat) = [])) (And.intro (And.intro (con_sw 1000 9 (impl_DropFrom_ok v13 v15 a2 a3 v17 h18)) (rfl : ([] : List Nat) = [])) (And.intro (laws_eqBookingS_ok v17 v11 v19 h20) (And.intro h21 (And.intro (And.intro (con_sw 1001 11 (con_sw 1000 10 (laws_toNetwork_ok a0 v22 h23))) (rfl : ([] : List Nat) = [])) (And.intro (laws_eqNetwork_ok v13 v22 v24 h25) (And.intro (rfl : (laws_FnExactDropFrom_x1 a0 a1 a2 a3 v11 v13 v15 v17 v24) = (laws_FnExactDropFrom_x1 a0 a1 a2 a3 v11 v13 v15 v17 v24)) (And.intro (And.intro (con_sw 1001 11 (con_sw 1000 10 (laws_toNetwork_ok a0 v22 h23))) (rfl : ([] : List Nat) = [])) (And.intro (laws_eqNetwork_ok v13 v22 v24 h25) (And.intro (rfl : (laws_FnExactDropFrom_x1 a0 a1 a2 a3 v11 v13 v15 v17 v24) = (laws_FnExactDropFrom_x1 a0 a1 a2 a3 v11 v13 v15 v17 v24)) (And.intro (And.intro (con_sw 1001 11 (con_sw 1000 10 (laws_toNetwork_ok a0 v22 h23))) (rfl : ([] : List Nat) = [])) (And.intro (laws_eqNetwork_ok v13 v22 v24 h25) (And.intro (rfl : (laws_FnExactDropFrom_x1 a0 a1 a2 a3 v11 v13 v15 v17 v24) = (laws_FnExactDropFrom_x1 a0 a1 a2 a3 v11 v13 v15 v17 v24)) (And.intro h26 (And.intro (And.intro (con_sw 1000 12 (laws_toBookingS_ok a1 v27 h28)) (rfl : ([] : List Nat) = [])) (And.intro (laws_eqBookingS_ok v15 v27 v29 h30) (And.intro h31 (And.intro (And.intro (con_sw 920 6 (con_sw 900 5 (laws_markNetwork_ok v13 1 v32 h33))) (rfl : ([5, 6] : List Nat) = [5, 6])) (And.intro (And.intro (con_sw 900 8 (laws_markBookingS_ok v15 v32.1 v34 h35)) (rfl : ([8] : List Nat) = [8])) (And.intro h36 True.intro)))))))))))))))))))))))))))) (by kernel_rfl)
            · obtain ⟨v37, h38, hM⟩ := bind_some hM
              rcases cond_cases hM with ⟨h39, hM⟩ | ⟨h39, hM⟩
              · have hE : some false = some r := hM
                have hE := Option.some.inj hE
                subst hE
                exact pr R 9999 [.new 0, .call false [] (.o (.c (.v (.int .i64 v1)))) [] [], .as 22 false, .call false [] (.o (.c (.v (.int .i64 v4)))) [] [], .as 27 false, .call false [] (.o (.agg [.sl 1, .sl 2, .v (.int .i64 v7.Change)])) [] [(1, .row 89 6 (v7.Legs.map Leg.enc)), (2, .row 3 1 (v7.Off.map encI))], .call false [] (.o (.c (.sl 3))) [] [(3, .row 74 4 (v9.map Booking.enc))], .call false [] (.o (.c (.sl 4))) [] [(4, .row 74 4 (v11.map Booking.enc))], .call false [] (.o (.agg [.sl 5, .sl 6, .v (.int .i64 v13.Change)])) [] [(5, .row 89 6 (v13.Legs.map Leg.enc)), (6, .row 3 1 (v13.Off.map encI))], .new 7, .call false [] (.o (.c (.sl 8))) [] [(8, .row 74 4 (v15.map Booking.enc))], .call false [] (.o (.c (.sl 9))) [] [(9, .row 74 4 (v17.map Booking.enc))], .call false [] (.o (.c (.v (.bool v19)))) [] [], .as 47 false, .xo [[], [], [.call false [] (.o (.agg [.sl 10, .sl 11, .v (.int .i64 v22.Change)])) [] [(10, .row 89 6 (v22.Legs.map Leg.enc)), (11, .row 3 1 (v22.Off.map encI))]], [.call false [] (.o (.c (.v (.bool v24)))) [] []], []] [.keep [1, 2, 3, 4, 10, 11, 12, 13, 52] [0, 4, 7, 5, 6, 8, 9]] (laws_FnExactDropFrom_x1 a0 a1 a2 a3 v11 v13 v15 v17 v24), .as 52 false, .call false [] (.o (.c (.sl 12))) [] [(12, .row 74 4 (v27.map Booking.enc))], .call false [] (.o (.c (.v (.bool v29)))) [] [], .as 57 false, .ad (.keep [1, 2, 3, 4, 10, 11, 12, 13, 14, 52, 53, 54, 55, 56, 57, 58, 59] [5, 6, 0, 4, 7, 8, 9, 12]), .call false [5, 6] (.o (.c (.v (.int .i64 v32.1)))) [(5, .row 89 6 (v32.2.Legs.map Leg.enc)), (6, .row 3 1 (v32.2.Off.map encI))] [], .call false [8] (.o (.c (.v (.int .i64 v34.1)))) [(8, .row 74 4 (v34.2.map Booking.enc))] [], .as 66 false, .call false [] (.o (.c (.v (.bool v37)))) [] [], .as 71 true] [] [] [] (And.intro (laws_szNetwork_ok a0 1048576 v1 h2) (And.intro h3 (And.intro (laws_szBookingS_ok a1 v1 v4 h5) (And.intro h6 (And.intro (And.intro (con_sw 1001 2 (con_sw 1000 1 (laws_toNetwork_ok a0 v7 h8))) (rfl : ([] : List Nat) = [])) (And.intro (And.intro (con_sw 1000 3 (laws_toBookingS_ok a1 v9 h10)) (rfl : ([] : List Nat) = [])) (And.intro (And.intro (con_sw 1000 4 (spec_DropFrom_ok v7 v9 a2 a3 v11 h12)) (rfl : ([] : List Nat) = [])) (And.intro (And.intro (con_sw 1001 6 (con_sw 1000 5 (laws_toNetwork_ok a0 v13 h14))) (rfl : ([] : List Nat) = [])) (And.intro (And.intro (con_sw 1000 8 (laws_toBookingS_ok a1 v15 h16)) (rfl : ([] : List Nat) = [])) (And.intro (And.intro (con_sw 1000 9 (impl_DropFrom_ok v13 v15 a2 a3 v17 h18)) (rfl : ([] : List Nat) = [])) (And.intro (laws_eqBookingS_ok v17 v11 v19 h20) (And.intro h21 (And.intro (And.intro (con_sw 1001 11 (con_sw 1000 10 (laws_toNetwork_ok a0 v22 h23))) (rfl : ([] : List Nat) = [])) (And.intro (laws_eqNetwork_ok v13 v22 v24 h25) (And.intro (rfl : (laws_FnExactDropFrom_x1 a0 a1 a2 a3 v11 v13 v15 v17 v24) = (laws_FnExactDropFrom_x1 a0 a1 a2 a3 v11 v13 v15 v17 v24)) (And.intro (And.intro (con_sw 1001 11 (con_sw 1000 10 (laws_toNetwork_ok a0 v22 h23))) (rfl : ([] : List Nat) = [])) (And.intro (laws_eqNetwork_ok v13 v22 v24 h25) (And.intro (rfl : (laws_FnExactDropFrom_x1 a0 a1 a2 a3 v11 v13 v15 v17 v24) = (laws_FnExactDropFrom_x1 a0 a1 a2 a3 v11 v13 v15 v17 v24)) (And.intro (And.intro (con_sw 1001 11 (con_sw 1000 10 (laws_toNetwork_ok a0 v22 h23))) (rfl : ([] : List Nat) = [])) (And.intro (laws_eqNetwork_ok v13 v22 v24 h25) (And.intro (rfl : (laws_FnExactDropFrom_x1 a0 a1 a2 a3 v11 v13 v15 v17 v24) = (laws_FnExactDropFrom_x1 a0 a1 a2 a3 v11 v13 v15 v17 v24)) (And.intro h26 (And.intro (And.intro (con_sw 1000 12 (laws_toBookingS_ok a1 v27 h28)) (rfl : ([] : List Nat) = [])) (And.intro (laws_eqBookingS_ok v15 v27 v29 h30) (And.intro h31 (And.intro (And.intro (con_sw 920 6 (con_sw 900 5 (laws_markNetwork_ok v13 1 v32 h33))) (rfl : ([5, 6] : List Nat) = [5, 6])) (And.intro (And.intro (con_sw 900 8 (laws_markBookingS_ok v15 v32.1 v34 h35)) (rfl : ([8] : List Nat) = [8])) (And.intro h36 (And.intro (laws_eqBookingS_ok v17 v11 v37 h38) (And.intro h39 True.intro)))))))))))))))))))))))))))))) (by kernel_rfl)
              · obtain ⟨v40, h41, hM⟩ := bind_some hM
                obtain ⟨v42, h43, hM⟩ := bind_some hM
                rcases cond_cases hM with ⟨h44, hM⟩ | ⟨h44, hM⟩
                · have hE : some false = some r := hM
                  have hE := Option.some.inj hE
                  subst hE
                  exact pr R 9999 [.new 0, .call false [] (.o (.c (.v (.int .i64 v1)))) [] [], .as 22 false, .call false [] (.o (.c (.v (.int .i64 v4)))) [] [], .as 27 false, .call false [] (.o (.agg [.sl 1, .sl 2, .v (.int .i64 v7.Change)])) [] [(1, .row 89 6 (v7.Legs.map Leg.enc)), (2, .row 3 1 (v7.Off.map encI))], .call false [] (.o (.c (.sl 3))) [] [(3, .row 74 4 (v9.map Booking.enc))], .call false [] (.o (.c (.sl 4))) [] [(4, .row 74 4 (v11.map Booking.enc))], .call false [] (.o (.agg [.sl 5, .sl 6, .v (.int .i64 v13.Change)])) [] [(5, .row 89 6 (v13.Legs.map Leg.enc)), (6, .row 3 1 (v13.Off.map encI))], .new 7, .call false [] (.o (.c (.sl 8))) [] [(8, .row 74 4 (v15.map Booking.enc))], .call false [] (.o (.c (.sl 9))) [] [(9, .row 74 4 (v17.map Booking.enc))], .call false [] (.o (.c (.v (.bool v19)))) [] [], .as 47 false, .xo [[], [], [.call false [] (.o (.agg [.sl 10, .sl 11, .v (.int .i64 v22.Change)])) [] [(10, .row 89 6 (v22.Legs.map Leg.enc)), (11, .row 3 1 (v22.Off.map encI))]], [.call false [] (.o (.c (.v (.bool v24)))) [] []], []] [.keep [1, 2, 3, 4, 10, 11, 12, 13, 52] [0, 4, 7, 5, 6, 8, 9]] (laws_FnExactDropFrom_x1 a0 a1 a2 a3 v11 v13 v15 v17 v24), .as 52 false, .call false [] (.o (.c (.sl 12))) [] [(12, .row 74 4 (v27.map Booking.enc))], .call false [] (.o (.c (.v (.bool v29)))) [] [], .as 57 false, .ad (.keep [1, 2, 3, 4, 10, 11, 12, 13, 14, 52, 53, 54, 55, 56, 57, 58, 59] [5, 6, 0, 4, 7, 8, 9, 12]), .call false [5, 6] (.o (.c (.v (.int .i64 v32.1)))) [(5, .row 89 6 (v32.2.Legs.map Leg.enc)), (6, .row 3 1 (v32.2.Off.map encI))] [], .call false [8] (.o (.c (.v (.int .i64 v34.1)))) [(8, .row 74 4 (v34.2.map Booking.enc))] [], .as 66 false, .call false [] (.o (.c (.v (.bool v37)))) [] [], .as 71 false, .call false [9] (.o (.c (.v (.int .i64 v40.1)))) [(9, .row 74 4 (v40.2.map Booking.enc))] [], .call false [] (.o (.c (.v (.int .i64 v42)))) [] [], .as 79 true] [] [] [] (And.intro (laws_szNetwork_ok a0 1048576 v1 h2) (And.intro h3 (And.intro (laws_szBookingS_ok a1 v1 v4 h5) (And.intro h6 (And.intro (And.intro (con_sw 1001 2 (con_sw 1000 1 (laws_toNetwork_ok a0 v7 h8))) (rfl : ([] : List Nat) = [])) (And.intro (And.intro (con_sw 1000 3 (laws_toBookingS_ok a1 v9 h10)) (rfl : ([] : List Nat) = [])) (And.intro (And.intro (con_sw 1000 4 (spec_DropFrom_ok v7 v9 a2 a3 v11 h12)) (rfl : ([] : List Nat) = [])) (And.intro (And.intro (con_sw 1001 6 (con_sw 1000 5 (laws_toNetwork_ok a0 v13 h14))) (rfl : ([] : List Nat) = [])) (And.intro (And.intro (con_sw 1000 8 (laws_toBookingS_ok a1 v15 h16)) (rfl : ([] : List Nat) = [])) (And.intro (And.intro (con_sw 1000 9 (impl_DropFrom_ok v13 v15 a2 a3 v17 h18)) (rfl : ([] : List Nat) = [])) (And.intro (laws_eqBookingS_ok v17 v11 v19 h20) (And.intro h21 (And.intro (And.intro (con_sw 1001 11 (con_sw 1000 10 (laws_toNetwork_ok a0 v22 h23))) (rfl : ([] : List Nat) = [])) (And.intro (laws_eqNetwork_ok v13 v22 v24 h25) (And.intro (rfl : (laws_FnExactDropFrom_x1 a0 a1 a2 a3 v11 v13 v15 v17 v24) = (laws_FnExactDropFrom_x1 a0 a1 a2 a3 v11 v13 v15 v17 v24)) (And.intro (And.intro (con_sw 1001 11 (con_sw 1000 10 (laws_toNetwork_ok a0 v22 h23))) (rfl : ([] : List Nat) = [])) (And.intro (laws_eqNetwork_ok v13 v22 v24 h25) (And.intro (rfl : (laws_FnExactDropFrom_x1 a0 a1 a2 a3 v11 v13 v15 v17 v24) = (laws_FnExactDropFrom_x1 a0 a1 a2 a3 v11 v13 v15 v17 v24)) (And.intro (And.intro (con_sw 1001 11 (con_sw 1000 10 (laws_toNetwork_ok a0 v22 h23))) (rfl : ([] : List Nat) = [])) (And.intro (laws_eqNetwork_ok v13 v22 v24 h25) (And.intro (rfl : (laws_FnExactDropFrom_x1 a0 a1 a2 a3 v11 v13 v15 v17 v24) = (laws_FnExactDropFrom_x1 a0 a1 a2 a3 v11 v13 v15 v17 v24)) (And.intro h26 (And.intro (And.intro (con_sw 1000 12 (laws_toBookingS_ok a1 v27 h28)) (rfl : ([] : List Nat) = [])) (And.intro (laws_eqBookingS_ok v15 v27 v29 h30) (And.intro h31 (And.intro (And.intro (con_sw 920 6 (con_sw 900 5 (laws_markNetwork_ok v13 1 v32 h33))) (rfl : ([5, 6] : List Nat) = [5, 6])) (And.intro (And.intro (con_sw 900 8 (laws_markBookingS_ok v15 v32.1 v34 h35)) (rfl : ([8] : List Nat) = [8])) (And.intro h36 (And.intro (laws_eqBookingS_ok v17 v11 v37 h38) (And.intro h39 (And.intro (And.intro (con_sw 900 9 (laws_markBookingS_ok v17 1 v40 h41)) (rfl : ([9] : List Nat) = [9])) (And.intro (laws_heldBookingS_ok v40.2 1 v42 h43) (And.intro h44 True.intro))))))))))))))))))))))))))))))))) (by kernel_rfl)
                · rcases cond_cases hM with ⟨h45, hM⟩ | ⟨h45, hM⟩
                  · have hE : some false = some r := hM
                    have hE := Option.some.inj hE
                    subst hE
                    exact pr R 9999 [.new 0, .call false [] (.o (.c (.v (.int .i64 v1)))) [] [], .as 22 false, .call false [] (.o (.c (.v (.int .i64 v4)))) [] [], .as 27 false, .call false [] (.o (.agg [.sl 1, .sl 2, .v (.int .i64 v7.Change)])) [] [(1, .row 89 6 (v7.Legs.map Leg.enc)), (2, .row 3 1 (v7.Off.map encI))], .call false [] (.o (.c (.sl 3))) [] [(3, .row 74 4 (v9.map Booking.enc))], .call false [] (.o (.c (.sl 4))) [] [(4, .row 74 4 (v11.map Booking.enc))], .call false [] (.o (.agg [.sl 5, .sl 6, .v (.int .i64 v13.Change)])) [] [(5, .row 89 6 (v13.Legs.map Leg.enc)), (6, .row 3 1 (v13.Off.map encI))], .new 7, .call false [] (.o (.c (.sl 8))) [] [(8, .row 74 4 (v15.map Booking.enc))], .call false [] (.o (.c (.sl 9))) [] [(9, .row 74 4 (v17.map Booking.enc))], .call false [] (.o (.c (.v (.bool v19)))) [] [], .as 47 false, .xo [[], [], [.call false [] (.o (.agg [.sl 10, .sl 11, .v (.int .i64 v22.Change)])) [] [(10, .row 89 6 (v22.Legs.map Leg.enc)), (11, .row 3 1 (v22.Off.map encI))]], [.call false [] (.o (.c (.v (.bool v24)))) [] []], []] [.keep [1, 2, 3, 4, 10, 11, 12, 13, 52] [0, 4, 7, 5, 6, 8, 9]] (laws_FnExactDropFrom_x1 a0 a1 a2 a3 v11 v13 v15 v17 v24), .as 52 false, .call false [] (.o (.c (.sl 12))) [] [(12, .row 74 4 (v27.map Booking.enc))], .call false [] (.o (.c (.v (.bool v29)))) [] [], .as 57 false, .ad (.keep [1, 2, 3, 4, 10, 11, 12, 13, 14, 52, 53, 54, 55, 56, 57, 58, 59] [5, 6, 0, 4, 7, 8, 9, 12]), .call false [5, 6] (.o (.c (.v (.int .i64 v32.1)))) [(5, .row 89 6 (v32.2.Legs.map Leg.enc)), (6, .row 3 1 (v32.2.Off.map encI))] [], .call false [8] (.o (.c (.v (.int .i64 v34.1)))) [(8, .row 74 4 (v34.2.map Booking.enc))] [], .as 66 false, .call false [] (.o (.c (.v (.bool v37)))) [] [], .as 71 false, .call false [9] (.o (.c (.v (.int .i64 v40.1)))) [(9, .row 74 4 (v40.2.map Booking.enc))] [], .call false [] (.o (.c (.v (.int .i64 v42)))) [] [], .as 79 false, .as 82 true] [] [] [] (And.intro (laws_szNetwork_ok a0 1048576 v1 h2) (And.intro h3 (And.intro (laws_szBookingS_ok a1 v1 v4 h5) (And.intro h6 (And.intro (And.intro (con_sw 1001 2 (con_sw 1000 1 (laws_toNetwork_ok a0 v7 h8))) (rfl : ([] : List Nat) = [])) (And.intro (And.intro (con_sw 1000 3 (laws_toBookingS_ok a1 v9 h10)) (rfl : ([] : List Nat) = [])) (And.intro (And.intro (con_sw 1000 4 (spec_DropFrom_ok v7 v9 a2 a3 v11 h12)) (rfl : ([] : List Nat) = [])) (And.intro (And.intro (con_sw 1001 6 (con_sw 1000 5 (laws_toNetwork_ok a0 v13 h14))) (rfl : ([] : List Nat) = [])) (And.intro (And.intro (con_sw 1000 8 (laws_toBookingS_ok a1 v15 h16)) (rfl : ([] : List Nat) = [])) (And.intro (And.intro (con_sw 1000 9 (impl_DropFrom_ok v13 v15 a2 a3 v17 h18)) (rfl : ([] : List Nat) = [])) (And.intro (laws_eqBookingS_ok v17 v11 v19 h20) (And.intro h21 (And.intro (And.intro (con_sw 1001 11 (con_sw 1000 10 (laws_toNetwork_ok a0 v22 h23))) (rfl : ([] : List Nat) = [])) (And.intro (laws_eqNetwork_ok v13 v22 v24 h25) (And.intro (rfl : (laws_FnExactDropFrom_x1 a0 a1 a2 a3 v11 v13 v15 v17 v24) = (laws_FnExactDropFrom_x1 a0 a1 a2 a3 v11 v13 v15 v17 v24)) (And.intro (And.intro (con_sw 1001 11 (con_sw 1000 10 (laws_toNetwork_ok a0 v22 h23))) (rfl : ([] : List Nat) = [])) (And.intro (laws_eqNetwork_ok v13 v22 v24 h25) (And.intro (rfl : (laws_FnExactDropFrom_x1 a0 a1 a2 a3 v11 v13 v15 v17 v24) = (laws_FnExactDropFrom_x1 a0 a1 a2 a3 v11 v13 v15 v17 v24)) (And.intro (And.intro (con_sw 1001 11 (con_sw 1000 10 (laws_toNetwork_ok a0 v22 h23))) (rfl : ([] : List Nat) = [])) (And.intro (laws_eqNetwork_ok v13 v22 v24 h25) (And.intro (rfl : (laws_FnExactDropFrom_x1 a0 a1 a2 a3 v11 v13 v15 v17 v24) = (laws_FnExactDropFrom_x1 a0 a1 a2 a3 v11 v13 v15 v17 v24)) (And.intro h26 (And.intro (And.intro (con_sw 1000 12 (laws_toBookingS_ok a1 v27 h28)) (rfl : ([] : List Nat) = [])) (And.intro (laws_eqBookingS_ok v15 v27 v29 h30) (And.intro h31 (And.intro (And.intro (con_sw 920 6 (con_sw 900 5 (laws_markNetwork_ok v13 1 v32 h33))) (rfl : ([5, 6] : List Nat) = [5, 6])) (And.intro (And.intro (con_sw 900 8 (laws_markBookingS_ok v15 v32.1 v34 h35)) (rfl : ([8] : List Nat) = [8])) (And.intro h36 (And.intro (laws_eqBookingS_ok v17 v11 v37 h38) (And.intro h39 (And.intro (And.intro (con_sw 900 9 (laws_markBookingS_ok v17 1 v40 h41)) (rfl : ([9] : List Nat) = [9])) (And.intro (laws_heldBookingS_ok v40.2 1 v42 h43) (And.intro h44 (And.intro h45 True.intro)))))))))))))))))))))))))))))))))) (by kernel_rfl)
                  · obtain ⟨v46, h47, hM⟩ := bind_some hM
                    obtain ⟨v48, h49, hM⟩ := bind_some hM
                    obtain ⟨v50, h51, hM⟩ := bind_some hM
                    obtain ⟨v52, h53, hM⟩ := bind_some hM
                    rcases cond_cases hM with ⟨h54, hM⟩ | ⟨h54, hM⟩
                    · have hE : some false = some r := hM
                      have hE := Option.some.inj hE
                      subst hE
                      exact pr R 9999 [.new 0, .call false [] (.o (.c (.v (.int .i64 v1)))) [] [], .as 22 false, .call false [] (.o (.c (.v (.int .i64 v4)))) [] [], .as 27 false, .call false [] (.o (.agg [.sl 1, .sl 2, .v (.int .i64 v7.Change)])) [] [(1, .row 89 6 (v7.Legs.map Leg.enc)), (2, .row 3 1 (v7.Off.map encI))], .call false [] (.o (.c (.sl 3))) [] [(3, .row 74 4 (v9.map Booking.enc))], .call false [] (.o (.c (.sl 4))) [] [(4, .row 74 4 (v11.map Booking.enc))], .call false [] (.o (.agg [.sl 5, .sl 6, .v (.int .i64 v13.Change)])) [] [(5, .row 89 6 (v13.Legs.map Leg.enc)), (6, .row 3 1 (v13.Off.map encI))], .new 7, .call false [] (.o (.c (.sl 8))) [] [(8, .row 74 4 (v15.map Booking.enc))], .call false [] (.o (.c (.sl 9))) [] [(9, .row 74 4 (v17.map Booking.enc))], .call false [] (.o (.c (.v (.bool v19)))) [] [], .as 47 false, .xo [[], [], [.call false [] (.o (.agg [.sl 10, .sl 11, .v (.int .i64 v22.Change)])) [] [(10, .row 89 6 (v22.Legs.map Leg.enc)), (11, .row 3 1 (v22.Off.map encI))]], [.call false [] (.o (.c (.v (.bool v24)))) [] []], []] [.keep [1, 2, 3, 4, 10, 11, 12, 13, 52] [0, 4, 7, 5, 6, 8, 9]] (laws_FnExactDropFrom_x1 a0 a1 a2 a3 v11 v13 v15 v17 v24), .as 52 false, .call false [] (.o (.c (.sl 12))) [] [(12, .row 74 4 (v27.map Booking.enc))], .call false [] (.o (.c (.v (.bool v29)))) [] [], .as 57 false, .ad (.keep [1, 2, 3, 4, 10, 11, 12, 13, 14, 52, 53, 54, 55, 56, 57, 58, 59] [5, 6, 0, 4, 7, 8, 9, 12]), .call false [5, 6] (.o (.c (.v (.int .i64 v32.1)))) [(5, .row 89 6 (v32.2.Legs.map Leg.enc)), (6, .row 3 1 (v32.2.Off.map encI))] [], .call false [8] (.o (.c (.v (.int .i64 v34.1)))) [(8, .row 74 4 (v34.2.map Booking.enc))] [], .as 66 false, .call false [] (.o (.c (.v (.bool v37)))) [] [], .as 71 false, .call false [9] (.o (.c (.v (.int .i64 v40.1)))) [(9, .row 74 4 (v40.2.map Booking.enc))] [], .call false [] (.o (.c (.v (.int .i64 v42)))) [] [], .as 79 false, .as 82 false, .call false [] (.o (.agg [.sl 13, .sl 14, .v (.int .i64 v46.Change)])) [] [(13, .row 89 6 (v46.Legs.map Leg.enc)), (14, .row 3 1 (v46.Off.map encI))], .call false [] (.o (.c (.sl 15))) [] [(15, .row 74 4 (v48.map Booking.enc))], .call false [] (.o (.c (.sl 16))) [] [(16, .row 74 4 (v50.map Booking.enc))], .call false [] (.o (.c (.v (.bool v52)))) [] [], .as 93 true] [] [] [] (And.intro (laws_szNetwork_ok a0 1048576 v1 h2) (And.intro h3 (And.intro (laws_szBookingS_ok a1 v1 v4 h5) (And.intro h6 (And.intro (And.intro (con_sw 1001 2 (con_sw 1000 1 (laws_toNetwork_ok a0 v7 h8))) (rfl : ([] : List Nat) = [])) (And.intro (And.intro (con_sw 1000 3 (laws_toBookingS_ok a1 v9 h10)) (rfl : ([] : List Nat) = [])) (And.intro (And.intro (con_sw 1000 4 (spec_DropFrom_ok v7 v9 a2 a3 v11 h12)) (rfl : ([] : List Nat) = [])) (And.intro (And.intro (con_sw 1001 6 (con_sw 1000 5 (laws_toNetwork_ok a0 v13 h14))) (rfl : ([] : List Nat) = [])) (And.intro (And.intro (con_sw 1000 8 (laws_toBookingS_ok a1 v15 h16)) (rfl : ([] : List Nat) = [])) (And.intro (And.intro (con_sw 1000 9 (impl_DropFrom_ok v13 v15 a2 a3 v17 h18)) (rfl : ([] : List Nat) = [])) (And.intro (laws_eqBookingS_ok v17 v11 v19 h20) (And.intro h21 (And.intro (And.intro (con_sw 1001 11 (con_sw 1000 10 (laws_toNetwork_ok a0 v22 h23))) (rfl : ([] : List Nat) = [])) (And.intro (laws_eqNetwork_ok v13 v22 v24 h25) (And.intro (rfl : (laws_FnExactDropFrom_x1 a0 a1 a2 a3 v11 v13 v15 v17 v24) = (laws_FnExactDropFrom_x1 a0 a1 a2 a3 v11 v13 v15 v17 v24)) (And.intro (And.intro (con_sw 1001 11 (con_sw 1000 10 (laws_toNetwork_ok a0 v22 h23))) (rfl : ([] : List Nat) = [])) (And.intro (laws_eqNetwork_ok v13 v22 v24 h25) (And.intro (rfl : (laws_FnExactDropFrom_x1 a0 a1 a2 a3 v11 v13 v15 v17 v24) = (laws_FnExactDropFrom_x1 a0 a1 a2 a3 v11 v13 v15 v17 v24)) (And.intro (And.intro (con_sw 1001 11 (con_sw 1000 10 (laws_toNetwork_ok a0 v22 h23))) (rfl : ([] : List Nat) = [])) (And.intro (laws_eqNetwork_ok v13 v22 v24 h25) (And.intro (rfl : (laws_FnExactDropFrom_x1 a0 a1 a2 a3 v11 v13 v15 v17 v24) = (laws_FnExactDropFrom_x1 a0 a1 a2 a3 v11 v13 v15 v17 v24)) (And.intro h26 (And.intro (And.intro (con_sw 1000 12 (laws_toBookingS_ok a1 v27 h28)) (rfl : ([] : List Nat) = [])) (And.intro (laws_eqBookingS_ok v15 v27 v29 h30) (And.intro h31 (And.intro (And.intro (con_sw 920 6 (con_sw 900 5 (laws_markNetwork_ok v13 1 v32 h33))) (rfl : ([5, 6] : List Nat) = [5, 6])) (And.intro (And.intro (con_sw 900 8 (laws_markBookingS_ok v15 v32.1 v34 h35)) (rfl : ([8] : List Nat) = [8])) (And.intro h36 (And.intro (laws_eqBookingS_ok v17 v11 v37 h38) (And.intro h39 (And.intro (And.intro (con_sw 900 9 (laws_markBookingS_ok v17 1 v40 h41)) (rfl : ([9] : List Nat) = [9])) (And.intro (laws_heldBookingS_ok v40.2 1 v42 h43) (And.intro h44 (And.intro h45 (And.intro (And.intro (con_sw 1001 14 (con_sw 1000 13 (laws_toNetwork_ok a0 v46 h47))) (rfl : ([] : List Nat) = [])) (And.intro (And.intro (con_sw 1000 15 (laws_toBookingS_ok a1 v48 h49)) (rfl : ([] : List Nat) = [])) (And.intro (And.intro (con_sw 1000 16 (impl_DropFrom_ok v46 v48 a2 a3 v50 h51)) (rfl : ([] : List Nat) = [])) (And.intro (laws_eqBookingS_ok v50 v11 v52 h53) (And.intro h54 True.intro))))))))))))))))))))))))))))))))))))))) (by kernel_rfl)
                    · obtain ⟨v55, h56, hM⟩ := bind_some hM
                      rcases cond_cases hM with ⟨h57, hM⟩ | ⟨h57, hM⟩
                      · have hE : some false = some r := hM
                        have hE := Option.some.inj hE
                        subst hE
                        exact pr R 9999 [.new 0, .call false [] (.o (.c (.v (.int .i64 v1)))) [] [], .as 22 false, .call false [] (.o (.c (.v (.int .i64 v4)))) [] [], .as 27 false, .call false [] (.o (.agg [.sl 1, .sl 2, .v (.int .i64 v7.Change)])) [] [(1, .row 89 6 (v7.Legs.map Leg.enc)), (2, .row 3 1 (v7.Off.map encI))], .call false [] (.o (.c (.sl 3))) [] [(3, .row 74 4 (v9.map Booking.enc))], .call false [] (.o (.c (.sl 4))) [] [(4, .row 74 4 (v11.map Booking.enc))], .call false [] (.o (.agg [.sl 5, .sl 6, .v (.int .i64 v13.Change)])) [] [(5, .row 89 6 (v13.Legs.map Leg.enc)), (6, .row 3 1 (v13.Off.map encI))], .new 7, .call false [] (.o (.c (.sl 8))) [] [(8, .row 74 4 (v15.map Booking.enc))], .call false [] (.o (.c (.sl 9))) [] [(9, .row 74 4 (v17.map Booking.enc))], .call false [] (.o (.c (.v (.bool v19)))) [] [], .as 47 false, .xo [[], [], [.call false [] (.o (.agg [.sl 10, .sl 11, .v (.int .i64 v22.Change)])) [] [(10, .row 89 6 (v22.Legs.map Leg.enc)), (11, .row 3 1 (v22.Off.map encI))]], [.call false [] (.o (.c (.v (.bool v24)))) [] []], []] [.keep [1, 2, 3, 4, 10, 11, 12, 13, 52] [0, 4, 7, 5, 6, 8, 9]] (laws_FnExactDropFrom_x1 a0 a1 a2 a3 v11 v13 v15 v17 v24), .as 52 false, .call false [] (.o (.c (.sl 12))) [] [(12, .row 74 4 (v27.map Booking.enc))], .call false [] (.o (.c (.v (.bool v29)))) [] [], .as 57 false, .ad (.keep [1, 2, 3, 4, 10, 11, 12, 13, 14, 52, 53, 54, 55, 56, 57, 58, 59] [5, 6, 0, 4, 7, 8, 9, 12]), .call false [5, 6] (.o (.c (.v (.int .i64 v32.1)))) [(5, .row 89 6 (v32.2.Legs.map Leg.enc)), (6, .row 3 1 (v32.2.Off.map encI))] [], .call false [8] (.o (.c (.v (.int .i64 v34.1)))) [(8, .row 74 4 (v34.2.map Booking.enc))] [], .as 66 false, .call false [] (.o (.c (.v (.bool v37)))) [] [], .as 71 false, .call false [9] (.o (.c (.v (.int .i64 v40.1)))) [(9, .row 74 4 (v40.2.map Booking.enc))] [], .call false [] (.o (.c (.v (.int .i64 v42)))) [] [], .as 79 false, .as 82 false, .call false [] (.o (.agg [.sl 13, .sl 14, .v (.int .i64 v46.Change)])) [] [(13, .row 89 6 (v46.Legs.map Leg.enc)), (14, .row 3 1 (v46.Off.map encI))], .call false [] (.o (.c (.sl 15))) [] [(15, .row 74 4 (v48.map Booking.enc))], .call false [] (.o (.c (.sl 16))) [] [(16, .row 74 4 (v50.map Booking.enc))], .call false [] (.o (.c (.v (.bool v52)))) [] [], .as 93 false, .call false [] (.o (.c (.v (.int .i64 v55)))) [] [], .as 98 true] [] [] [] (And.intro (laws_szNetwork_ok a0 1048576 v1 h2) (And.intro h3 (And.intro (laws_szBookingS_ok a1 v1 v4 h5) (And.intro h6 (And.intro (And.intro (con_sw 1001 2 (con_sw 1000 1 (laws_toNetwork_ok a0 v7 h8))) (rfl : ([] : List Nat) = [])) (And.intro (And.intro (con_sw 1000 3 (laws_toBookingS_ok a1 v9 h10)) (rfl : ([] : List Nat) = [])) (And.intro (And.intro (con_sw 1000 4 (spec_DropFrom_ok v7 v9 a2 a3 v11 h12)) (rfl : ([] : List Nat) = [])) (And.intro (And.intro (con_sw 1001 6 (con_sw 1000 5 (laws_toNetwork_ok a0 v13 h14))) (rfl : ([] : List Nat) = [])) (And.intro (And.intro (con_sw 1000 8 (laws_toBookingS_ok a1 v15 h16)) (rfl : ([] : List Nat) = [])) (And.intro (And.intro (con_sw 1000 9 (impl_DropFrom_ok v13 v15 a2 a3 v17 h18)) (rfl : ([] : List Nat) = [])) (And.intro (laws_eqBookingS_ok v17 v11 v19 h20) (And.intro h21 (And.intro (And.intro (con_sw 1001 11 (con_sw 1000 10 (laws_toNetwork_ok a0 v22 h23))) (rfl : ([] : List Nat) = [])) (And.intro (laws_eqNetwork_ok v13 v22 v24 h25) (And.intro (rfl : (laws_FnExactDropFrom_x1 a0 a1 a2 a3 v11 v13 v15 v17 v24) = (laws_FnExactDropFrom_x1 a0 a1 a2 a3 v11 v13 v15 v17 v24)) (And.intro (And.intro (con_sw 1001 11 (con_sw 1000 10 (laws_toNetwork_ok a0 v22 h23))) (rfl : ([] : List Nat) = [])) (And.intro (laws_eqNetwork_ok v13 v22 v24 h25) (And.intro (rfl : (laws_FnExactDropFrom_x1 a0 a1 a2 a3 v11 v13 v15 v17 v24) = (laws_FnExactDropFrom_x1 a0 a1 a2 a3 v11 v13 v15 v17 v24)) (And.intro (And.intro (con_sw 1001 11 (con_sw 1000 10 (laws_toNetwork_ok a0 v22 h23))) (rfl : ([] : List Nat) = [])) (And.intro (laws_eqNetwork_ok v13 v22 v24 h25) (And.intro (rfl : (laws_FnExactDropFrom_x1 a0 a1 a2 a3 v11 v13 v15 v17 v24) = (laws_FnExactDropFrom_x1 a0 a1 a2 a3 v11 v13 v15 v17 v24)) (And.intro h26 (And.intro (And.intro (con_sw 1000 12 (laws_toBookingS_ok a1 v27 h28)) (rfl : ([] : List Nat) = [])) (And.intro (laws_eqBookingS_ok v15 v27 v29 h30) (And.intro h31 (And.intro (And.intro (con_sw 920 6 (con_sw 900 5 (laws_markNetwork_ok v13 1 v32 h33))) (rfl : ([5, 6] : List Nat) = [5, 6])) (And.intro (And.intro (con_sw 900 8 (laws_markBookingS_ok v15 v32.1 v34 h35)) (rfl : ([8] : List Nat) = [8])) (And.intro h36 (And.intro (laws_eqBookingS_ok v17 v11 v37 h38) (And.intro h39 (And.intro (And.intro (con_sw 900 9 (laws_markBookingS_ok v17 1 v40 h41)) (rfl : ([9] : List Nat) = [9])) (And.intro (laws_heldBookingS_ok v40.2 1 v42 h43) (And.intro h44 (And.intro h45 (And.intro (And.intro (con_sw 1001 14 (con_sw 1000 13 (laws_toNetwork_ok a0 v46 h47))) (rfl : ([] : List Nat) = [])) (And.intro (And.intro (con_sw 1000 15 (laws_toBookingS_ok a1 v48 h49)) (rfl : ([] : List Nat) = [])) (And.intro (And.intro (con_sw 1000 16 (impl_DropFrom_ok v46 v48 a2 a3 v50 h51)) (rfl : ([] : List Nat) = [])) (And.intro (laws_eqBookingS_ok v50 v11 v52 h53) (And.intro h54 (And.intro (laws_heldBookingS_ok v40.2 1 v55 h56) (And.intro h57 True.intro))))))))))))))))))))))))))))))))))))))))) (by kernel_rfl)
                      · rcases cond_cases hM with ⟨h58, hM⟩ | ⟨h58, hM⟩
                        · have hE : some false = some r := hM
                          have hE := Option.some.inj hE
                          subst hE
                          exact pr R 9999 [.new 0, .call false [] (.o (.c (.v (.int .i64 v1)))) [] [], .as 22 false, .call false [] (.o (.c (.v (.int .i64 v4)))) [] [], .as 27 false, .call false [] (.o (.agg [.sl 1, .sl 2, .v (.int .i64 v7.Change)])) [] [(1, .row 89 6 (v7.Legs.map Leg.enc)), (2, .row 3 1 (v7.Off.map encI))], .call false [] (.o (.c (.sl 3))) [] [(3, .row 74 4 (v9.map Booking.enc))], .call false [] (.o (.c (.sl 4))) [] [(4, .row 74 4 (v11.map Booking.enc))], .call false [] (.o (.agg [.sl 5, .sl 6, .v (.int .i64 v13.Change)])) [] [(5, .row 89 6 (v13.Legs.map Leg.enc)), (6, .row 3 1 (v13.Off.map encI))], .new 7, .call false [] (.o (.c (.sl 8))) [] [(8, .row 74 4 (v15.map Booking.enc))], .call false [] (.o (.c (.sl 9))) [] [(9, .row 74 4 (v17.map Booking.enc))], .call false [] (.o (.c (.v (.bool v19)))) [] [], .as 47 false, .xo [[], [], [.call false [] (.o (.agg [.sl 10, .sl 11, .v (.int .i64 v22.Change)])) [] [(10, .row 89 6 (v22.Legs.map Leg.enc)), (11, .row 3 1 (v22.Off.map encI))]], [.call false [] (.o (.c (.v (.bool v24)))) [] []], []] [.keep [1, 2, 3, 4, 10, 11, 12, 13, 52] [0, 4, 7, 5, 6, 8, 9]] (laws_FnExactDropFrom_x1 a0 a1 a2 a3 v11 v13 v15 v17 v24), .as 52 false, .call false [] (.o (.c (.sl 12))) [] [(12, .row 74 4 (v27.map Booking.enc))], .call false [] (.o (.c (.v (.bool v29)))) [] [], .as 57 false, .ad (.keep [1, 2, 3, 4, 10, 11, 12, 13, 14, 52, 53, 54, 55, 56, 57, 58, 59] [5, 6, 0, 4, 7, 8, 9, 12]), .call false [5, 6] (.o (.c (.v (.int .i64 v32.1)))) [(5, .row 89 6 (v32.2.Legs.map Leg.enc)), (6, .row 3 1 (v32.2.Off.map encI))] [], .call false [8] (.o (.c (.v (.int .i64 v34.1)))) [(8, .row 74 4 (v34.2.map Booking.enc))] [], .as 66 false, .call false [] (.o (.c (.v (.bool v37)))) [] [], .as 71 false, .call false [9] (.o (.c (.v (.int .i64 v40.1)))) [(9, .row 74 4 (v40.2.map Booking.enc))] [], .call false [] (.o (.c (.v (.int .i64 v42)))) [] [], .as 79 false, .as 82 false, .call false [] (.o (.agg [.sl 13, .sl 14, .v (.int .i64 v46.Change)])) [] [(13, .row 89 6 (v46.Legs.map Leg.enc)), (14, .row 3 1 (v46.Off.map encI))], .call false [] (.o (.c (.sl 15))) [] [(15, .row 74 4 (v48.map Booking.enc))], .call false [] (.o (.c (.sl 16))) [] [(16, .row 74 4 (v50.map Booking.enc))], .call false [] (.o (.c (.v (.bool v52)))) [] [], .as 93 false, .call false [] (.o (.c (.v (.int .i64 v55)))) [] [], .as 98 false, .as 101 true] [] [] [] (And.intro (laws_szNetwork_ok a0 1048576 v1 h2) (And.intro h3 (And.intro (laws_szBookingS_ok a1 v1 v4 h5) (And.intro h6 (And.intro (And.intro (con_sw 1001 2 (con_sw 1000 1 (laws_toNetwork_ok a0 v7 h8))) (rfl : ([] : List Nat) = [])) (And.intro (And.intro (con_sw 1000 3 (laws_toBookingS_ok a1 v9 h10)) (rfl : ([] : List Nat) = [])) (And.intro (And.intro (con_sw 1000 4 (spec_DropFrom_ok v7 v9 a2 a3 v11 h12)) (rfl : ([] : List Nat) = [])) (And.intro (And.intro (con_sw 1001 6 (con_sw 1000 5 (laws_toNetwork_ok a0 v13 h14))) (rfl : ([] : List Nat) = [])) (And.intro (And.intro (con_sw 1000 8 (laws_toBookingS_ok a1 v15 h16)) (rfl : ([] : List Nat) = [])) (And.intro (And.intro (con_sw 1000 9 (impl_DropFrom_ok v13 v15 a2 a3 v17 h18)) (rfl : ([] : List Nat) = [])) (And.intro (laws_eqBookingS_ok v17 v11 v19 h20) (And.intro h21 (And.intro (And.intro (con_sw 1001 11 (con_sw 1000 10 (laws_toNetwork_ok a0 v22 h23))) (rfl : ([] : List Nat) = [])) (And.intro (laws_eqNetwork_ok v13 v22 v24 h25) (And.intro (rfl : (laws_FnExactDropFrom_x1 a0 a1 a2 a3 v11 v13 v15 v17 v24) = (laws_FnExactDropFrom_x1 a0 a1 a2 a3 v11 v13 v15 v17 v24)) (And.intro (And.intro (con_sw 1001 11 (con_sw 1000 10 (laws_toNetwork_ok a0 v22 h23))) (rfl : ([] : List Nat) = [])) (And.intro (laws_eqNetwork_ok v13 v22 v24 h25) (And.intro (rfl : (laws_FnExactDropFrom_x1 a0 a1 a2 a3 v11 v13 v15 v17 v24) = (laws_FnExactDropFrom_x1 a0 a1 a2 a3 v11 v13 v15 v17 v24)) (And.intro (And.intro (con_sw 1001 11 (con_sw 1000 10 (laws_toNetwork_ok a0 v22 h23))) (rfl : ([] : List Nat) = [])) (And.intro (laws_eqNetwork_ok v13 v22 v24 h25) (And.intro (rfl : (laws_FnExactDropFrom_x1 a0 a1 a2 a3 v11 v13 v15 v17 v24) = (laws_FnExactDropFrom_x1 a0 a1 a2 a3 v11 v13 v15 v17 v24)) (And.intro h26 (And.intro (And.intro (con_sw 1000 12 (laws_toBookingS_ok a1 v27 h28)) (rfl : ([] : List Nat) = [])) (And.intro (laws_eqBookingS_ok v15 v27 v29 h30) (And.intro h31 (And.intro (And.intro (con_sw 920 6 (con_sw 900 5 (laws_markNetwork_ok v13 1 v32 h33))) (rfl : ([5, 6] : List Nat) = [5, 6])) (And.intro (And.intro (con_sw 900 8 (laws_markBookingS_ok v15 v32.1 v34 h35)) (rfl : ([8] : List Nat) = [8])) (And.intro h36 (And.intro (laws_eqBookingS_ok v17 v11 v37 h38) (And.intro h39 (And.intro (And.intro (con_sw 900 9 (laws_markBookingS_ok v17 1 v40 h41)) (rfl : ([9] : List Nat) = [9])) (And.intro (laws_heldBookingS_ok v40.2 1 v42 h43) (And.intro h44 (And.intro h45 (And.intro (And.intro (con_sw 1001 14 (con_sw 1000 13 (laws_toNetwork_ok a0 v46 h47))) (rfl : ([] : List Nat) = [])) (And.intro (And.intro (con_sw 1000 15 (laws_toBookingS_ok a1 v48 h49)) (rfl : ([] : List Nat) = [])) (And.intro (And.intro (con_sw 1000 16 (impl_DropFrom_ok v46 v48 a2 a3 v50 h51)) (rfl : ([] : List Nat) = [])) (And.intro (laws_eqBookingS_ok v50 v11 v52 h53) (And.intro h54 (And.intro (laws_heldBookingS_ok v40.2 1 v55 h56) (And.intro h57 (And.intro h58 True.intro)))))))))))))))))))))))))))))))))))))))))) (by kernel_rfl)
                        · have hE : some true = some r := hM
                          have hE := Option.some.inj hE
                          subst hE
                          exact pr R 9999 [.new 0, .call false [] (.o (.c (.v (.int .i64 v1)))) [] [], .as 22 false, .call false [] (.o (.c (.v (.int .i64 v4)))) [] [], .as 27 false, .call false [] (.o (.agg [.sl 1, .sl 2, .v (.int .i64 v7.Change)])) [] [(1, .row 89 6 (v7.Legs.map Leg.enc)), (2, .row 3 1 (v7.Off.map encI))], .call false [] (.o (.c (.sl 3))) [] [(3, .row 74 4 (v9.map Booking.enc))], .call false [] (.o (.c (.sl 4))) [] [(4, .row 74 4 (v11.map Booking.enc))], .call false [] (.o (.agg [.sl 5, .sl 6, .v (.int .i64 v13.Change)])) [] [(5, .row 89 6 (v13.Legs.map Leg.enc)), (6, .row 3 1 (v13.Off.map encI))], .new 7, .call false [] (.o (.c (.sl 8))) [] [(8, .row 74 4 (v15.map Booking.enc))], .call false [] (.o (.c (.sl 9))) [] [(9, .row 74 4 (v17.map Booking.enc))], .call false [] (.o (.c (.v (.bool v19)))) [] [], .as 47 false, .xo [[], [], [.call false [] (.o (.agg [.sl 10, .sl 11, .v (.int .i64 v22.Change)])) [] [(10, .row 89 6 (v22.Legs.map Leg.enc)), (11, .row 3 1 (v22.Off.map encI))]], [.call false [] (.o (.c (.v (.bool v24)))) [] []], []] [.keep [1, 2, 3, 4, 10, 11, 12, 13, 52] [0, 4, 7, 5, 6, 8, 9]] (laws_FnExactDropFrom_x1 a0 a1 a2 a3 v11 v13 v15 v17 v24), .as 52 false, .call false [] (.o (.c (.sl 12))) [] [(12, .row 74 4 (v27.map Booking.enc))], .call false [] (.o (.c (.v (.bool v29)))) [] [], .as 57 false, .ad (.keep [1, 2, 3, 4, 10, 11, 12, 13, 14, 52, 53, 54, 55, 56, 57, 58, 59] [5, 6, 0, 4, 7, 8, 9, 12]), .call false [5, 6] (.o (.c (.v (.int .i64 v32.1)))) [(5, .row 89 6 (v32.2.Legs.map Leg.enc)), (6, .row 3 1 (v32.2.Off.map encI))] [], .call false [8] (.o (.c (.v (.int .i64 v34.1)))) [(8, .row 74 4 (v34.2.map Booking.enc))] [], .as 66 false, .call false [] (.o (.c (.v (.bool v37)))) [] [], .as 71 false, .call false [9] (.o (.c (.v (.int .i64 v40.1)))) [(9, .row 74 4 (v40.2.map Booking.enc))] [], .call false [] (.o (.c (.v (.int .i64 v42)))) [] [], .as 79 false, .as 82 false, .call false [] (.o (.agg [.sl 13, .sl 14, .v (.int .i64 v46.Change)])) [] [(13, .row 89 6 (v46.Legs.map Leg.enc)), (14, .row 3 1 (v46.Off.map encI))], .call false [] (.o (.c (.sl 15))) [] [(15, .row 74 4 (v48.map Booking.enc))], .call false [] (.o (.c (.sl 16))) [] [(16, .row 74 4 (v50.map Booking.enc))], .call false [] (.o (.c (.v (.bool v52)))) [] [], .as 93 false, .call false [] (.o (.c (.v (.int .i64 v55)))) [] [], .as 98 false, .as 101 false] [] [] [] (And.intro (laws_szNetwork_ok a0 1048576 v1 h2) (And.intro h3 (And.intro (laws_szBookingS_ok a1 v1 v4 h5) (And.intro h6 (And.intro (And.intro (con_sw 1001 2 (con_sw 1000 1 (laws_toNetwork_ok a0 v7 h8))) (rfl : ([] : List Nat) = [])) (And.intro (And.intro (con_sw 1000 3 (laws_toBookingS_ok a1 v9 h10)) (rfl : ([] : List Nat) = [])) (And.intro (And.intro (con_sw 1000 4 (spec_DropFrom_ok v7 v9 a2 a3 v11 h12)) (rfl : ([] : List Nat) = [])) (And.intro (And.intro (con_sw 1001 6 (con_sw 1000 5 (laws_toNetwork_ok a0 v13 h14))) (rfl : ([] : List Nat) = [])) (And.intro (And.intro (con_sw 1000 8 (laws_toBookingS_ok a1 v15 h16)) (rfl : ([] : List Nat) = [])) (And.intro (And.intro (con_sw 1000 9 (impl_DropFrom_ok v13 v15 a2 a3 v17 h18)) (rfl : ([] : List Nat) = [])) (And.intro (laws_eqBookingS_ok v17 v11 v19 h20) (And.intro h21 (And.intro (And.intro (con_sw 1001 11 (con_sw 1000 10 (laws_toNetwork_ok a0 v22 h23))) (rfl : ([] : List Nat) = [])) (And.intro (laws_eqNetwork_ok v13 v22 v24 h25) (And.intro (rfl : (laws_FnExactDropFrom_x1 a0 a1 a2 a3 v11 v13 v15 v17 v24) = (laws_FnExactDropFrom_x1 a0 a1 a2 a3 v11 v13 v15 v17 v24)) (And.intro (And.intro (con_sw 1001 11 (con_sw 1000 10 (laws_toNetwork_ok a0 v22 h23))) (rfl : ([] : List Nat) = [])) (And.intro (laws_eqNetwork_ok v13 v22 v24 h25) (And.intro (rfl : (laws_FnExactDropFrom_x1 a0 a1 a2 a3 v11 v13 v15 v17 v24) = (laws_FnExactDropFrom_x1 a0 a1 a2 a3 v11 v13 v15 v17 v24)) (And.intro (And.intro (con_sw 1001 11 (con_sw 1000 10 (laws_toNetwork_ok a0 v22 h23))) (rfl : ([] : List Nat) = [])) (And.intro (laws_eqNetwork_ok v13 v22 v24 h25) (And.intro (rfl : (laws_FnExactDropFrom_x1 a0 a1 a2 a3 v11 v13 v15 v17 v24) = (laws_FnExactDropFrom_x1 a0 a1 a2 a3 v11 v13 v15 v17 v24)) (And.intro h26 (And.intro (And.intro (con_sw 1000 12 (laws_toBookingS_ok a1 v27 h28)) (rfl : ([] : List Nat) = [])) (And.intro (laws_eqBookingS_ok v15 v27 v29 h30) (And.intro h31 (And.intro (And.intro (con_sw 920 6 (con_sw 900 5 (laws_markNetwork_ok v13 1 v32 h33))) (rfl : ([5, 6] : List Nat) = [5, 6])) (And.intro (And.intro (con_sw 900 8 (laws_markBookingS_ok v15 v32.1 v34 h35)) (rfl : ([8] : List Nat) = [8])) (And.intro h36 (And.intro (laws_eqBookingS_ok v17 v11 v37 h38) (And.intro h39 (And.intro (And.intro (con_sw 900 9 (laws_markBookingS_ok v17 1 v40 h41)) (rfl : ([9] : List Nat) = [9])) (And.intro (laws_heldBookingS_ok v40.2 1 v42 h43) (And.intro h44 (And.intro h45 (And.intro (And.intro (con_sw 1001 14 (con_sw 1000 13 (laws_toNetwork_ok a0 v46 h47))) (rfl : ([] : List Nat) = [])) (And.intro (And.intro (con_sw 1000 15 (laws_toBookingS_ok a1 v48 h49)) (rfl : ([] : List Nat) = [])) (And.intro (And.intro (con_sw 1000 16 (impl_DropFrom_ok v46 v48 a2 a3 v50 h51)) (rfl : ([] : List Nat) = [])) (And.intro (laws_eqBookingS_ok v50 v11 v52 h53) (And.intro h54 (And.intro (laws_heldBookingS_ok v40.2 1 v55 h56) (And.intro h57 (And.intro h58 True.intro)))))))))))))))))))))))))))))))))))))))))) (by kernel_rfl)
end Go.Sx
