/- The functions of the program as plain Lean, and that each runs so (printed by wip/gen). -/
import Derived.Test.YtnefegnodjaldaaGlW1
namespace Go.Sx
open Go.Proofs
set_option linter.unusedVariables false
set_option maxRecDepth 100000

-- loop.example/g03014/spec.l6Any
def spec_l6Any (a0 : l1Cur) (a1 : Network) : Option ((List Booking) × l1Cur) :=
  (spec_l6Draw a0 a1 6).bind fun v1 =>
  bif ((v1.1.length : Int) == 0) then
  some v1
  else
  (spec_l1Below v1.2 (v1.1.length : Int)).bind fun v4 =>
  (spec_l1Below v4.2 9).bind fun v6 =>
  bif (v6.1 == 0) then
  (spec_l1Int v6.2 ([0, 1, 60000, 1000001, (-1)] : List Int)).bind fun v9 =>
  (gi v1.1 v4.1).bind fun v11 =>
  some (List.set v1.1 (Int.toNat v4.1) (Booking.mk v11.Thing v11.Trip v9.1), v9.2)
  else
  bif (v6.1 == 1) then
  (spec_l1Int v6.2 ([0, 1, 9999, 10000] : List Int)).bind fun v14 =>
  (gi v1.1 v4.1).bind fun v16 =>
  some (List.set v1.1 (Int.toNat v4.1) (Booking.mk v14.1 v16.Trip v16.Weight), v14.2)
  else
  bif (v6.1 == 2) then
  (gi v1.1 v4.1).bind fun v19 =>
  (gi v1.1 v4.1).bind fun v21 =>
  some (List.set v1.1 (Int.toNat v4.1) (Booking.mk v21.Thing (Trip.mk v21.Trip.Leg (w64 (v19.Trip.Day + 1))) v21.Weight), v6.2)
  else
  bif (v6.1 == 3) then
  (gi v1.1 v4.1).bind fun v24 =>
  (ap 32 v1.1 ([v24] : List Booking)).bind fun v26 =>
  some (v26, v6.2)
  else
  bif (v6.1 == 4) then
  (spec_l1Int v6.2 ([(-1), (a1.Legs.length : Int), 0] : List Int)).bind fun v29 =>
  (gi v1.1 v4.1).bind fun v31 =>
  some (List.set v1.1 (Int.toNat v4.1) (Booking.mk v31.Thing (Trip.mk v29.1 v31.Trip.Day) v31.Weight), v29.2)
  else
  some (v1.1, v6.2)
theorem spec_l6Any_ok (a0 : l1Cur) (a1 : Network) (r : (List Booking) × l1Cur) (hM : spec_l6Any a0 a1 = some r) :
    Con Try.prog 53 [.c (.ptr 900 0), .agg [.sl 901, .sl 921, .v (.int .i64 a1.Change)]] [(900, .box 112 [.rs 1 (a0.b.map encU8), .v (.int .i64 a0.i), .v (.int .i64 a0.h)]), (901, .row 66 6 (a1.Legs.map Leg.enc)), (921, .row 3 1 (a1.Off.map encI))] (.o (.c (.sl 1000))) [(900, .box 112 [.rs 1 (r.2.b.map encU8), .v (.int .i64 r.2.i), .v (.int .i64 r.2.h)]), (901, .row 66 6 (a1.Legs.map Leg.enc)), (921, .row 3 1 (a1.Off.map encI))] [(1000, .row 118 4 (r.1.map Booking.enc))] := by
  unfold spec_l6Any at hM
  refine cn (N := 75) (pids := [900, 901, 921]) Try_mixed Try.func53 (by kernel_rfl) (by kernel_rfl) (by kernel_rfl) rfl fun ρ g w R => ?_
  obtain ⟨v1, h2, hM⟩ := bind_some hM
  rcases cond_cases hM with ⟨h3, hM⟩ | ⟨h3, hM⟩
  · have hE : some v1 = some r := hM
    have hE := Option.some.inj hE
    subst hE
    exact pr R 9999 [.new 0, .ad (.keep [0, 1, 3, 4, 7, 8] [900, 901, 921, 0]), .call true [900, 901, 921] (.o (.c (.sl 1))) [(900, .box 112 [.rs 1 (v1.2.b.map encU8), .v (.int .i64 v1.2.i), .v (.int .i64 v1.2.h)]), (901, .row 66 6 (a1.Legs.map Leg.enc)), (921, .row 3 1 (a1.Off.map encI))] [(1, .row 118 4 (v1.1.map Booking.enc))], .ln (v1.1.length), .as 12 true] [.sw 1 1000] [900, 901, 921] [1000] (And.intro (And.intro (con_sw 921 921 (con_sw 901 901 (con_sw 900 900 (con_sw 1000 1 (spec_l6Draw_ok a0 a1 6 v1 h2))))) (rfl : ([900, 901, 921] : List Nat) = [900, 901, 921])) (And.intro (lenm Booking.enc v1.1) (And.intro h3 True.intro))) (by kernel_rfl)
  · obtain ⟨v4, h5, hM⟩ := bind_some hM
    obtain ⟨v6, h7, hM⟩ := bind_some hM
    rcases cond_cases hM with ⟨h8, hM⟩ | ⟨h8, hM⟩
    · obtain ⟨v9, h10, hM⟩ := bind_some hM
      obtain ⟨v11, h12, hM⟩ := bind_some hM
      have hE : some (List.set v1.1 (Int.toNat v4.1) (Booking.mk v11.Thing v11.Trip v9.1), v9.2) = some r := hM
      have hE := Option.some.inj hE
      subst hE
      exact pr R 9999 [.new 0, .ad (.keep [0, 1, 3, 4, 7, 8] [900, 901, 921, 0]), .call true [900, 901, 921] (.o (.c (.sl 1))) [(900, .box 112 [.rs 1 (v1.2.b.map encU8), .v (.int .i64 v1.2.i), .v (.int .i64 v1.2.h)]), (901, .row 66 6 (a1.Legs.map Leg.enc)), (921, .row 3 1 (a1.Off.map encI))] [(1, .row 118 4 (v1.1.map Booking.enc))], .ln (v1.1.length), .as 12 false, .ln (v1.1.length), .call true [900] (.o (.c (.v (.int .i64 v4.1)))) [(900, .box 112 [.rs 1 (v4.2.b.map encU8), .v (.int .i64 v4.2.i), .v (.int .i64 v4.2.h)])] [], .call true [900] (.o (.c (.v (.int .i64 v6.1)))) [(900, .box 112 [.rs 1 (v6.2.b.map encU8), .v (.int .i64 v6.2.i), .v (.int .i64 v6.2.h)])] [], .as 20 true, .new 2, .ad (.keep [0, 1, 3, 4, 5, 6, 7, 8, 9, 10, 11, 12, 14, 15, 16, 17, 18, 19, 20, 21, 22, 23, 24, 25] [900, 2, 901, 921, 0, 1]), .call true [900, 2] (.o (.c (.v (.int .i64 v9.1)))) [(900, .box 112 [.rs 1 (v9.2.b.map encU8), .v (.int .i64 v9.2.i), .v (.int .i64 v9.2.h)]), (2, .row 3 1 (([0, 1, 60000, 1000001, (-1)] : List Int).map encI))] [], .ix (Booking.enc v11), .nm ((List.set v1.1 (Int.toNat v4.1) (Booking.mk v11.Thing v11.Trip v9.1)).map Booking.enc)] [.sw 1 1000] [900, 901, 921] [1000] (And.intro (And.intro (con_sw 921 921 (con_sw 901 901 (con_sw 900 900 (con_sw 1000 1 (spec_l6Draw_ok a0 a1 6 v1 h2))))) (rfl : ([900, 901, 921] : List Nat) = [900, 901, 921])) (And.intro (lenm Booking.enc v1.1) (And.intro h3 (And.intro (lenm Booking.enc v1.1) (And.intro (And.intro (con_sw 900 900 (spec_l1Below_ok v1.2 (v1.1.length : Int) v4 h5)) (rfl : ([900] : List Nat) = [900])) (And.intro (And.intro (con_sw 900 900 (spec_l1Below_ok v4.2 9 v6 h7)) (rfl : ([900] : List Nat) = [900])) (And.intro h8 (And.intro (And.intro (con_sw 901 2 (con_sw 900 900 (spec_l1Int_ok v6.2 ([0, 1, 60000, 1000001, (-1)] : List Int) v9 h10))) (rfl : ([900, 2] : List Nat) = [900, 2])) (And.intro (gi_lt Booking.enc h12) (And.intro (And.intro (gi_map Booking.enc h12).2 (set_map Booking.enc v1.1 (Int.toNat v4.1) (Booking.mk v11.Thing v11.Trip v9.1))) True.intro)))))))))) (by kernel_rfl)
    · rcases cond_cases hM with ⟨h13, hM⟩ | ⟨h13, hM⟩
      · obtain ⟨v14, h15, hM⟩ := bind_some hM
        obtain ⟨v16, h17, hM⟩ := bind_some hM
        have hE : some (List.set v1.1 (Int.toNat v4.1) (Booking.mk v14.1 v16.Trip v16.Weight), v14.2) = some r := hM
        have hE := Option.some.inj hE
        subst hE
        exact pr R 9999 [.new 0, .ad (.keep [0, 1, 3, 4, 7, 8] [900, 901, 921, 0]), .call true [900, 901, 921] (.o (.c (.sl 1))) [(900, .box 112 [.rs 1 (v1.2.b.map encU8), .v (.int .i64 v1.2.i), .v (.int .i64 v1.2.h)]), (901, .row 66 6 (a1.Legs.map Leg.enc)), (921, .row 3 1 (a1.Off.map encI))] [(1, .row 118 4 (v1.1.map Booking.enc))], .ln (v1.1.length), .as 12 false, .ln (v1.1.length), .call true [900] (.o (.c (.v (.int .i64 v4.1)))) [(900, .box 112 [.rs 1 (v4.2.b.map encU8), .v (.int .i64 v4.2.i), .v (.int .i64 v4.2.h)])] [], .call true [900] (.o (.c (.v (.int .i64 v6.1)))) [(900, .box 112 [.rs 1 (v6.2.b.map encU8), .v (.int .i64 v6.2.i), .v (.int .i64 v6.2.h)])] [], .as 20 false, .as 29 true, .new 3, .ad (.keep [0, 1, 3, 4, 5, 6, 7, 8, 9, 10, 11, 12, 14, 15, 16, 17, 18, 19, 20, 21, 29, 30, 31, 32, 33, 34] [900, 3, 901, 921, 0, 1]), .call true [900, 3] (.o (.c (.v (.int .i64 v14.1)))) [(900, .box 112 [.rs 1 (v14.2.b.map encU8), .v (.int .i64 v14.2.i), .v (.int .i64 v14.2.h)]), (3, .row 3 1 (([0, 1, 9999, 10000] : List Int).map encI))] [], .ix (Booking.enc v16), .nm ((List.set v1.1 (Int.toNat v4.1) (Booking.mk v14.1 v16.Trip v16.Weight)).map Booking.enc)] [.sw 1 1000] [900, 901, 921] [1000] (And.intro (And.intro (con_sw 921 921 (con_sw 901 901 (con_sw 900 900 (con_sw 1000 1 (spec_l6Draw_ok a0 a1 6 v1 h2))))) (rfl : ([900, 901, 921] : List Nat) = [900, 901, 921])) (And.intro (lenm Booking.enc v1.1) (And.intro h3 (And.intro (lenm Booking.enc v1.1) (And.intro (And.intro (con_sw 900 900 (spec_l1Below_ok v1.2 (v1.1.length : Int) v4 h5)) (rfl : ([900] : List Nat) = [900])) (And.intro (And.intro (con_sw 900 900 (spec_l1Below_ok v4.2 9 v6 h7)) (rfl : ([900] : List Nat) = [900])) (And.intro h8 (And.intro h13 (And.intro (And.intro (con_sw 901 3 (con_sw 900 900 (spec_l1Int_ok v6.2 ([0, 1, 9999, 10000] : List Int) v14 h15))) (rfl : ([900, 3] : List Nat) = [900, 3])) (And.intro (gi_lt Booking.enc h17) (And.intro (And.intro (gi_map Booking.enc h17).2 (set_map Booking.enc v1.1 (Int.toNat v4.1) (Booking.mk v14.1 v16.Trip v16.Weight))) True.intro))))))))))) (by kernel_rfl)
      · rcases cond_cases hM with ⟨h18, hM⟩ | ⟨h18, hM⟩
        · obtain ⟨v19, h20, hM⟩ := bind_some hM
          obtain ⟨v21, h22, hM⟩ := bind_some hM
          have hE : some (List.set v1.1 (Int.toNat v4.1) (Booking.mk v21.Thing (Trip.mk v21.Trip.Leg (w64 (v19.Trip.Day + 1))) v21.Weight), v6.2) = some r := hM
          have hE := Option.some.inj hE
          subst hE
          exact pr R 9999 [.new 0, .ad (.keep [0, 1, 3, 4, 7, 8] [900, 901, 921, 0]), .call true [900, 901, 921] (.o (.c (.sl 1))) [(900, .box 112 [.rs 1 (v1.2.b.map encU8), .v (.int .i64 v1.2.i), .v (.int .i64 v1.2.h)]), (901, .row 66 6 (a1.Legs.map Leg.enc)), (921, .row 3 1 (a1.Off.map encI))] [(1, .row 118 4 (v1.1.map Booking.enc))], .ln (v1.1.length), .as 12 false, .ln (v1.1.length), .call true [900] (.o (.c (.v (.int .i64 v4.1)))) [(900, .box 112 [.rs 1 (v4.2.b.map encU8), .v (.int .i64 v4.2.i), .v (.int .i64 v4.2.h)])] [], .call true [900] (.o (.c (.v (.int .i64 v6.1)))) [(900, .box 112 [.rs 1 (v6.2.b.map encU8), .v (.int .i64 v6.2.i), .v (.int .i64 v6.2.h)])] [], .as 20 false, .as 29 false, .as 38 true, .ix (Booking.enc v19), .ix (Booking.enc v21), .nm ((List.set v1.1 (Int.toNat v4.1) (Booking.mk v21.Thing (Trip.mk v21.Trip.Leg (w64 (v19.Trip.Day + 1))) v21.Weight)).map Booking.enc)] [.sw 1 1000] [900, 901, 921] [1000] (And.intro (And.intro (con_sw 921 921 (con_sw 901 901 (con_sw 900 900 (con_sw 1000 1 (spec_l6Draw_ok a0 a1 6 v1 h2))))) (rfl : ([900, 901, 921] : List Nat) = [900, 901, 921])) (And.intro (lenm Booking.enc v1.1) (And.intro h3 (And.intro (lenm Booking.enc v1.1) (And.intro (And.intro (con_sw 900 900 (spec_l1Below_ok v1.2 (v1.1.length : Int) v4 h5)) (rfl : ([900] : List Nat) = [900])) (And.intro (And.intro (con_sw 900 900 (spec_l1Below_ok v4.2 9 v6 h7)) (rfl : ([900] : List Nat) = [900])) (And.intro h8 (And.intro h13 (And.intro h18 (And.intro (gi_lt Booking.enc h20) (And.intro ((gi_map Booking.enc h20).2) (And.intro (gi_lt Booking.enc h22) (And.intro (And.intro (gi_map Booking.enc h22).2 (set_map Booking.enc v1.1 (Int.toNat v4.1) (Booking.mk v21.Thing (Trip.mk v21.Trip.Leg (w64 (v19.Trip.Day + 1))) v21.Weight))) True.intro))))))))))))) (by kernel_rfl)
        · rcases cond_cases hM with ⟨h23, hM⟩ | ⟨h23, hM⟩
          · obtain ⟨v24, h25, hM⟩ := bind_some hM
            obtain ⟨v26, h27, hM⟩ := bind_some hM
            have hE : some (v26, v6.2) = some r := hM
            have hE := Option.some.inj hE
            subst hE
            exact pr R 9999 [.new 0, .ad (.keep [0, 1, 3, 4, 7, 8] [900, 901, 921, 0]), .call true [900, 901, 921] (.o (.c (.sl 1))) [(900, .box 112 [.rs 1 (v1.2.b.map encU8), .v (.int .i64 v1.2.i), .v (.int .i64 v1.2.h)]), (901, .row 66 6 (a1.Legs.map Leg.enc)), (921, .row 3 1 (a1.Off.map encI))] [(1, .row 118 4 (v1.1.map Booking.enc))], .ln (v1.1.length), .as 12 false, .ln (v1.1.length), .call true [900] (.o (.c (.v (.int .i64 v4.1)))) [(900, .box 112 [.rs 1 (v4.2.b.map encU8), .v (.int .i64 v4.2.i), .v (.int .i64 v4.2.h)])] [], .call true [900] (.o (.c (.v (.int .i64 v6.1)))) [(900, .box 112 [.rs 1 (v6.2.b.map encU8), .v (.int .i64 v6.2.i), .v (.int .i64 v6.2.h)])] [], .as 20 false, .as 29 false, .as 38 false, .as 52 true, .ix (Booking.enc v24), .new 4, .new 5, .nm (v26.map Booking.enc)] [.sw 5 1000] [900, 901, 921] [1000] (And.intro (And.intro (con_sw 921 921 (con_sw 901 901 (con_sw 900 900 (con_sw 1000 1 (spec_l6Draw_ok a0 a1 6 v1 h2))))) (rfl : ([900, 901, 921] : List Nat) = [900, 901, 921])) (And.intro (lenm Booking.enc v1.1) (And.intro h3 (And.intro (lenm Booking.enc v1.1) (And.intro (And.intro (con_sw 900 900 (spec_l1Below_ok v1.2 (v1.1.length : Int) v4 h5)) (rfl : ([900] : List Nat) = [900])) (And.intro (And.intro (con_sw 900 900 (spec_l1Below_ok v4.2 9 v6 h7)) (rfl : ([900] : List Nat) = [900])) (And.intro h8 (And.intro h13 (And.intro h18 (And.intro h23 (And.intro (gi_lt Booking.enc h25) (And.intro ((gi_map Booking.enc h25).2) (And.intro (ap_ok Booking.enc h27) True.intro))))))))))))) (by kernel_rfl)
          · rcases cond_cases hM with ⟨h28, hM⟩ | ⟨h28, hM⟩
            · obtain ⟨v29, h30, hM⟩ := bind_some hM
              obtain ⟨v31, h32, hM⟩ := bind_some hM
              have hE : some (List.set v1.1 (Int.toNat v4.1) (Booking.mk v31.Thing (Trip.mk v29.1 v31.Trip.Day) v31.Weight), v29.2) = some r := hM
              have hE := Option.some.inj hE
              subst hE
              exact pr R 9999 [.new 0, .ad (.keep [0, 1, 3, 4, 7, 8] [900, 901, 921, 0]), .call true [900, 901, 921] (.o (.c (.sl 1))) [(900, .box 112 [.rs 1 (v1.2.b.map encU8), .v (.int .i64 v1.2.i), .v (.int .i64 v1.2.h)]), (901, .row 66 6 (a1.Legs.map Leg.enc)), (921, .row 3 1 (a1.Off.map encI))] [(1, .row 118 4 (v1.1.map Booking.enc))], .ln (v1.1.length), .as 12 false, .ln (v1.1.length), .call true [900] (.o (.c (.v (.int .i64 v4.1)))) [(900, .box 112 [.rs 1 (v4.2.b.map encU8), .v (.int .i64 v4.2.i), .v (.int .i64 v4.2.h)])] [], .call true [900] (.o (.c (.v (.int .i64 v6.1)))) [(900, .box 112 [.rs 1 (v6.2.b.map encU8), .v (.int .i64 v6.2.i), .v (.int .i64 v6.2.h)])] [], .as 20 false, .as 29 false, .as 38 false, .as 52 false, .as 61 true, .ln (a1.Legs.length), .new 6, .ad (.keep [0, 1, 3, 4, 5, 6, 7, 8, 9, 10, 11, 12, 14, 15, 16, 17, 18, 19, 20, 21, 29, 30, 38, 39, 52, 53, 61, 62, 63, 64, 65, 66, 67, 68, 69] [900, 6, 901, 921, 0, 1]), .call true [900, 6] (.o (.c (.v (.int .i64 v29.1)))) [(900, .box 112 [.rs 1 (v29.2.b.map encU8), .v (.int .i64 v29.2.i), .v (.int .i64 v29.2.h)]), (6, .row 3 1 (([(-1), (a1.Legs.length : Int), 0] : List Int).map encI))] [], .ix (Booking.enc v31), .nm ((List.set v1.1 (Int.toNat v4.1) (Booking.mk v31.Thing (Trip.mk v29.1 v31.Trip.Day) v31.Weight)).map Booking.enc)] [.sw 1 1000] [900, 901, 921] [1000] (And.intro (And.intro (con_sw 921 921 (con_sw 901 901 (con_sw 900 900 (con_sw 1000 1 (spec_l6Draw_ok a0 a1 6 v1 h2))))) (rfl : ([900, 901, 921] : List Nat) = [900, 901, 921])) (And.intro (lenm Booking.enc v1.1) (And.intro h3 (And.intro (lenm Booking.enc v1.1) (And.intro (And.intro (con_sw 900 900 (spec_l1Below_ok v1.2 (v1.1.length : Int) v4 h5)) (rfl : ([900] : List Nat) = [900])) (And.intro (And.intro (con_sw 900 900 (spec_l1Below_ok v4.2 9 v6 h7)) (rfl : ([900] : List Nat) = [900])) (And.intro h8 (And.intro h13 (And.intro h18 (And.intro h23 (And.intro h28 (And.intro (lenm Leg.enc a1.Legs) (And.intro (And.intro (con_sw 901 6 (con_sw 900 900 (spec_l1Int_ok v6.2 ([(-1), (a1.Legs.length : Int), 0] : List Int) v29 h30))) (rfl : ([900, 6] : List Nat) = [900, 6])) (And.intro (gi_lt Booking.enc h32) (And.intro (And.intro (gi_map Booking.enc h32).2 (set_map Booking.enc v1.1 (Int.toNat v4.1) (Booking.mk v31.Thing (Trip.mk v29.1 v31.Trip.Day) v31.Weight))) True.intro))))))))))))))) (by kernel_rfl)
            · have hE : some (v1.1, v6.2) = some r := hM
              have hE := Option.some.inj hE
              subst hE
              exact pr R 9999 [.new 0, .ad (.keep [0, 1, 3, 4, 7, 8] [900, 901, 921, 0]), .call true [900, 901, 921] (.o (.c (.sl 1))) [(900, .box 112 [.rs 1 (v1.2.b.map encU8), .v (.int .i64 v1.2.i), .v (.int .i64 v1.2.h)]), (901, .row 66 6 (a1.Legs.map Leg.enc)), (921, .row 3 1 (a1.Off.map encI))] [(1, .row 118 4 (v1.1.map Booking.enc))], .ln (v1.1.length), .as 12 false, .ln (v1.1.length), .call true [900] (.o (.c (.v (.int .i64 v4.1)))) [(900, .box 112 [.rs 1 (v4.2.b.map encU8), .v (.int .i64 v4.2.i), .v (.int .i64 v4.2.h)])] [], .call true [900] (.o (.c (.v (.int .i64 v6.1)))) [(900, .box 112 [.rs 1 (v6.2.b.map encU8), .v (.int .i64 v6.2.i), .v (.int .i64 v6.2.h)])] [], .as 20 false, .as 29 false, .as 38 false, .as 52 false, .as 61 false] [.sw 1 1000] [900, 901, 921] [1000] (And.intro (And.intro (con_sw 921 921 (con_sw 901 901 (con_sw 900 900 (con_sw 1000 1 (spec_l6Draw_ok a0 a1 6 v1 h2))))) (rfl : ([900, 901, 921] : List Nat) = [900, 901, 921])) (And.intro (lenm Booking.enc v1.1) (And.intro h3 (And.intro (lenm Booking.enc v1.1) (And.intro (And.intro (con_sw 900 900 (spec_l1Below_ok v1.2 (v1.1.length : Int) v4 h5)) (rfl : ([900] : List Nat) = [900])) (And.intro (And.intro (con_sw 900 900 (spec_l1Below_ok v4.2 9 v6 h7)) (rfl : ([900] : List Nat) = [900])) (And.intro h8 (And.intro h13 (And.intro h18 (And.intro h23 (And.intro h28 True.intro))))))))))) (by kernel_rfl)

-- loop.example/g03014/spec.l3Next
def spec_l3Next_L1_b (a0 : Network) (a1 : Int) (a2 : Int) (s1 : Int) : Option (Ctl Int Unit Int) :=
  bif (decide (s1 ≤ 60)) then
  (spec_l3Runs a0 a1 s1).bind fun v3 =>
  bif v3 then
  (spec_l3Starts a0 (Trip.mk a1 s1)).bind fun v6 =>
  bif (decide (v6 ≥ a2)) then
  some (.ret s1)
  else
  some (.next (w64 (s1 + 1)))
  else
  some (.next (w64 (s1 + 1)))
  else
  some (.brk ())
def spec_l3Next_L1 (a0 : Network) (a1 : Int) (a2 : Int) (s : Int) : Option (Ctl Int Unit Int) := spec_l3Next_L1_b a0 a1 a2 s
def spec_l3Next_L1_s (a0 : Network) (a1 : Int) (a2 : Int) (s1 : Int) : St := ⟨[(1, .o (.c (.v (.int .i64 a1)))), (2, .o (.c (.v (.int .i64 a2)))), (3, .o (.c (.ptr 0 0))), (7, .o (.c (.v (.int .i64 s1))))], [(0, .box 32 [.rs 6 (a0.Legs.map Leg.enc), .rs 1 (a0.Off.map encI), .v (.int .i64 a0.Change)])]⟩
def spec_l3Next_L1_S (a0 : Network) (a1 : Int) (a2 : Int) (s : Int) : St := spec_l3Next_L1_s a0 a1 a2 s
def spec_l3Next_L1_a : Option Int :=
  some (-1)
def spec_l3Next_L1_k (x : (Unit) ⊕ (Int)) : Option Int := match x with
  | .inl t => spec_l3Next_L1_a
  | .inr y => some y
def spec_l3Next (a0 : Network) (a1 : Int) (a2 : Int) : Option Int :=
  (loopM (spec_l3Next_L1 a0 a1 a2) big 0).bind (spec_l3Next_L1_k)
theorem spec_l3Next_ok (a0 : Network) (a1 : Int) (a2 : Int) (r : Int) (hM : spec_l3Next a0 a1 a2 = some r) :
    Con Try.prog 75 [.agg [.rs 6 (a0.Legs.map Leg.enc), .rs 1 (a0.Off.map encI), .v (.int .i64 a0.Change)], .c (.v (.int .i64 a1)), .c (.v (.int .i64 a2))] [] (.o (.c (.v (.int .i64 r)))) [] [] := by
  unfold spec_l3Next at hM
  refine cn (N := 26) (pids := []) Try_mixed Try.func75 (by kernel_rfl) (by kernel_rfl) (by kernel_rfl) rfl fun ρ g w R => ?_
  have K1 : ∀ (_ : Unit), spec_l3Next_L1_a = some r → Gr R [.code (cAt Try.f75 [1, 1])] (⟨[], []⟩) := by
    intro _ hM
    unfold spec_l3Next_L1_a at hM
    have hE : some (-1) = some r := hM
    have hE := Option.some.inj hE
    subst hE
    exact pr R 9999 [] [] [] [] True.intro (by kernel_rfl)
  refine pc R 9999 [.new 0] [.keep [1, 2, 3, 7] [0]] (k' := [.code (.loop (cAt Try.f75 [1, 0, 1, 0, 0])), .blk 0, .code (cAt Try.f75 [1, 1])]) (S' := spec_l3Next_L1_S a0 a1 a2 0) True.intro (by kernel_rfl) ?_
  refine lq (spec_l3Next_L1_S a0 a1 a2) (body := spec_l3Next_L1 a0 a1 a2) (k := spec_l3Next_L1_k) hM fun m1 s c1 hM hK1 => ?_
  obtain ⟨s1, hs⟩ : ∃ z, z = s := ⟨_, rfl⟩
  subst hs
  have hM : spec_l3Next_L1_b a0 a1 a2 s1 = some c1 := hM
  unfold spec_l3Next_L1_b at hM
  rcases cond_cases hM with ⟨h2, hM⟩ | ⟨h2, hM⟩
  · obtain ⟨v3, h4, hM⟩ := bind_some hM
    rcases cond_cases hM with ⟨h5, hM⟩ | ⟨h5, hM⟩
    · obtain ⟨v6, h7, hM⟩ := bind_some hM
      rcases cond_cases hM with ⟨h8, hM⟩ | ⟨h8, hM⟩
      · have hE : some (Ctl.ret s1) = some c1 := hM
        have hE := Option.some.inj hE
        subst hE
        have hE : some s1 = some r := hK1
        have hE := Option.some.inj hE
        subst hE
        exact pr R 9999 [.as 9 true, .call false [] (.o (.c (.v (.bool v3)))) [] [], .as 16 true, .call false [] (.o (.c (.v (.int .i64 v6)))) [] [], .as 24 true] [] [] [] (And.intro h2 (And.intro (spec_l3Runs_ok a0 a1 s1 v3 h4) (And.intro h5 (And.intro (spec_l3Starts_ok a0 (Trip.mk a1 s1) v6 h7) (And.intro h8 True.intro))))) (by kernel_rfl)
      · have hE : some (Ctl.next (w64 (s1 + 1))) = some c1 := hM
        have hE := Option.some.inj hE
        subst hE
        exact pc R 9999 [.as 9 true, .call false [] (.o (.c (.v (.bool v3)))) [] [], .as 16 true, .call false [] (.o (.c (.v (.int .i64 v6)))) [] [], .as 24 false] [.keep [1, 2, 3, 7] [0]] (And.intro h2 (And.intro (spec_l3Runs_ok a0 a1 s1 v3 h4) (And.intro h5 (And.intro (spec_l3Starts_ok a0 (Trip.mk a1 s1) v6 h7) (And.intro h8 True.intro))))) (by kernel_rfl) (li (Sf := spec_l3Next_L1_S a0 a1 a2) (M := Mk (spec_l3Next_L1 a0 a1 a2) (spec_l3Next_L1_k) r) (k := [.blk 0, .code (cAt Try.f75 [1, 1])]) (Nat.lt_succ_self m1) hK1)
    · have hE : some (Ctl.next (w64 (s1 + 1))) = some c1 := hM
      have hE := Option.some.inj hE
      subst hE
      exact pc R 9999 [.as 9 true, .call false [] (.o (.c (.v (.bool v3)))) [] [], .as 16 false] [.keep [1, 2, 3, 7] [0]] (And.intro h2 (And.intro (spec_l3Runs_ok a0 a1 s1 v3 h4) (And.intro h5 True.intro))) (by kernel_rfl) (li (Sf := spec_l3Next_L1_S a0 a1 a2) (M := Mk (spec_l3Next_L1 a0 a1 a2) (spec_l3Next_L1_k) r) (k := [.blk 0, .code (cAt Try.f75 [1, 1])]) (Nat.lt_succ_self m1) hK1)
  · have hE : some (Ctl.brk ()) = some c1 := hM
    have hE := Option.some.inj hE
    subst hE
    exact pc R 5 [.as 9 false] [.keep [] []] (And.intro h2 True.intro) (by kernel_rfl) (K1 () hK1)

-- loop.example/g03014/spec.l3Trip
def spec_l3Trip (a0 : l1Cur) (a1 : Network) : Option (Trip × l1Cur) :=
  (spec_l1Below a0 (a1.Legs.length : Int)).bind fun v1 =>
  (spec_l1Below v1.2 10).bind fun v3 =>
  (spec_l3Next a1 ((Trip.mk v1.1 v3.1).Leg) (w64 (((Trip.mk v1.1 v3.1).Day) * 1440))).bind fun v5 =>
  bif (decide (v5 ≥ 0)) then
  (spec_l1Once v3.2 4).bind fun v8 =>
  bif (!v8.1) then
  some ((Trip.mk ((Trip.mk ((Trip.mk v1.1 v3.1).Leg) v5).Leg) ((Trip.mk ((Trip.mk v1.1 v3.1).Leg) v5).Day)), v8.2)
  else
  some ((Trip.mk ((Trip.mk ((Trip.mk v1.1 v3.1).Leg) ((Trip.mk v1.1 v3.1).Day)).Leg) ((Trip.mk ((Trip.mk v1.1 v3.1).Leg) ((Trip.mk v1.1 v3.1).Day)).Day)), v8.2)
  else
  some ((Trip.mk ((Trip.mk ((Trip.mk v1.1 v3.1).Leg) ((Trip.mk v1.1 v3.1).Day)).Leg) ((Trip.mk ((Trip.mk v1.1 v3.1).Leg) ((Trip.mk v1.1 v3.1).Day)).Day)), v3.2)
theorem spec_l3Trip_ok (a0 : l1Cur) (a1 : Network) (r : Trip × l1Cur) (hM : spec_l3Trip a0 a1 = some r) :
    Con Try.prog 89 [.c (.ptr 900 0), .agg [.sl 901, .sl 921, .v (.int .i64 a1.Change)]] [(900, .box 112 [.rs 1 (a0.b.map encU8), .v (.int .i64 a0.i), .v (.int .i64 a0.h)]), (901, .row 66 6 (a1.Legs.map Leg.enc)), (921, .row 3 1 (a1.Off.map encI))] (.o (.c (.v (.agg (Trip.enc r.1).toArray)))) [(900, .box 112 [.rs 1 (r.2.b.map encU8), .v (.int .i64 r.2.i), .v (.int .i64 r.2.h)]), (901, .row 66 6 (a1.Legs.map Leg.enc)), (921, .row 3 1 (a1.Off.map encI))] [] := by
  unfold spec_l3Trip at hM
  refine cn (N := 32) (pids := [900, 901, 921]) Try_mixed Try.func89 (by kernel_rfl) (by kernel_rfl) (by kernel_rfl) rfl fun ρ g w R => ?_
  obtain ⟨v1, h2, hM⟩ := bind_some hM
  obtain ⟨v3, h4, hM⟩ := bind_some hM
  obtain ⟨v5, h6, hM⟩ := bind_some hM
  rcases cond_cases hM with ⟨h7, hM⟩ | ⟨h7, hM⟩
  · obtain ⟨v8, h9, hM⟩ := bind_some hM
    rcases cond_cases hM with ⟨h10, hM⟩ | ⟨h10, hM⟩
    · have hE : some ((Trip.mk ((Trip.mk ((Trip.mk v1.1 v3.1).Leg) v5).Leg) ((Trip.mk ((Trip.mk v1.1 v3.1).Leg) v5).Day)), v8.2) = some r := hM
      have hE := Option.some.inj hE
      subst hE
      exact pr R 9999 [.new 0, .new 1, .ln (a1.Legs.length), .call true [900] (.o (.c (.v (.int .i64 v1.1)))) [(900, .box 112 [.rs 1 (v1.2.b.map encU8), .v (.int .i64 v1.2.i), .v (.int .i64 v1.2.h)])] [], .call true [900] (.o (.c (.v (.int .i64 v3.1)))) [(900, .box 112 [.rs 1 (v3.2.b.map encU8), .v (.int .i64 v3.2.i), .v (.int .i64 v3.2.h)])] [], .new 2, .call false [] (.o (.c (.v (.int .i64 v5)))) [] [], .as 24 true, .call true [900] (.o (.c (.v (.bool v8.1)))) [(900, .box 112 [.rs 1 (v8.2.b.map encU8), .v (.int .i64 v8.2.i), .v (.int .i64 v8.2.h)])] [], .as 28 true] [] [900, 901, 921] [] (And.intro (lenm Leg.enc a1.Legs) (And.intro (And.intro (con_sw 900 900 (spec_l1Below_ok a0 (a1.Legs.length : Int) v1 h2)) (rfl : ([900] : List Nat) = [900])) (And.intro (And.intro (con_sw 900 900 (spec_l1Below_ok v1.2 10 v3 h4)) (rfl : ([900] : List Nat) = [900])) (And.intro (spec_l3Next_ok a1 ((Trip.mk v1.1 v3.1).Leg) (w64 (((Trip.mk v1.1 v3.1).Day) * 1440)) v5 h6) (And.intro h7 (And.intro (And.intro (con_sw 900 900 (spec_l1Once_ok v3.2 4 v8 h9)) (rfl : ([900] : List Nat) = [900])) (And.intro h10 True.intro))))))) (by kernel_rfl)
    · have hE : some ((Trip.mk ((Trip.mk ((Trip.mk v1.1 v3.1).Leg) ((Trip.mk v1.1 v3.1).Day)).Leg) ((Trip.mk ((Trip.mk v1.1 v3.1).Leg) ((Trip.mk v1.1 v3.1).Day)).Day)), v8.2) = some r := hM
      have hE := Option.some.inj hE
      subst hE
      exact pr R 9999 [.new 0, .new 1, .ln (a1.Legs.length), .call true [900] (.o (.c (.v (.int .i64 v1.1)))) [(900, .box 112 [.rs 1 (v1.2.b.map encU8), .v (.int .i64 v1.2.i), .v (.int .i64 v1.2.h)])] [], .call true [900] (.o (.c (.v (.int .i64 v3.1)))) [(900, .box 112 [.rs 1 (v3.2.b.map encU8), .v (.int .i64 v3.2.i), .v (.int .i64 v3.2.h)])] [], .new 2, .call false [] (.o (.c (.v (.int .i64 v5)))) [] [], .as 24 true, .call true [900] (.o (.c (.v (.bool v8.1)))) [(900, .box 112 [.rs 1 (v8.2.b.map encU8), .v (.int .i64 v8.2.i), .v (.int .i64 v8.2.h)])] [], .as 28 false] [] [900, 901, 921] [] (And.intro (lenm Leg.enc a1.Legs) (And.intro (And.intro (con_sw 900 900 (spec_l1Below_ok a0 (a1.Legs.length : Int) v1 h2)) (rfl : ([900] : List Nat) = [900])) (And.intro (And.intro (con_sw 900 900 (spec_l1Below_ok v1.2 10 v3 h4)) (rfl : ([900] : List Nat) = [900])) (And.intro (spec_l3Next_ok a1 ((Trip.mk v1.1 v3.1).Leg) (w64 (((Trip.mk v1.1 v3.1).Day) * 1440)) v5 h6) (And.intro h7 (And.intro (And.intro (con_sw 900 900 (spec_l1Once_ok v3.2 4 v8 h9)) (rfl : ([900] : List Nat) = [900])) (And.intro h10 True.intro))))))) (by kernel_rfl)
  · have hE : some ((Trip.mk ((Trip.mk ((Trip.mk v1.1 v3.1).Leg) ((Trip.mk v1.1 v3.1).Day)).Leg) ((Trip.mk ((Trip.mk v1.1 v3.1).Leg) ((Trip.mk v1.1 v3.1).Day)).Day)), v3.2) = some r := hM
    have hE := Option.some.inj hE
    subst hE
    exact pr R 9999 [.new 0, .new 1, .ln (a1.Legs.length), .call true [900] (.o (.c (.v (.int .i64 v1.1)))) [(900, .box 112 [.rs 1 (v1.2.b.map encU8), .v (.int .i64 v1.2.i), .v (.int .i64 v1.2.h)])] [], .call true [900] (.o (.c (.v (.int .i64 v3.1)))) [(900, .box 112 [.rs 1 (v3.2.b.map encU8), .v (.int .i64 v3.2.i), .v (.int .i64 v3.2.h)])] [], .new 2, .call false [] (.o (.c (.v (.int .i64 v5)))) [] [], .as 24 false] [] [900, 901, 921] [] (And.intro (lenm Leg.enc a1.Legs) (And.intro (And.intro (con_sw 900 900 (spec_l1Below_ok a0 (a1.Legs.length : Int) v1 h2)) (rfl : ([900] : List Nat) = [900])) (And.intro (And.intro (con_sw 900 900 (spec_l1Below_ok v1.2 10 v3 h4)) (rfl : ([900] : List Nat) = [900])) (And.intro (spec_l3Next_ok a1 ((Trip.mk v1.1 v3.1).Leg) (w64 (((Trip.mk v1.1 v3.1).Day) * 1440)) v5 h6) (And.intro h7 True.intro))))) (by kernel_rfl)

-- loop.example/g03014/spec.l6Shut
def spec_l6Shut_L1_b (a1 : Network) (s3 : (List Int)) (s4 : Int) (s5 : Int) (s6 : (List Trip)) (s7 : Int) : Option (Ctl ((List Int) × Int × Int × (List Trip) × Int) ((List Int) × Int × Int × (List Trip)) ((List Trip) × l1Cur)) :=
  bif (decide (s7 > 0)) then
  (spec_l3Trip (l1Cur.mk s3 s4 s5) a1).bind fun v13 =>
  (ap 16 s6 ([v13.1] : List Trip)).bind fun v15 =>
  some (.next (v13.2.b, v13.2.i, v13.2.h, v15, w64 (s7 - 1)))
  else
  some (.brk (s3, s4, s5, s6))
def spec_l6Shut_L1 (a1 : Network) (s : (List Int) × Int × Int × (List Trip) × Int) : Option (Ctl ((List Int) × Int × Int × (List Trip) × Int) ((List Int) × Int × Int × (List Trip)) ((List Trip) × l1Cur)) := spec_l6Shut_L1_b a1 s.1 s.2.1 s.2.2.1 s.2.2.2.1 s.2.2.2.2
def spec_l6Shut_L1_s (a1 : Network) (s3 : (List Int)) (s4 : Int) (s5 : Int) (s6 : (List Trip)) (s7 : Int) : St := ⟨[(0, .o (.c (.ptr 900 0))), (1, .o (.agg [.sl 901, .sl 921, .v (.int .i64 a1.Change)])), (3, .o (.c (.ptr 0 0))), (5, .o (.c (.sl 1))), (6, .o (.c (.v (.int .i64 s7))))], [(900, .box 112 [.rs 1 (s3.map encU8), .v (.int .i64 s4), .v (.int .i64 s5)]), (901, .row 66 6 (a1.Legs.map Leg.enc)), (921, .row 3 1 (a1.Off.map encI)), (0, .box 32 [.sl 901, .sl 921, .v (.int .i64 a1.Change)]), (1, .row 46 2 (s6.map Trip.enc))]⟩
def spec_l6Shut_L1_S (a1 : Network) (s : (List Int) × Int × Int × (List Trip) × Int) : St := spec_l6Shut_L1_s a1 s.1 s.2.1 s.2.2.1 s.2.2.2.1 s.2.2.2.2
def spec_l6Shut_L1_a (s8 : (List Int)) (s9 : Int) (s10 : Int) (s11 : (List Trip)) : Option ((List Trip) × l1Cur) :=
  some (s11, (l1Cur.mk s8 s9 s10))
def spec_l6Shut_L1_k (x : ((List Int) × Int × Int × (List Trip)) ⊕ ((List Trip) × l1Cur)) : Option ((List Trip) × l1Cur) := match x with
  | .inl t => spec_l6Shut_L1_a t.1 t.2.1 t.2.2.1 t.2.2.2
  | .inr y => some y
def spec_l6Shut (a0 : l1Cur) (a1 : Network) : Option ((List Trip) × l1Cur) :=
  (spec_l1Below a0 4).bind fun v1 =>
  (loopM (spec_l6Shut_L1 a1) big (v1.2.b, v1.2.i, v1.2.h, ([] : List Trip), v1.1)).bind (spec_l6Shut_L1_k)
theorem spec_l6Shut_ok (a0 : l1Cur) (a1 : Network) (r : (List Trip) × l1Cur) (hM : spec_l6Shut a0 a1 = some r) :
    Con Try.prog 54 [.c (.ptr 900 0), .agg [.sl 901, .sl 921, .v (.int .i64 a1.Change)]] [(900, .box 112 [.rs 1 (a0.b.map encU8), .v (.int .i64 a0.i), .v (.int .i64 a0.h)]), (901, .row 66 6 (a1.Legs.map Leg.enc)), (921, .row 3 1 (a1.Off.map encI))] (.o (.c (.sl 1000))) [(900, .box 112 [.rs 1 (r.2.b.map encU8), .v (.int .i64 r.2.i), .v (.int .i64 r.2.h)]), (901, .row 66 6 (a1.Legs.map Leg.enc)), (921, .row 3 1 (a1.Off.map encI))] [(1000, .row 46 2 (r.1.map Trip.enc))] := by
  unfold spec_l6Shut at hM
  refine cn (N := 21) (pids := [900, 901, 921]) Try_mixed Try.func54 (by kernel_rfl) (by kernel_rfl) (by kernel_rfl) rfl fun ρ g w R => ?_
  obtain ⟨v1, h2, hM⟩ := bind_some hM
  have K1 : ∀ (s8 : (List Int)) (s9 : Int) (s10 : Int) (s11 : (List Trip)), spec_l6Shut_L1_a s8 s9 s10 s11 = some r → Gr R [.code (cAt Try.f54 [1, 1, 1])] (⟨[(0, .o (.c (.ptr 900 0))), (1, .o (.agg [.sl 901, .sl 921, .v (.int .i64 a1.Change)])), (5, .o (.c (.sl 1)))], [(900, .box 112 [.rs 1 (s8.map encU8), .v (.int .i64 s9), .v (.int .i64 s10)]), (901, .row 66 6 (a1.Legs.map Leg.enc)), (921, .row 3 1 (a1.Off.map encI)), (1, .row 46 2 (s11.map Trip.enc))]⟩) := by
    intro s8 s9 s10 s11 hM
    unfold spec_l6Shut_L1_a at hM
    have hE : some (s11, (l1Cur.mk s8 s9 s10)) = some r := hM
    have hE := Option.some.inj hE
    subst hE
    exact pr R 9999 [] [.sw 1 1000] [900, 901, 921] [1000] True.intro (by kernel_rfl)
  refine pc R 9999 [.new 0, .new 1, .call true [900] (.o (.c (.v (.int .i64 v1.1)))) [(900, .box 112 [.rs 1 (v1.2.b.map encU8), .v (.int .i64 v1.2.i), .v (.int .i64 v1.2.h)])] []] [.keep [0, 1, 3, 5, 6] [900, 901, 921, 0, 1]] (k' := [.code (.loop (cAt Try.f54 [1, 1, 0, 1, 0, 0])), .blk 0, .code (cAt Try.f54 [1, 1, 1])]) (S' := spec_l6Shut_L1_S a1 (v1.2.b, v1.2.i, v1.2.h, ([] : List Trip), v1.1)) (And.intro (And.intro (con_sw 900 900 (spec_l1Below_ok a0 4 v1 h2)) (rfl : ([900] : List Nat) = [900])) True.intro) (by kernel_rfl) ?_
  refine lq (spec_l6Shut_L1_S a1) (body := spec_l6Shut_L1 a1) (k := spec_l6Shut_L1_k) hM fun m1 s c1 hM hK1 => ?_
  obtain ⟨s3, s4, s5, s6, s7⟩ := s
  have hM : spec_l6Shut_L1_b a1 s3 s4 s5 s6 s7 = some c1 := hM
  unfold spec_l6Shut_L1_b at hM
  rcases cond_cases hM with ⟨h12, hM⟩ | ⟨h12, hM⟩
  · obtain ⟨v13, h14, hM⟩ := bind_some hM
    obtain ⟨v15, h16, hM⟩ := bind_some hM
    have hE : some (Ctl.next (v13.2.b, v13.2.i, v13.2.h, v15, w64 (s7 - 1))) = some c1 := hM
    have hE := Option.some.inj hE
    subst hE
    exact pc R 9999 [.as 11 true, .ad (.keep [0, 1, 3, 5, 6, 10, 11, 14, 15, 16] [900, 901, 921, 0, 1]), .call true [900, 901, 921] (.o (.c (.v (.agg (Trip.enc v13.1).toArray)))) [(900, .box 112 [.rs 1 (v13.2.b.map encU8), .v (.int .i64 v13.2.i), .v (.int .i64 v13.2.h)]), (901, .row 66 6 (a1.Legs.map Leg.enc)), (921, .row 3 1 (a1.Off.map encI))] [], .new 2, .new 3, .nm (v15.map Trip.enc)] [.sw 3 1, .keep [0, 1, 3, 5, 6] [900, 901, 921, 0, 1]] (And.intro h12 (And.intro (And.intro (con_sw 921 921 (con_sw 901 901 (con_sw 900 900 (spec_l3Trip_ok (l1Cur.mk s3 s4 s5) a1 v13 h14)))) (rfl : ([900, 901, 921] : List Nat) = [900, 901, 921])) (And.intro (ap_ok Trip.enc h16) True.intro))) (by kernel_rfl) (li (Sf := spec_l6Shut_L1_S a1) (M := Mk (spec_l6Shut_L1 a1) (spec_l6Shut_L1_k) r) (k := [.blk 0, .code (cAt Try.f54 [1, 1, 1])]) (Nat.lt_succ_self m1) hK1)
  · have hE : some (Ctl.brk (s3, s4, s5, s6)) = some c1 := hM
    have hE := Option.some.inj hE
    subst hE
    exact pc R 5 [.as 11 false] [.keep [0, 1, 5] [900, 901, 921, 1]] (And.intro h12 True.intro) (by kernel_rfl) (K1 s3 s4 s5 s6 hK1)

-- loop.example/g03014/spec.l1Odd
def spec_l1Odd (a0 : l1Cur) : Option (Int × l1Cur) :=
  (spec_l1Int a0 ([(-1), 0, 1, 2, 255, 1440, 86400, 86401, 999999999, 1000000000, 1000000001, (-1000000001), 9223372036854775807, (-9223372036854775808)] : List Int)).bind fun v1 =>
  some v1
theorem spec_l1Odd_ok (a0 : l1Cur) (r : Int × l1Cur) (hM : spec_l1Odd a0 = some r) :
    Con Try.prog 91 [.c (.ptr 900 0)] [(900, .box 112 [.rs 1 (a0.b.map encU8), .v (.int .i64 a0.i), .v (.int .i64 a0.h)])] (.o (.c (.v (.int .i64 r.1)))) [(900, .box 112 [.rs 1 (r.2.b.map encU8), .v (.int .i64 r.2.i), .v (.int .i64 r.2.h)])] [] := by
  unfold spec_l1Odd at hM
  refine cn (N := 6) (pids := [900]) Try_mixed Try.func91 (by kernel_rfl) (by kernel_rfl) (by kernel_rfl) rfl fun ρ g w R => ?_
  obtain ⟨v1, h2, hM⟩ := bind_some hM
  have hE : some v1 = some r := hM
  have hE := Option.some.inj hE
  subst hE
  exact pr R 9999 [.new 0, .ad (.keep [0, 2, 3, 4] [900, 0]), .call true [900, 0] (.o (.c (.v (.int .i64 v1.1)))) [(900, .box 112 [.rs 1 (v1.2.b.map encU8), .v (.int .i64 v1.2.i), .v (.int .i64 v1.2.h)]), (0, .row 3 1 (([(-1), 0, 1, 2, 255, 1440, 86400, 86401, 999999999, 1000000000, 1000000001, (-1000000001), 9223372036854775807, (-9223372036854775808)] : List Int).map encI))] []] [] [900] [] (And.intro (And.intro (con_sw 901 0 (con_sw 900 900 (spec_l1Int_ok a0 ([(-1), 0, 1, 2, 255, 1440, 86400, 86401, 999999999, 1000000000, 1000000001, (-1000000001), 9223372036854775807, (-9223372036854775808)] : List Int) v1 h2))) (rfl : ([900, 0] : List Nat) = [900, 0])) True.intro) (by kernel_rfl)

-- loop.example/g03014/spec.l4At
def spec_l4At (a0 : l1Cur) : Option (Int × l1Cur) :=
  (spec_l1Once a0 9).bind fun v1 =>
  bif v1.1 then
  (spec_l1Odd v1.2).bind fun v4 =>
  some v4
  else
  (spec_l1Below v1.2 200).bind fun v6 =>
  some (w64 (60 * v6.1), v6.2)
theorem spec_l4At_ok (a0 : l1Cur) (r : Int × l1Cur) (hM : spec_l4At a0 = some r) :
    Con Try.prog 56 [.c (.ptr 900 0)] [(900, .box 112 [.rs 1 (a0.b.map encU8), .v (.int .i64 a0.i), .v (.int .i64 a0.h)])] (.o (.c (.v (.int .i64 r.1)))) [(900, .box 112 [.rs 1 (r.2.b.map encU8), .v (.int .i64 r.2.i), .v (.int .i64 r.2.h)])] [] := by
  unfold spec_l4At at hM
  refine cn (N := 10) (pids := [900]) Try_mixed Try.func56 (by kernel_rfl) (by kernel_rfl) (by kernel_rfl) rfl fun ρ g w R => ?_
  obtain ⟨v1, h2, hM⟩ := bind_some hM
  rcases cond_cases hM with ⟨h3, hM⟩ | ⟨h3, hM⟩
  · obtain ⟨v4, h5, hM⟩ := bind_some hM
    have hE : some v4 = some r := hM
    have hE := Option.some.inj hE
    subst hE
    exact pr R 9999 [.call true [900] (.o (.c (.v (.bool v1.1)))) [(900, .box 112 [.rs 1 (v1.2.b.map encU8), .v (.int .i64 v1.2.i), .v (.int .i64 v1.2.h)])] [], .as 4 true, .call true [900] (.o (.c (.v (.int .i64 v4.1)))) [(900, .box 112 [.rs 1 (v4.2.b.map encU8), .v (.int .i64 v4.2.i), .v (.int .i64 v4.2.h)])] []] [] [900] [] (And.intro (And.intro (con_sw 900 900 (spec_l1Once_ok a0 9 v1 h2)) (rfl : ([900] : List Nat) = [900])) (And.intro h3 (And.intro (And.intro (con_sw 900 900 (spec_l1Odd_ok v1.2 v4 h5)) (rfl : ([900] : List Nat) = [900])) True.intro))) (by kernel_rfl)
  · obtain ⟨v6, h7, hM⟩ := bind_some hM
    have hE : some (w64 (60 * v6.1), v6.2) = some r := hM
    have hE := Option.some.inj hE
    subst hE
    exact pr R 9999 [.call true [900] (.o (.c (.v (.bool v1.1)))) [(900, .box 112 [.rs 1 (v1.2.b.map encU8), .v (.int .i64 v1.2.i), .v (.int .i64 v1.2.h)])] [], .as 4 false, .call true [900] (.o (.c (.v (.int .i64 v6.1)))) [(900, .box 112 [.rs 1 (v6.2.b.map encU8), .v (.int .i64 v6.2.i), .v (.int .i64 v6.2.h)])] []] [] [900] [] (And.intro (And.intro (con_sw 900 900 (spec_l1Once_ok a0 9 v1 h2)) (rfl : ([900] : List Nat) = [900])) (And.intro h3 (And.intro (And.intro (con_sw 900 900 (spec_l1Below_ok v1.2 200 v6 h7)) (rfl : ([900] : List Nat) = [900])) True.intro))) (by kernel_rfl)

-- loop.example/g03014/spec.DrawFindRoom
def spec_DrawFindRoom_x1 (v3 : (Network × l1Cur)) (s12 : (List Booking)) (v13 : ((List Trip) × l1Cur)) (v15 : (ByteArray × l1Cur)) (v17 : (ByteArray × l1Cur)) (v19 : (Int × l1Cur)) (v21 : (Int × l1Cur)) : St := ⟨[(2, .o (.c (.ptr 0 0))), (3, .o (.c (.sl 6))), (4, .o (.c (.sl 7))), (5, .o (.c (.v (.string v15.1)))), (6, .o (.c (.v (.string v17.1)))), (7, .o (.c (.v (.int .i64 v19.1)))), (8, .o (.c (.v (.int .i64 v21.1))))], [(0, .box 32 [.sl 2, .sl 3, .v (.int .i64 v3.1.Change)]), (2, .row 66 6 (v3.1.Legs.map Leg.enc)), (3, .row 3 1 (v3.1.Off.map encI)), (6, .row 118 4 (s12.map Booking.enc)), (7, .row 46 2 (v13.1.map Trip.enc))]⟩
def spec_DrawFindRoom_s1 (v3 : (Network × l1Cur)) (s9 : (List Int)) (s10 : Int) (s11 : Int) (s12 : (List Booking)) : St := ⟨[(2, .o (.c (.ptr 0 0))), (9, .o (.c (.ptr 1 0))), (10, .o (.c (.ptr 4 0))), (11, .o (.c (.sl 6)))], [(0, .box 32 [.v (.slice none 0 0), .v (.slice none 0 0), .v (.int .i64 0)]), (1, .box 112 [.rs 1 (s9.map encU8), .v (.int .i64 s10), .v (.int .i64 s11)]), (4, .box 32 [.sl 2, .sl 3, .v (.int .i64 v3.1.Change)]), (2, .row 66 6 (v3.1.Legs.map Leg.enc)), (3, .row 3 1 (v3.1.Off.map encI)), (6, .row 118 4 (s12.map Booking.enc))]⟩
def spec_DrawFindRoom_o1 (v3 : (Network × l1Cur)) (v13 : ((List Trip) × l1Cur)) (v15 : (ByteArray × l1Cur)) (v17 : (ByteArray × l1Cur)) (v19 : (Int × l1Cur)) (v21 : (Int × l1Cur)) : List (List Orc) := [[], [], [], [], [.ad (.keep [2, 3, 4, 5, 6, 7, 8, 9, 10, 11, 24, 25, 26, 27, 28, 29, 30, 31, 32, 33, 34, 35, 36, 37, 38, 39] [1, 2, 3, 0, 4, 6, 5, 7, 8, 9, 10, 11, 12, 13, 14, 15, 16, 17, 18, 19, 20, 21, 22, 23, 24, 25, 26, 27, 28, 29, 30, 31, 32, 33, 34, 35, 36, 37, 38, 39, 40, 41, 42, 43, 44, 45, 46, 47]), .call true [1, 2, 3] (.o (.c (.sl 7))) [(1, .box 112 [.rs 1 (v13.2.b.map encU8), .v (.int .i64 v13.2.i), .v (.int .i64 v13.2.h)]), (2, .row 66 6 (v3.1.Legs.map Leg.enc)), (3, .row 3 1 (v3.1.Off.map encI))] [(7, .row 46 2 (v13.1.map Trip.enc))]], [], [], [.ad (.keep [2, 3, 4, 5, 6, 7, 8, 9, 10, 11, 24, 25, 26, 27, 28, 29, 30, 31, 32, 33, 34, 35, 36, 37, 38, 39] [1, 2, 3, 0, 4, 6, 7, 5, 8, 9, 10, 11, 12, 13, 14, 15, 16, 17, 18, 19, 20, 21, 22, 23, 24, 25, 26, 27, 28, 29, 30, 31, 32, 33, 34, 35, 36, 37, 38, 39, 40, 41, 42, 43, 44, 45, 46, 47]), .call true [1, 2, 3] (.o (.c (.v (.string v15.1)))) [(1, .box 112 [.rs 1 (v15.2.b.map encU8), .v (.int .i64 v15.2.i), .v (.int .i64 v15.2.h)]), (2, .row 66 6 (v3.1.Legs.map Leg.enc)), (3, .row 3 1 (v3.1.Off.map encI))] []], [], [], [.ad (.keep [2, 3, 4, 5, 6, 7, 8, 9, 10, 11, 24, 25, 26, 27, 28, 29, 30, 31, 32, 33, 34, 35, 36, 37, 38, 39] [1, 2, 3, 0, 4, 6, 7, 5, 8, 9, 10, 11, 12, 13, 14, 15, 16, 17, 18, 19, 20, 21, 22, 23, 24, 25, 26, 27, 28, 29, 30, 31, 32, 33, 34, 35, 36, 37, 38, 39, 40, 41, 42, 43, 44, 45, 46, 47]), .call true [1, 2, 3] (.o (.c (.v (.string v17.1)))) [(1, .box 112 [.rs 1 (v17.2.b.map encU8), .v (.int .i64 v17.2.i), .v (.int .i64 v17.2.h)]), (2, .row 66 6 (v3.1.Legs.map Leg.enc)), (3, .row 3 1 (v3.1.Off.map encI))] []], [], [.call true [1] (.o (.c (.v (.int .i64 v19.1)))) [(1, .box 112 [.rs 1 (v19.2.b.map encU8), .v (.int .i64 v19.2.i), .v (.int .i64 v19.2.h)])] []], [], [.new 8], [.ad (.keep [2, 3, 4, 5, 6, 7, 8, 9, 10, 11, 24, 25, 26, 27, 28, 29, 30, 31, 32, 33, 34, 35, 36, 37, 38, 39] [1, 8, 0, 4, 2, 3, 6, 7, 5, 9, 10, 11, 12, 13, 14, 15, 16, 17, 18, 19, 20, 21, 22, 23, 24, 25, 26, 27, 28, 29, 30, 31, 32, 33, 34, 35, 36, 37, 38, 39, 40, 41, 42, 43, 44, 45, 46, 47, 48]), .call true [1, 8] (.o (.c (.v (.int .i64 v21.1)))) [(1, .box 112 [.rs 1 (v21.2.b.map encU8), .v (.int .i64 v21.2.i), .v (.int .i64 v21.2.h)]), (8, .row 3 1 (([1, 1000, 9000, 30000, 59000, 0] : List Int).map encI))] []], [], [], [], [], [], [], []]
theorem spec_DrawFindRoom_y1 (v3 : (Network × l1Cur)) (s9 : (List Int)) (s10 : Int) (s11 : Int) (s12 : (List Booking)) (v13 : ((List Trip) × l1Cur)) (v15 : (ByteArray × l1Cur)) (v17 : (ByteArray × l1Cur)) (v19 : (Int × l1Cur)) (v21 : (Int × l1Cur)) (L : List Nat) : subX Try.prog [] 40 (opsOf (cAt Try.f17 [1, 1, 1, 1, 1, 0])) (spec_DrawFindRoom_o1 v3 v13 v15 v17 v19 v21) L (spec_DrawFindRoom_s1 v3 s9 s10 s11 s12) = subX Try.prog [] 40 (opsOf (cAt Try.f17 [1, 1, 1, 1, 1, 0])) (spec_DrawFindRoom_o1 v3 v13 v15 v17 v19 v21) L (spec_DrawFindRoom_s1 v3 s9 s10 s11 s12) := rfl
def spec_DrawFindRoom_j2 (v3 : (Network × l1Cur)) (s12 : (List Booking)) (v13 : ((List Trip) × l1Cur)) (v15 : (ByteArray × l1Cur)) (v17 : (ByteArray × l1Cur)) (v19 : (Int × l1Cur)) (v21 : (Int × l1Cur)) : Option (Network × (List Booking) × (List Trip) × ByteArray × ByteArray × Int × Int) :=
  some ((Network.mk v3.1.Legs v3.1.Off v3.1.Change), s12, v13.1, v15.1, v17.1, v19.1, v21.1)
def spec_DrawFindRoom_j1 (v3 : (Network × l1Cur)) (s9 : (List Int)) (s10 : Int) (s11 : Int) (s12 : (List Booking)) : Option (Network × (List Booking) × (List Trip) × ByteArray × ByteArray × Int × Int) :=
  (spec_l6Shut (l1Cur.mk s9 s10 s11) v3.1).bind fun v13 =>
  (spec_l4Of v13.2 v3.1).bind fun v15 =>
  (spec_l4Of v15.2 v3.1).bind fun v17 =>
  (spec_l4At v17.2).bind fun v19 =>
  (spec_l1Int v19.2 ([1, 1000, 9000, 30000, 59000, 0] : List Int)).bind fun v21 =>
  spec_DrawFindRoom_j2 v3 s12 v13 v15 v17 v19 v21
def spec_DrawFindRoom (a0 : (List Int)) : Option (Network × (List Booking) × (List Trip) × ByteArray × ByteArray × Int × Int) :=
  (spec_l1New a0).bind fun v1 =>
  (spec_l3Draw v1 7).bind fun v3 =>
  (spec_l6Draw v3.2 v3.1 9).bind fun v5 =>
  (spec_l1Once v5.2 8).bind fun v7 =>
  bif v7.1 then
  (spec_l6Any v7.2 v3.1).bind fun v24 =>
  spec_DrawFindRoom_j1 v3 v24.2.b v24.2.i v24.2.h v24.1
  else
  spec_DrawFindRoom_j1 v3 v7.2.b v7.2.i v7.2.h v5.1
theorem spec_DrawFindRoom_ok (a0 : (List Int)) (r : Network × (List Booking) × (List Trip) × ByteArray × ByteArray × Int × Int) (hM : spec_DrawFindRoom a0 = some r) :
    Con Try.prog 17 [.c (.rs 1 (a0.map encU8))] [] (.tup [.agg [.sl 1000, .sl 1001, .v (.int .i64 r.1.Change)], .c (.sl 1002), .c (.sl 1003), .c (.v (.string r.2.2.2.1)), .c (.v (.string r.2.2.2.2.1)), .c (.v (.int .i64 r.2.2.2.2.2.1)), .c (.v (.int .i64 r.2.2.2.2.2.2))]) [] [(1000, .row 66 6 (r.1.Legs.map Leg.enc)), (1001, .row 3 1 (r.1.Off.map encI)), (1002, .row 118 4 (r.2.1.map Booking.enc)), (1003, .row 46 2 (r.2.2.1.map Trip.enc))] := by
  unfold spec_DrawFindRoom at hM
  refine cn (N := 40) (pids := []) Try_mixed Try.func17 (by kernel_rfl) (by kernel_rfl) (by kernel_rfl) rfl fun ρ g w R => ?_
  obtain ⟨v1, h2, hM⟩ := bind_some hM
  obtain ⟨v3, h4, hM⟩ := bind_some hM
  obtain ⟨v5, h6, hM⟩ := bind_some hM
  obtain ⟨v7, h8, hM⟩ := bind_some hM
  have J2 : ∀ (s9 : (List Int)) (s10 : Int) (s11 : Int) (s12 : (List Booking)), spec_DrawFindRoom_j1 v3 s9 s10 s11 s12 = some r → Gr R [.code (cAt Try.f17 [1, 1, 1, 1, 1])] (⟨[(2, .o (.c (.ptr 0 0))), (9, .o (.c (.ptr 1 0))), (10, .o (.c (.ptr 4 0))), (11, .o (.c (.sl 6)))], [(0, .box 32 [.v (.slice none 0 0), .v (.slice none 0 0), .v (.int .i64 0)]), (1, .box 112 [.rs 1 (s9.map encU8), .v (.int .i64 s10), .v (.int .i64 s11)]), (4, .box 32 [.sl 2, .sl 3, .v (.int .i64 v3.1.Change)]), (2, .row 66 6 (v3.1.Legs.map Leg.enc)), (3, .row 3 1 (v3.1.Off.map encI)), (6, .row 118 4 (s12.map Booking.enc))]⟩) := by
    intro s9 s10 s11 s12 hM
    unfold spec_DrawFindRoom_j1 at hM
    obtain ⟨v13, h14, hM⟩ := bind_some hM
    obtain ⟨v15, h16, hM⟩ := bind_some hM
    obtain ⟨v17, h18, hM⟩ := bind_some hM
    obtain ⟨v19, h20, hM⟩ := bind_some hM
    obtain ⟨v21, h22, hM⟩ := bind_some hM
    have J2 : ∀ (_ : Unit), spec_DrawFindRoom_j2 v3 s12 v13 v15 v17 v19 v21 = some r → Gr R [.code .ret] (spec_DrawFindRoom_x1 v3 s12 v13 v15 v17 v19 v21) := by
      intro _ hM
      unfold spec_DrawFindRoom_j2 at hM
      have hE : some ((Network.mk v3.1.Legs v3.1.Off v3.1.Change), s12, v13.1, v15.1, v17.1, v19.1, v21.1) = some r := hM
      have hE := Option.some.inj hE
      subst hE
      exact pr R 9999 [] [.sw 2 1000, .sw 3 1001, .sw 6 1002, .sw 7 1003] [] [1000, 1001, 1002, 1003] True.intro (by kernel_rfl)
    exact pc R 2 [.xg (spec_DrawFindRoom_o1 v3 v13 v15 v17 v19 v21) [.keep [2, 9, 10, 11] [0, 1, 4, 2, 3, 6]] [.keep [2, 3, 4, 5, 6, 7, 8] [0, 2, 3, 6, 7]] (spec_DrawFindRoom_x1 v3 s12 v13 v15 v17 v19 v21) [[1, 2, 5, 8, 11, 13], [0, 1, 2, 5, 8, 11, 13], [1, 2, 3, 5, 8, 11, 13], [1, 2, 5, 6, 8, 11, 13], [1, 2, 5, 8, 9, 11, 13], [1, 2, 5, 8, 11, 13, 14], [0, 1, 2, 3, 5, 8, 11, 13], [0, 1, 2, 5, 6, 8, 11, 13], [0, 1, 2, 5, 8, 9, 11, 13], [0, 1, 2, 5, 8, 11, 13, 14], [1, 2, 3, 4, 5, 8, 11, 13], [1, 2, 3, 5, 6, 8, 11, 13], [1, 2, 3, 5, 8, 9, 11, 13], [1, 2, 3, 5, 8, 11, 13, 14], [1, 2, 5, 6, 8, 9, 11, 13], [1, 2, 5, 6, 8, 11, 13, 14], [1, 2, 5, 8, 9, 11, 13, 14], [0, 1, 2, 3, 4, 5, 8, 11, 13], [0, 1, 2, 3, 5, 6, 8, 11, 13], [0, 1, 2, 3, 5, 8, 9, 11, 13], [0, 1, 2, 3, 5, 8, 11, 13, 14], [0, 1, 2, 5, 6, 8, 9, 11, 13], [0, 1, 2, 5, 6, 8, 11, 13, 14], [0, 1, 2, 5, 8, 9, 11, 13, 14], [1, 2, 3, 4, 5, 6, 8, 11, 13], [1, 2, 3, 4, 5, 8, 9, 11, 13], [1, 2, 3, 4, 5, 8, 11, 13, 14], [1, 2, 3, 5, 6, 8, 9, 11, 13], [1, 2, 3, 5, 6, 8, 11, 13, 14], [1, 2, 3, 5, 8, 9, 11, 13, 14], [1, 2, 5, 6, 8, 9, 11, 13, 14], [0, 1, 2, 3, 4, 5, 6, 8, 11, 13], [0, 1, 2, 3, 4, 5, 8, 9, 11, 13], [0, 1, 2, 3, 4, 5, 8, 11, 13, 14], [0, 1, 2, 3, 5, 6, 8, 9, 11, 13], [0, 1, 2, 3, 5, 6, 8, 11, 13, 14], [0, 1, 2, 3, 5, 8, 9, 11, 13, 14], [0, 1, 2, 5, 6, 8, 9, 11, 13, 14], [1, 2, 3, 4, 5, 6, 7, 8, 11, 13], [1, 2, 3, 4, 5, 6, 8, 9, 11, 13], [1, 2, 3, 4, 5, 6, 8, 11, 13, 14], [1, 2, 3, 4, 5, 8, 9, 11, 13, 14], [1, 2, 3, 5, 6, 8, 9, 11, 13, 14], [0, 1, 2, 3, 4, 5, 6, 7, 8, 11, 13], [0, 1, 2, 3, 4, 5, 6, 8, 9, 11, 13], [0, 1, 2, 3, 4, 5, 6, 8, 11, 13, 14], [0, 1, 2, 3, 4, 5, 8, 9, 11, 13, 14], [0, 1, 2, 3, 5, 6, 8, 9, 11, 13, 14], [1, 2, 3, 4, 5, 6, 7, 8, 9, 11, 13], [1, 2, 3, 4, 5, 6, 7, 8, 11, 13, 14], [1, 2, 3, 4, 5, 6, 8, 9, 11, 13, 14], [0, 1, 2, 3, 4, 5, 6, 7, 8, 9, 11, 13], [0, 1, 2, 3, 4, 5, 6, 7, 8, 11, 13, 14], [0, 1, 2, 3, 4, 5, 6, 8, 9, 11, 13, 14], [1, 2, 3, 4, 5, 6, 7, 8, 9, 10, 11, 13], [1, 2, 3, 4, 5, 6, 7, 8, 9, 11, 13, 14], [0, 1, 2, 3, 4, 5, 6, 7, 8, 9, 10, 11, 13], [0, 1, 2, 3, 4, 5, 6, 7, 8, 9, 11, 13, 14], [1, 2, 3, 4, 5, 6, 7, 8, 9, 10, 11, 12, 13], [1, 2, 3, 4, 5, 6, 7, 8, 9, 10, 11, 13, 14], [0, 1, 2, 3, 4, 5, 6, 7, 8, 9, 10, 11, 12, 13], [0, 1, 2, 3, 4, 5, 6, 7, 8, 9, 10, 11, 13, 14], [1, 2, 3, 4, 5, 6, 7, 8, 9, 10, 11, 12, 13, 14], [0, 1, 2, 3, 4, 5, 6, 7, 8, 9, 10, 11, 12, 13, 14], [1, 2, 3, 4, 5, 6, 7, 8, 9, 10, 11, 12, 13, 14, 15], [0, 1, 2, 3, 4, 5, 6, 7, 8, 9, 10, 11, 12, 13, 14, 15]]] [] (And.intro (spec_DrawFindRoom_y1 v3 s9 s10 s11 s12 v13 v15 v17 v19 v21 [1, 2, 5, 8, 11, 13]) (And.intro (spec_DrawFindRoom_y1 v3 s9 s10 s11 s12 v13 v15 v17 v19 v21 [0, 1, 2, 5, 8, 11, 13]) (And.intro (spec_DrawFindRoom_y1 v3 s9 s10 s11 s12 v13 v15 v17 v19 v21 [1, 2, 3, 5, 8, 11, 13]) (And.intro (spec_DrawFindRoom_y1 v3 s9 s10 s11 s12 v13 v15 v17 v19 v21 [1, 2, 5, 6, 8, 11, 13]) (And.intro (spec_DrawFindRoom_y1 v3 s9 s10 s11 s12 v13 v15 v17 v19 v21 [1, 2, 5, 8, 9, 11, 13]) (And.intro (spec_DrawFindRoom_y1 v3 s9 s10 s11 s12 v13 v15 v17 v19 v21 [1, 2, 5, 8, 11, 13, 14]) (And.intro (spec_DrawFindRoom_y1 v3 s9 s10 s11 s12 v13 v15 v17 v19 v21 [0, 1, 2, 3, 5, 8, 11, 13]) (And.intro (spec_DrawFindRoom_y1 v3 s9 s10 s11 s12 v13 v15 v17 v19 v21 [0, 1, 2, 5, 6, 8, 11, 13]) (And.intro (spec_DrawFindRoom_y1 v3 s9 s10 s11 s12 v13 v15 v17 v19 v21 [0, 1, 2, 5, 8, 9, 11, 13]) (And.intro (spec_DrawFindRoom_y1 v3 s9 s10 s11 s12 v13 v15 v17 v19 v21 [0, 1, 2, 5, 8, 11, 13, 14]) (And.intro (spec_DrawFindRoom_y1 v3 s9 s10 s11 s12 v13 v15 v17 v19 v21 [0, 1, 2, 3, 5, 8, 11, 13]) (And.intro (And.intro (con_sw 921 3 (con_sw 901 2 (con_sw 900 1 (con_sw 1000 7 (spec_l6Shut_ok (l1Cur.mk s9 s10 s11) v3.1 v13 h14))))) (rfl : ([1, 2, 3] : List Nat) = [1, 2, 3])) (And.intro (spec_DrawFindRoom_y1 v3 s9 s10 s11 s12 v13 v15 v17 v19 v21 [1, 2, 3, 4, 5, 8, 11, 13]) (And.intro (spec_DrawFindRoom_y1 v3 s9 s10 s11 s12 v13 v15 v17 v19 v21 [1, 2, 3, 5, 6, 8, 11, 13]) (And.intro (spec_DrawFindRoom_y1 v3 s9 s10 s11 s12 v13 v15 v17 v19 v21 [1, 2, 3, 5, 8, 9, 11, 13]) (And.intro (spec_DrawFindRoom_y1 v3 s9 s10 s11 s12 v13 v15 v17 v19 v21 [1, 2, 3, 5, 8, 11, 13, 14]) (And.intro (spec_DrawFindRoom_y1 v3 s9 s10 s11 s12 v13 v15 v17 v19 v21 [0, 1, 2, 5, 6, 8, 11, 13]) (And.intro (spec_DrawFindRoom_y1 v3 s9 s10 s11 s12 v13 v15 v17 v19 v21 [1, 2, 3, 5, 6, 8, 11, 13]) (And.intro (spec_DrawFindRoom_y1 v3 s9 s10 s11 s12 v13 v15 v17 v19 v21 [1, 2, 5, 6, 8, 9, 11, 13]) (And.intro (spec_DrawFindRoom_y1 v3 s9 s10 s11 s12 v13 v15 v17 v19 v21 [1, 2, 5, 6, 8, 11, 13, 14]) (And.intro (spec_DrawFindRoom_y1 v3 s9 s10 s11 s12 v13 v15 v17 v19 v21 [0, 1, 2, 5, 8, 9, 11, 13]) (And.intro (spec_DrawFindRoom_y1 v3 s9 s10 s11 s12 v13 v15 v17 v19 v21 [1, 2, 3, 5, 8, 9, 11, 13]) (And.intro (spec_DrawFindRoom_y1 v3 s9 s10 s11 s12 v13 v15 v17 v19 v21 [1, 2, 5, 6, 8, 9, 11, 13]) (And.intro (spec_DrawFindRoom_y1 v3 s9 s10 s11 s12 v13 v15 v17 v19 v21 [1, 2, 5, 8, 9, 11, 13, 14]) (And.intro (spec_DrawFindRoom_y1 v3 s9 s10 s11 s12 v13 v15 v17 v19 v21 [0, 1, 2, 5, 8, 11, 13, 14]) (And.intro (spec_DrawFindRoom_y1 v3 s9 s10 s11 s12 v13 v15 v17 v19 v21 [1, 2, 3, 5, 8, 11, 13, 14]) (And.intro (spec_DrawFindRoom_y1 v3 s9 s10 s11 s12 v13 v15 v17 v19 v21 [1, 2, 5, 6, 8, 11, 13, 14]) (And.intro (spec_DrawFindRoom_y1 v3 s9 s10 s11 s12 v13 v15 v17 v19 v21 [1, 2, 5, 8, 9, 11, 13, 14]) (And.intro (And.intro (con_sw 921 3 (con_sw 901 2 (con_sw 900 1 (con_sw 1000 7 (spec_l6Shut_ok (l1Cur.mk s9 s10 s11) v3.1 v13 h14))))) (rfl : ([1, 2, 3] : List Nat) = [1, 2, 3])) (And.intro (spec_DrawFindRoom_y1 v3 s9 s10 s11 s12 v13 v15 v17 v19 v21 [0, 1, 2, 3, 4, 5, 8, 11, 13]) (And.intro (spec_DrawFindRoom_y1 v3 s9 s10 s11 s12 v13 v15 v17 v19 v21 [0, 1, 2, 3, 5, 6, 8, 11, 13]) (And.intro (spec_DrawFindRoom_y1 v3 s9 s10 s11 s12 v13 v15 v17 v19 v21 [0, 1, 2, 3, 5, 8, 9, 11, 13]) (And.intro (spec_DrawFindRoom_y1 v3 s9 s10 s11 s12 v13 v15 v17 v19 v21 [0, 1, 2, 3, 5, 8, 11, 13, 14]) (And.intro (spec_DrawFindRoom_y1 v3 s9 s10 s11 s12 v13 v15 v17 v19 v21 [0, 1, 2, 3, 5, 6, 8, 11, 13]) (And.intro (spec_DrawFindRoom_y1 v3 s9 s10 s11 s12 v13 v15 v17 v19 v21 [0, 1, 2, 5, 6, 8, 9, 11, 13]) (And.intro (spec_DrawFindRoom_y1 v3 s9 s10 s11 s12 v13 v15 v17 v19 v21 [0, 1, 2, 5, 6, 8, 11, 13, 14]) (And.intro (spec_DrawFindRoom_y1 v3 s9 s10 s11 s12 v13 v15 v17 v19 v21 [0, 1, 2, 3, 5, 8, 9, 11, 13]) (And.intro (spec_DrawFindRoom_y1 v3 s9 s10 s11 s12 v13 v15 v17 v19 v21 [0, 1, 2, 5, 6, 8, 9, 11, 13]) (And.intro (spec_DrawFindRoom_y1 v3 s9 s10 s11 s12 v13 v15 v17 v19 v21 [0, 1, 2, 5, 8, 9, 11, 13, 14]) (And.intro (spec_DrawFindRoom_y1 v3 s9 s10 s11 s12 v13 v15 v17 v19 v21 [0, 1, 2, 3, 5, 8, 11, 13, 14]) (And.intro (spec_DrawFindRoom_y1 v3 s9 s10 s11 s12 v13 v15 v17 v19 v21 [0, 1, 2, 5, 6, 8, 11, 13, 14]) (And.intro (spec_DrawFindRoom_y1 v3 s9 s10 s11 s12 v13 v15 v17 v19 v21 [0, 1, 2, 5, 8, 9, 11, 13, 14]) (And.intro (spec_DrawFindRoom_y1 v3 s9 s10 s11 s12 v13 v15 v17 v19 v21 [0, 1, 2, 3, 4, 5, 8, 11, 13]) (And.intro (spec_DrawFindRoom_y1 v3 s9 s10 s11 s12 v13 v15 v17 v19 v21 [1, 2, 3, 4, 5, 6, 8, 11, 13]) (And.intro (spec_DrawFindRoom_y1 v3 s9 s10 s11 s12 v13 v15 v17 v19 v21 [1, 2, 3, 4, 5, 8, 9, 11, 13]) (And.intro (spec_DrawFindRoom_y1 v3 s9 s10 s11 s12 v13 v15 v17 v19 v21 [1, 2, 3, 4, 5, 8, 11, 13, 14]) (And.intro (spec_DrawFindRoom_y1 v3 s9 s10 s11 s12 v13 v15 v17 v19 v21 [0, 1, 2, 3, 5, 6, 8, 11, 13]) (And.intro (And.intro (con_sw 921 3 (con_sw 901 2 (con_sw 900 1 (con_sw 1000 7 (spec_l6Shut_ok (l1Cur.mk s9 s10 s11) v3.1 v13 h14))))) (rfl : ([1, 2, 3] : List Nat) = [1, 2, 3])) (And.intro (spec_DrawFindRoom_y1 v3 s9 s10 s11 s12 v13 v15 v17 v19 v21 [1, 2, 3, 4, 5, 6, 8, 11, 13]) (And.intro (spec_DrawFindRoom_y1 v3 s9 s10 s11 s12 v13 v15 v17 v19 v21 [1, 2, 3, 5, 6, 8, 9, 11, 13]) (And.intro (spec_DrawFindRoom_y1 v3 s9 s10 s11 s12 v13 v15 v17 v19 v21 [1, 2, 3, 5, 6, 8, 11, 13, 14]) (And.intro (spec_DrawFindRoom_y1 v3 s9 s10 s11 s12 v13 v15 v17 v19 v21 [0, 1, 2, 3, 5, 8, 9, 11, 13]) (And.intro (And.intro (con_sw 921 3 (con_sw 901 2 (con_sw 900 1 (con_sw 1000 7 (spec_l6Shut_ok (l1Cur.mk s9 s10 s11) v3.1 v13 h14))))) (rfl : ([1, 2, 3] : List Nat) = [1, 2, 3])) (And.intro (spec_DrawFindRoom_y1 v3 s9 s10 s11 s12 v13 v15 v17 v19 v21 [1, 2, 3, 4, 5, 8, 9, 11, 13]) (And.intro (spec_DrawFindRoom_y1 v3 s9 s10 s11 s12 v13 v15 v17 v19 v21 [1, 2, 3, 5, 6, 8, 9, 11, 13]) (And.intro (spec_DrawFindRoom_y1 v3 s9 s10 s11 s12 v13 v15 v17 v19 v21 [1, 2, 3, 5, 8, 9, 11, 13, 14]) (And.intro (spec_DrawFindRoom_y1 v3 s9 s10 s11 s12 v13 v15 v17 v19 v21 [0, 1, 2, 3, 5, 8, 11, 13, 14]) (And.intro (And.intro (con_sw 921 3 (con_sw 901 2 (con_sw 900 1 (con_sw 1000 7 (spec_l6Shut_ok (l1Cur.mk s9 s10 s11) v3.1 v13 h14))))) (rfl : ([1, 2, 3] : List Nat) = [1, 2, 3])) (And.intro (spec_DrawFindRoom_y1 v3 s9 s10 s11 s12 v13 v15 v17 v19 v21 [1, 2, 3, 4, 5, 8, 11, 13, 14]) (And.intro (spec_DrawFindRoom_y1 v3 s9 s10 s11 s12 v13 v15 v17 v19 v21 [1, 2, 3, 5, 6, 8, 11, 13, 14]) (And.intro (spec_DrawFindRoom_y1 v3 s9 s10 s11 s12 v13 v15 v17 v19 v21 [1, 2, 3, 5, 8, 9, 11, 13, 14]) (And.intro (spec_DrawFindRoom_y1 v3 s9 s10 s11 s12 v13 v15 v17 v19 v21 [0, 1, 2, 5, 6, 8, 9, 11, 13]) (And.intro (spec_DrawFindRoom_y1 v3 s9 s10 s11 s12 v13 v15 v17 v19 v21 [1, 2, 3, 5, 6, 8, 9, 11, 13]) (And.intro (spec_DrawFindRoom_y1 v3 s9 s10 s11 s12 v13 v15 v17 v19 v21 [1, 2, 5, 6, 8, 9, 11, 13, 14]) (And.intro (spec_DrawFindRoom_y1 v3 s9 s10 s11 s12 v13 v15 v17 v19 v21 [0, 1, 2, 5, 6, 8, 11, 13, 14]) (And.intro (spec_DrawFindRoom_y1 v3 s9 s10 s11 s12 v13 v15 v17 v19 v21 [1, 2, 3, 5, 6, 8, 11, 13, 14]) (And.intro (spec_DrawFindRoom_y1 v3 s9 s10 s11 s12 v13 v15 v17 v19 v21 [1, 2, 5, 6, 8, 9, 11, 13, 14]) (And.intro (spec_DrawFindRoom_y1 v3 s9 s10 s11 s12 v13 v15 v17 v19 v21 [0, 1, 2, 5, 8, 9, 11, 13, 14]) (And.intro (spec_DrawFindRoom_y1 v3 s9 s10 s11 s12 v13 v15 v17 v19 v21 [1, 2, 3, 5, 8, 9, 11, 13, 14]) (And.intro (spec_DrawFindRoom_y1 v3 s9 s10 s11 s12 v13 v15 v17 v19 v21 [1, 2, 5, 6, 8, 9, 11, 13, 14]) (And.intro (spec_DrawFindRoom_y1 v3 s9 s10 s11 s12 v13 v15 v17 v19 v21 [0, 1, 2, 3, 4, 5, 6, 8, 11, 13]) (And.intro (spec_DrawFindRoom_y1 v3 s9 s10 s11 s12 v13 v15 v17 v19 v21 [0, 1, 2, 3, 4, 5, 8, 9, 11, 13]) (And.intro (spec_DrawFindRoom_y1 v3 s9 s10 s11 s12 v13 v15 v17 v19 v21 [0, 1, 2, 3, 4, 5, 8, 11, 13, 14]) (And.intro (And.intro (con_sw 921 3 (con_sw 901 2 (con_sw 900 1 (con_sw 1000 7 (spec_l6Shut_ok (l1Cur.mk s9 s10 s11) v3.1 v13 h14))))) (rfl : ([1, 2, 3] : List Nat) = [1, 2, 3])) (And.intro (spec_DrawFindRoom_y1 v3 s9 s10 s11 s12 v13 v15 v17 v19 v21 [0, 1, 2, 3, 4, 5, 6, 8, 11, 13]) (And.intro (spec_DrawFindRoom_y1 v3 s9 s10 s11 s12 v13 v15 v17 v19 v21 [0, 1, 2, 3, 5, 6, 8, 9, 11, 13]) (And.intro (spec_DrawFindRoom_y1 v3 s9 s10 s11 s12 v13 v15 v17 v19 v21 [0, 1, 2, 3, 5, 6, 8, 11, 13, 14]) (And.intro (And.intro (con_sw 921 3 (con_sw 901 2 (con_sw 900 1 (con_sw 1000 7 (spec_l6Shut_ok (l1Cur.mk s9 s10 s11) v3.1 v13 h14))))) (rfl : ([1, 2, 3] : List Nat) = [1, 2, 3])) (And.intro (spec_DrawFindRoom_y1 v3 s9 s10 s11 s12 v13 v15 v17 v19 v21 [0, 1, 2, 3, 4, 5, 8, 9, 11, 13]) (And.intro (spec_DrawFindRoom_y1 v3 s9 s10 s11 s12 v13 v15 v17 v19 v21 [0, 1, 2, 3, 5, 6, 8, 9, 11, 13]) (And.intro (spec_DrawFindRoom_y1 v3 s9 s10 s11 s12 v13 v15 v17 v19 v21 [0, 1, 2, 3, 5, 8, 9, 11, 13, 14]) (And.intro (And.intro (con_sw 921 3 (con_sw 901 2 (con_sw 900 1 (con_sw 1000 7 (spec_l6Shut_ok (l1Cur.mk s9 s10 s11) v3.1 v13 h14))))) (rfl : ([1, 2, 3] : List Nat) = [1, 2, 3])) (And.intro (spec_DrawFindRoom_y1 v3 s9 s10 s11 s12 v13 v15 v17 v19 v21 [0, 1, 2, 3, 4, 5, 8, 11, 13, 14]) (And.intro (spec_DrawFindRoom_y1 v3 s9 s10 s11 s12 v13 v15 v17 v19 v21 [0, 1, 2, 3, 5, 6, 8, 11, 13, 14]) (And.intro (spec_DrawFindRoom_y1 v3 s9 s10 s11 s12 v13 v15 v17 v19 v21 [0, 1, 2, 3, 5, 8, 9, 11, 13, 14]) (And.intro (spec_DrawFindRoom_y1 v3 s9 s10 s11 s12 v13 v15 v17 v19 v21 [0, 1, 2, 3, 5, 6, 8, 9, 11, 13]) (And.intro (spec_DrawFindRoom_y1 v3 s9 s10 s11 s12 v13 v15 v17 v19 v21 [0, 1, 2, 5, 6, 8, 9, 11, 13, 14]) (And.intro (spec_DrawFindRoom_y1 v3 s9 s10 s11 s12 v13 v15 v17 v19 v21 [0, 1, 2, 3, 5, 6, 8, 11, 13, 14]) (And.intro (spec_DrawFindRoom_y1 v3 s9 s10 s11 s12 v13 v15 v17 v19 v21 [0, 1, 2, 5, 6, 8, 9, 11, 13, 14]) (And.intro (spec_DrawFindRoom_y1 v3 s9 s10 s11 s12 v13 v15 v17 v19 v21 [0, 1, 2, 3, 5, 8, 9, 11, 13, 14]) (And.intro (spec_DrawFindRoom_y1 v3 s9 s10 s11 s12 v13 v15 v17 v19 v21 [0, 1, 2, 5, 6, 8, 9, 11, 13, 14]) (And.intro (spec_DrawFindRoom_y1 v3 s9 s10 s11 s12 v13 v15 v17 v19 v21 [0, 1, 2, 3, 4, 5, 6, 8, 11, 13]) (And.intro (And.intro (con_sw 921 3 (con_sw 901 2 (con_sw 900 1 (spec_l4Of_ok v13.2 v3.1 v15 h16)))) (rfl : ([1, 2, 3] : List Nat) = [1, 2, 3])) (And.intro (spec_DrawFindRoom_y1 v3 s9 s10 s11 s12 v13 v15 v17 v19 v21 [1, 2, 3, 4, 5, 6, 7, 8, 11, 13]) (And.intro (spec_DrawFindRoom_y1 v3 s9 s10 s11 s12 v13 v15 v17 v19 v21 [1, 2, 3, 4, 5, 6, 8, 9, 11, 13]) (And.intro (spec_DrawFindRoom_y1 v3 s9 s10 s11 s12 v13 v15 v17 v19 v21 [1, 2, 3, 4, 5, 6, 8, 11, 13, 14]) (And.intro (spec_DrawFindRoom_y1 v3 s9 s10 s11 s12 v13 v15 v17 v19 v21 [0, 1, 2, 3, 4, 5, 8, 9, 11, 13]) (And.intro (spec_DrawFindRoom_y1 v3 s9 s10 s11 s12 v13 v15 v17 v19 v21 [1, 2, 3, 4, 5, 6, 8, 9, 11, 13]) (And.intro (spec_DrawFindRoom_y1 v3 s9 s10 s11 s12 v13 v15 v17 v19 v21 [1, 2, 3, 4, 5, 8, 9, 11, 13, 14]) (And.intro (spec_DrawFindRoom_y1 v3 s9 s10 s11 s12 v13 v15 v17 v19 v21 [0, 1, 2, 3, 4, 5, 8, 11, 13, 14]) (And.intro (spec_DrawFindRoom_y1 v3 s9 s10 s11 s12 v13 v15 v17 v19 v21 [1, 2, 3, 4, 5, 6, 8, 11, 13, 14]) (And.intro (spec_DrawFindRoom_y1 v3 s9 s10 s11 s12 v13 v15 v17 v19 v21 [1, 2, 3, 4, 5, 8, 9, 11, 13, 14]) (And.intro (spec_DrawFindRoom_y1 v3 s9 s10 s11 s12 v13 v15 v17 v19 v21 [0, 1, 2, 3, 5, 6, 8, 9, 11, 13]) (And.intro (And.intro (con_sw 921 3 (con_sw 901 2 (con_sw 900 1 (con_sw 1000 7 (spec_l6Shut_ok (l1Cur.mk s9 s10 s11) v3.1 v13 h14))))) (rfl : ([1, 2, 3] : List Nat) = [1, 2, 3])) (And.intro (spec_DrawFindRoom_y1 v3 s9 s10 s11 s12 v13 v15 v17 v19 v21 [1, 2, 3, 4, 5, 6, 8, 9, 11, 13]) (And.intro (spec_DrawFindRoom_y1 v3 s9 s10 s11 s12 v13 v15 v17 v19 v21 [1, 2, 3, 5, 6, 8, 9, 11, 13, 14]) (And.intro (spec_DrawFindRoom_y1 v3 s9 s10 s11 s12 v13 v15 v17 v19 v21 [0, 1, 2, 3, 5, 6, 8, 11, 13, 14]) (And.intro (And.intro (con_sw 921 3 (con_sw 901 2 (con_sw 900 1 (con_sw 1000 7 (spec_l6Shut_ok (l1Cur.mk s9 s10 s11) v3.1 v13 h14))))) (rfl : ([1, 2, 3] : List Nat) = [1, 2, 3])) (And.intro (spec_DrawFindRoom_y1 v3 s9 s10 s11 s12 v13 v15 v17 v19 v21 [1, 2, 3, 4, 5, 6, 8, 11, 13, 14]) (And.intro (spec_DrawFindRoom_y1 v3 s9 s10 s11 s12 v13 v15 v17 v19 v21 [1, 2, 3, 5, 6, 8, 9, 11, 13, 14]) (And.intro (spec_DrawFindRoom_y1 v3 s9 s10 s11 s12 v13 v15 v17 v19 v21 [0, 1, 2, 3, 5, 8, 9, 11, 13, 14]) (And.intro (And.intro (con_sw 921 3 (con_sw 901 2 (con_sw 900 1 (con_sw 1000 7 (spec_l6Shut_ok (l1Cur.mk s9 s10 s11) v3.1 v13 h14))))) (rfl : ([1, 2, 3] : List Nat) = [1, 2, 3])) (And.intro (spec_DrawFindRoom_y1 v3 s9 s10 s11 s12 v13 v15 v17 v19 v21 [1, 2, 3, 4, 5, 8, 9, 11, 13, 14]) (And.intro (spec_DrawFindRoom_y1 v3 s9 s10 s11 s12 v13 v15 v17 v19 v21 [1, 2, 3, 5, 6, 8, 9, 11, 13, 14]) (And.intro (spec_DrawFindRoom_y1 v3 s9 s10 s11 s12 v13 v15 v17 v19 v21 [0, 1, 2, 5, 6, 8, 9, 11, 13, 14]) (And.intro (spec_DrawFindRoom_y1 v3 s9 s10 s11 s12 v13 v15 v17 v19 v21 [1, 2, 3, 5, 6, 8, 9, 11, 13, 14]) (And.intro (And.intro (con_sw 921 3 (con_sw 901 2 (con_sw 900 1 (spec_l4Of_ok v13.2 v3.1 v15 h16)))) (rfl : ([1, 2, 3] : List Nat) = [1, 2, 3])) (And.intro (spec_DrawFindRoom_y1 v3 s9 s10 s11 s12 v13 v15 v17 v19 v21 [0, 1, 2, 3, 4, 5, 6, 7, 8, 11, 13]) (And.intro (spec_DrawFindRoom_y1 v3 s9 s10 s11 s12 v13 v15 v17 v19 v21 [0, 1, 2, 3, 4, 5, 6, 8, 9, 11, 13]) (And.intro (spec_DrawFindRoom_y1 v3 s9 s10 s11 s12 v13 v15 v17 v19 v21 [0, 1, 2, 3, 4, 5, 6, 8, 11, 13, 14]) (And.intro (spec_DrawFindRoom_y1 v3 s9 s10 s11 s12 v13 v15 v17 v19 v21 [0, 1, 2, 3, 4, 5, 6, 8, 9, 11, 13]) (And.intro (spec_DrawFindRoom_y1 v3 s9 s10 s11 s12 v13 v15 v17 v19 v21 [0, 1, 2, 3, 4, 5, 8, 9, 11, 13, 14]) (And.intro (spec_DrawFindRoom_y1 v3 s9 s10 s11 s12 v13 v15 v17 v19 v21 [0, 1, 2, 3, 4, 5, 6, 8, 11, 13, 14]) (And.intro (spec_DrawFindRoom_y1 v3 s9 s10 s11 s12 v13 v15 v17 v19 v21 [0, 1, 2, 3, 4, 5, 8, 9, 11, 13, 14]) (And.intro (And.intro (con_sw 921 3 (con_sw 901 2 (con_sw 900 1 (con_sw 1000 7 (spec_l6Shut_ok (l1Cur.mk s9 s10 s11) v3.1 v13 h14))))) (rfl : ([1, 2, 3] : List Nat) = [1, 2, 3])) (And.intro (spec_DrawFindRoom_y1 v3 s9 s10 s11 s12 v13 v15 v17 v19 v21 [0, 1, 2, 3, 4, 5, 6, 8, 9, 11, 13]) (And.intro (spec_DrawFindRoom_y1 v3 s9 s10 s11 s12 v13 v15 v17 v19 v21 [0, 1, 2, 3, 5, 6, 8, 9, 11, 13, 14]) (And.intro (And.intro (con_sw 921 3 (con_sw 901 2 (con_sw 900 1 (con_sw 1000 7 (spec_l6Shut_ok (l1Cur.mk s9 s10 s11) v3.1 v13 h14))))) (rfl : ([1, 2, 3] : List Nat) = [1, 2, 3])) (And.intro (spec_DrawFindRoom_y1 v3 s9 s10 s11 s12 v13 v15 v17 v19 v21 [0, 1, 2, 3, 4, 5, 6, 8, 11, 13, 14]) (And.intro (spec_DrawFindRoom_y1 v3 s9 s10 s11 s12 v13 v15 v17 v19 v21 [0, 1, 2, 3, 5, 6, 8, 9, 11, 13, 14]) (And.intro (And.intro (con_sw 921 3 (con_sw 901 2 (con_sw 900 1 (con_sw 1000 7 (spec_l6Shut_ok (l1Cur.mk s9 s10 s11) v3.1 v13 h14))))) (rfl : ([1, 2, 3] : List Nat) = [1, 2, 3])) (And.intro (spec_DrawFindRoom_y1 v3 s9 s10 s11 s12 v13 v15 v17 v19 v21 [0, 1, 2, 3, 4, 5, 8, 9, 11, 13, 14]) (And.intro (spec_DrawFindRoom_y1 v3 s9 s10 s11 s12 v13 v15 v17 v19 v21 [0, 1, 2, 3, 5, 6, 8, 9, 11, 13, 14]) (And.intro (spec_DrawFindRoom_y1 v3 s9 s10 s11 s12 v13 v15 v17 v19 v21 [0, 1, 2, 3, 5, 6, 8, 9, 11, 13, 14]) (And.intro (spec_DrawFindRoom_y1 v3 s9 s10 s11 s12 v13 v15 v17 v19 v21 [0, 1, 2, 3, 4, 5, 6, 7, 8, 11, 13]) (And.intro (spec_DrawFindRoom_y1 v3 s9 s10 s11 s12 v13 v15 v17 v19 v21 [1, 2, 3, 4, 5, 6, 7, 8, 9, 11, 13]) (And.intro (spec_DrawFindRoom_y1 v3 s9 s10 s11 s12 v13 v15 v17 v19 v21 [1, 2, 3, 4, 5, 6, 7, 8, 11, 13, 14]) (And.intro (spec_DrawFindRoom_y1 v3 s9 s10 s11 s12 v13 v15 v17 v19 v21 [0, 1, 2, 3, 4, 5, 6, 8, 9, 11, 13]) (And.intro (And.intro (con_sw 921 3 (con_sw 901 2 (con_sw 900 1 (spec_l4Of_ok v13.2 v3.1 v15 h16)))) (rfl : ([1, 2, 3] : List Nat) = [1, 2, 3])) (And.intro (spec_DrawFindRoom_y1 v3 s9 s10 s11 s12 v13 v15 v17 v19 v21 [1, 2, 3, 4, 5, 6, 7, 8, 9, 11, 13]) (And.intro (spec_DrawFindRoom_y1 v3 s9 s10 s11 s12 v13 v15 v17 v19 v21 [1, 2, 3, 4, 5, 6, 8, 9, 11, 13, 14]) (And.intro (spec_DrawFindRoom_y1 v3 s9 s10 s11 s12 v13 v15 v17 v19 v21 [0, 1, 2, 3, 4, 5, 6, 8, 11, 13, 14]) (And.intro (And.intro (con_sw 921 3 (con_sw 901 2 (con_sw 900 1 (spec_l4Of_ok v13.2 v3.1 v15 h16)))) (rfl : ([1, 2, 3] : List Nat) = [1, 2, 3])) (And.intro (spec_DrawFindRoom_y1 v3 s9 s10 s11 s12 v13 v15 v17 v19 v21 [1, 2, 3, 4, 5, 6, 7, 8, 11, 13, 14]) (And.intro (spec_DrawFindRoom_y1 v3 s9 s10 s11 s12 v13 v15 v17 v19 v21 [1, 2, 3, 4, 5, 6, 8, 9, 11, 13, 14]) (And.intro (spec_DrawFindRoom_y1 v3 s9 s10 s11 s12 v13 v15 v17 v19 v21 [0, 1, 2, 3, 4, 5, 8, 9, 11, 13, 14]) (And.intro (spec_DrawFindRoom_y1 v3 s9 s10 s11 s12 v13 v15 v17 v19 v21 [1, 2, 3, 4, 5, 6, 8, 9, 11, 13, 14]) (And.intro (spec_DrawFindRoom_y1 v3 s9 s10 s11 s12 v13 v15 v17 v19 v21 [0, 1, 2, 3, 5, 6, 8, 9, 11, 13, 14]) (And.intro (And.intro (con_sw 921 3 (con_sw 901 2 (con_sw 900 1 (con_sw 1000 7 (spec_l6Shut_ok (l1Cur.mk s9 s10 s11) v3.1 v13 h14))))) (rfl : ([1, 2, 3] : List Nat) = [1, 2, 3])) (And.intro (spec_DrawFindRoom_y1 v3 s9 s10 s11 s12 v13 v15 v17 v19 v21 [1, 2, 3, 4, 5, 6, 8, 9, 11, 13, 14]) (And.intro (spec_DrawFindRoom_y1 v3 s9 s10 s11 s12 v13 v15 v17 v19 v21 [0, 1, 2, 3, 4, 5, 6, 7, 8, 9, 11, 13]) (And.intro (spec_DrawFindRoom_y1 v3 s9 s10 s11 s12 v13 v15 v17 v19 v21 [0, 1, 2, 3, 4, 5, 6, 7, 8, 11, 13, 14]) (And.intro (And.intro (con_sw 921 3 (con_sw 901 2 (con_sw 900 1 (spec_l4Of_ok v13.2 v3.1 v15 h16)))) (rfl : ([1, 2, 3] : List Nat) = [1, 2, 3])) (And.intro (spec_DrawFindRoom_y1 v3 s9 s10 s11 s12 v13 v15 v17 v19 v21 [0, 1, 2, 3, 4, 5, 6, 7, 8, 9, 11, 13]) (And.intro (spec_DrawFindRoom_y1 v3 s9 s10 s11 s12 v13 v15 v17 v19 v21 [0, 1, 2, 3, 4, 5, 6, 8, 9, 11, 13, 14]) (And.intro (And.intro (con_sw 921 3 (con_sw 901 2 (con_sw 900 1 (spec_l4Of_ok v13.2 v3.1 v15 h16)))) (rfl : ([1, 2, 3] : List Nat) = [1, 2, 3])) (And.intro (spec_DrawFindRoom_y1 v3 s9 s10 s11 s12 v13 v15 v17 v19 v21 [0, 1, 2, 3, 4, 5, 6, 7, 8, 11, 13, 14]) (And.intro (spec_DrawFindRoom_y1 v3 s9 s10 s11 s12 v13 v15 v17 v19 v21 [0, 1, 2, 3, 4, 5, 6, 8, 9, 11, 13, 14]) (And.intro (spec_DrawFindRoom_y1 v3 s9 s10 s11 s12 v13 v15 v17 v19 v21 [0, 1, 2, 3, 4, 5, 6, 8, 9, 11, 13, 14]) (And.intro (And.intro (con_sw 921 3 (con_sw 901 2 (con_sw 900 1 (con_sw 1000 7 (spec_l6Shut_ok (l1Cur.mk s9 s10 s11) v3.1 v13 h14))))) (rfl : ([1, 2, 3] : List Nat) = [1, 2, 3])) (And.intro (spec_DrawFindRoom_y1 v3 s9 s10 s11 s12 v13 v15 v17 v19 v21 [0, 1, 2, 3, 4, 5, 6, 8, 9, 11, 13, 14]) (And.intro (spec_DrawFindRoom_y1 v3 s9 s10 s11 s12 v13 v15 v17 v19 v21 [0, 1, 2, 3, 4, 5, 6, 7, 8, 9, 11, 13]) (And.intro (And.intro (con_sw 921 3 (con_sw 901 2 (con_sw 900 1 (spec_l4Of_ok v15.2 v3.1 v17 h18)))) (rfl : ([1, 2, 3] : List Nat) = [1, 2, 3])) (And.intro (spec_DrawFindRoom_y1 v3 s9 s10 s11 s12 v13 v15 v17 v19 v21 [1, 2, 3, 4, 5, 6, 7, 8, 9, 10, 11, 13]) (And.intro (spec_DrawFindRoom_y1 v3 s9 s10 s11 s12 v13 v15 v17 v19 v21 [1, 2, 3, 4, 5, 6, 7, 8, 9, 11, 13, 14]) (And.intro (spec_DrawFindRoom_y1 v3 s9 s10 s11 s12 v13 v15 v17 v19 v21 [0, 1, 2, 3, 4, 5, 6, 7, 8, 11, 13, 14]) (And.intro (spec_DrawFindRoom_y1 v3 s9 s10 s11 s12 v13 v15 v17 v19 v21 [1, 2, 3, 4, 5, 6, 7, 8, 9, 11, 13, 14]) (And.intro (spec_DrawFindRoom_y1 v3 s9 s10 s11 s12 v13 v15 v17 v19 v21 [0, 1, 2, 3, 4, 5, 6, 8, 9, 11, 13, 14]) (And.intro (And.intro (con_sw 921 3 (con_sw 901 2 (con_sw 900 1 (spec_l4Of_ok v13.2 v3.1 v15 h16)))) (rfl : ([1, 2, 3] : List Nat) = [1, 2, 3])) (And.intro (spec_DrawFindRoom_y1 v3 s9 s10 s11 s12 v13 v15 v17 v19 v21 [1, 2, 3, 4, 5, 6, 7, 8, 9, 11, 13, 14]) (And.intro (And.intro (con_sw 921 3 (con_sw 901 2 (con_sw 900 1 (spec_l4Of_ok v15.2 v3.1 v17 h18)))) (rfl : ([1, 2, 3] : List Nat) = [1, 2, 3])) (And.intro (spec_DrawFindRoom_y1 v3 s9 s10 s11 s12 v13 v15 v17 v19 v21 [0, 1, 2, 3, 4, 5, 6, 7, 8, 9, 10, 11, 13]) (And.intro (spec_DrawFindRoom_y1 v3 s9 s10 s11 s12 v13 v15 v17 v19 v21 [0, 1, 2, 3, 4, 5, 6, 7, 8, 9, 11, 13, 14]) (And.intro (spec_DrawFindRoom_y1 v3 s9 s10 s11 s12 v13 v15 v17 v19 v21 [0, 1, 2, 3, 4, 5, 6, 7, 8, 9, 11, 13, 14]) (And.intro (And.intro (con_sw 921 3 (con_sw 901 2 (con_sw 900 1 (spec_l4Of_ok v13.2 v3.1 v15 h16)))) (rfl : ([1, 2, 3] : List Nat) = [1, 2, 3])) (And.intro (spec_DrawFindRoom_y1 v3 s9 s10 s11 s12 v13 v15 v17 v19 v21 [0, 1, 2, 3, 4, 5, 6, 7, 8, 9, 11, 13, 14]) (And.intro (spec_DrawFindRoom_y1 v3 s9 s10 s11 s12 v13 v15 v17 v19 v21 [0, 1, 2, 3, 4, 5, 6, 7, 8, 9, 10, 11, 13]) (And.intro (And.intro (con_sw 900 1 (spec_l4At_ok v17.2 v19 h20)) (rfl : ([1] : List Nat) = [1])) (And.intro (spec_DrawFindRoom_y1 v3 s9 s10 s11 s12 v13 v15 v17 v19 v21 [1, 2, 3, 4, 5, 6, 7, 8, 9, 10, 11, 12, 13]) (And.intro (spec_DrawFindRoom_y1 v3 s9 s10 s11 s12 v13 v15 v17 v19 v21 [1, 2, 3, 4, 5, 6, 7, 8, 9, 10, 11, 13, 14]) (And.intro (spec_DrawFindRoom_y1 v3 s9 s10 s11 s12 v13 v15 v17 v19 v21 [0, 1, 2, 3, 4, 5, 6, 7, 8, 9, 11, 13, 14]) (And.intro (And.intro (con_sw 921 3 (con_sw 901 2 (con_sw 900 1 (spec_l4Of_ok v15.2 v3.1 v17 h18)))) (rfl : ([1, 2, 3] : List Nat) = [1, 2, 3])) (And.intro (spec_DrawFindRoom_y1 v3 s9 s10 s11 s12 v13 v15 v17 v19 v21 [1, 2, 3, 4, 5, 6, 7, 8, 9, 10, 11, 13, 14]) (And.intro (And.intro (con_sw 900 1 (spec_l4At_ok v17.2 v19 h20)) (rfl : ([1] : List Nat) = [1])) (And.intro (spec_DrawFindRoom_y1 v3 s9 s10 s11 s12 v13 v15 v17 v19 v21 [0, 1, 2, 3, 4, 5, 6, 7, 8, 9, 10, 11, 12, 13]) (And.intro (spec_DrawFindRoom_y1 v3 s9 s10 s11 s12 v13 v15 v17 v19 v21 [0, 1, 2, 3, 4, 5, 6, 7, 8, 9, 10, 11, 13, 14]) (And.intro (And.intro (con_sw 921 3 (con_sw 901 2 (con_sw 900 1 (spec_l4Of_ok v15.2 v3.1 v17 h18)))) (rfl : ([1, 2, 3] : List Nat) = [1, 2, 3])) (And.intro (spec_DrawFindRoom_y1 v3 s9 s10 s11 s12 v13 v15 v17 v19 v21 [0, 1, 2, 3, 4, 5, 6, 7, 8, 9, 10, 11, 13, 14]) (And.intro (spec_DrawFindRoom_y1 v3 s9 s10 s11 s12 v13 v15 v17 v19 v21 [0, 1, 2, 3, 4, 5, 6, 7, 8, 9, 10, 11, 12, 13]) (And.intro (spec_DrawFindRoom_y1 v3 s9 s10 s11 s12 v13 v15 v17 v19 v21 [1, 2, 3, 4, 5, 6, 7, 8, 9, 10, 11, 12, 13, 14]) (And.intro (spec_DrawFindRoom_y1 v3 s9 s10 s11 s12 v13 v15 v17 v19 v21 [0, 1, 2, 3, 4, 5, 6, 7, 8, 9, 10, 11, 13, 14]) (And.intro (And.intro (con_sw 900 1 (spec_l4At_ok v17.2 v19 h20)) (rfl : ([1] : List Nat) = [1])) (And.intro (spec_DrawFindRoom_y1 v3 s9 s10 s11 s12 v13 v15 v17 v19 v21 [1, 2, 3, 4, 5, 6, 7, 8, 9, 10, 11, 12, 13, 14]) (And.intro (spec_DrawFindRoom_y1 v3 s9 s10 s11 s12 v13 v15 v17 v19 v21 [0, 1, 2, 3, 4, 5, 6, 7, 8, 9, 10, 11, 12, 13, 14]) (And.intro (And.intro (con_sw 900 1 (spec_l4At_ok v17.2 v19 h20)) (rfl : ([1] : List Nat) = [1])) (And.intro (spec_DrawFindRoom_y1 v3 s9 s10 s11 s12 v13 v15 v17 v19 v21 [0, 1, 2, 3, 4, 5, 6, 7, 8, 9, 10, 11, 12, 13, 14]) (And.intro (spec_DrawFindRoom_y1 v3 s9 s10 s11 s12 v13 v15 v17 v19 v21 [0, 1, 2, 3, 4, 5, 6, 7, 8, 9, 10, 11, 12, 13, 14]) (And.intro (And.intro (con_sw 901 8 (con_sw 900 1 (spec_l1Int_ok v19.2 ([1, 1000, 9000, 30000, 59000, 0] : List Int) v21 h22))) (rfl : ([1, 8] : List Nat) = [1, 8])) (And.intro (spec_DrawFindRoom_y1 v3 s9 s10 s11 s12 v13 v15 v17 v19 v21 [1, 2, 3, 4, 5, 6, 7, 8, 9, 10, 11, 12, 13, 14, 15]) (And.intro (And.intro (con_sw 901 8 (con_sw 900 1 (spec_l1Int_ok v19.2 ([1, 1000, 9000, 30000, 59000, 0] : List Int) v21 h22))) (rfl : ([1, 8] : List Nat) = [1, 8])) (And.intro (spec_DrawFindRoom_y1 v3 s9 s10 s11 s12 v13 v15 v17 v19 v21 [0, 1, 2, 3, 4, 5, 6, 7, 8, 9, 10, 11, 12, 13, 14, 15]) (And.intro (spec_DrawFindRoom_y1 v3 s9 s10 s11 s12 v13 v15 v17 v19 v21 [0, 1, 2, 3, 4, 5, 6, 7, 8, 9, 10, 11, 12, 13, 14, 15]) (And.intro (rfl : (spec_DrawFindRoom_x1 v3 s12 v13 v15 v17 v19 v21) = (spec_DrawFindRoom_x1 v3 s12 v13 v15 v17 v19 v21)) True.intro))))))))))))))))))))))))))))))))))))))))))))))))))))))))))))))))))))))))))))))))))))))))))))))))))))))))))))))))))))))))))))))))))))))))))))))))))))))))))))))))))))))))))))))))))))))))))))))))))))))))))) (by kernel_rfl) (J2 () hM)
  rcases cond_cases hM with ⟨h23, hM⟩ | ⟨h23, hM⟩
  · obtain ⟨v24, h25, hM⟩ := bind_some hM
    exact pc R 13 [.new 0, .call true [] (.o (.c (.ptr 1 0))) [] [(1, .box 112 [.rs 1 (v1.b.map encU8), .v (.int .i64 v1.i), .v (.int .i64 v1.h)])], .call true [1] (.o (.agg [.sl 2, .sl 3, .v (.int .i64 v3.1.Change)])) [(1, .box 112 [.rs 1 (v3.2.b.map encU8), .v (.int .i64 v3.2.i), .v (.int .i64 v3.2.h)])] [(2, .row 66 6 (v3.1.Legs.map Leg.enc)), (3, .row 3 1 (v3.1.Off.map encI))], .new 4, .ad (.keep [0, 2, 3, 4, 5, 6, 7, 8, 9, 10, 12, 13, 14, 15, 16, 17] [1, 2, 3, 0, 4]), .call true [1, 2, 3] (.o (.c (.sl 5))) [(1, .box 112 [.rs 1 (v5.2.b.map encU8), .v (.int .i64 v5.2.i), .v (.int .i64 v5.2.h)]), (2, .row 66 6 (v3.1.Legs.map Leg.enc)), (3, .row 3 1 (v3.1.Off.map encI))] [(5, .row 118 4 (v5.1.map Booking.enc))], .call true [1] (.o (.c (.v (.bool v7.1)))) [(1, .box 112 [.rs 1 (v7.2.b.map encU8), .v (.int .i64 v7.2.i), .v (.int .i64 v7.2.h)])] [], .as 20 true, .ad (.keep [0, 2, 3, 4, 5, 6, 7, 8, 9, 10, 11, 12, 13, 14, 15, 16, 17, 18, 19, 20, 21, 22] [1, 2, 3, 0, 4, 5]), .call true [1, 2, 3] (.o (.c (.sl 9))) [(1, .box 112 [.rs 1 (v24.2.b.map encU8), .v (.int .i64 v24.2.i), .v (.int .i64 v24.2.h)]), (2, .row 66 6 (v3.1.Legs.map Leg.enc)), (3, .row 3 1 (v3.1.Off.map encI))] [(9, .row 118 4 (v24.1.map Booking.enc))]] [.sw 9 6, .keep [2, 9, 10, 11] [0, 1, 4, 2, 3, 6]] (And.intro (And.intro (con_sw 1000 1 (spec_l1New_ok a0 v1 h2)) (rfl : ([] : List Nat) = [])) (And.intro (And.intro (con_sw 900 1 (con_sw 1001 3 (con_sw 1000 2 (spec_l3Draw_ok v1 7 v3 h4)))) (rfl : ([1] : List Nat) = [1])) (And.intro (And.intro (con_sw 921 3 (con_sw 901 2 (con_sw 900 1 (con_sw 1000 5 (spec_l6Draw_ok v3.2 v3.1 9 v5 h6))))) (rfl : ([1, 2, 3] : List Nat) = [1, 2, 3])) (And.intro (And.intro (con_sw 900 1 (spec_l1Once_ok v5.2 8 v7 h8)) (rfl : ([1] : List Nat) = [1])) (And.intro h23 (And.intro (And.intro (con_sw 921 3 (con_sw 901 2 (con_sw 900 1 (con_sw 1000 9 (spec_l6Any_ok v7.2 v3.1 v24 h25))))) (rfl : ([1, 2, 3] : List Nat) = [1, 2, 3])) True.intro)))))) (by kernel_rfl) (J2 v24.2.b v24.2.i v24.2.h v24.1 hM)
  · exact pc R 13 [.new 0, .call true [] (.o (.c (.ptr 1 0))) [] [(1, .box 112 [.rs 1 (v1.b.map encU8), .v (.int .i64 v1.i), .v (.int .i64 v1.h)])], .call true [1] (.o (.agg [.sl 2, .sl 3, .v (.int .i64 v3.1.Change)])) [(1, .box 112 [.rs 1 (v3.2.b.map encU8), .v (.int .i64 v3.2.i), .v (.int .i64 v3.2.h)])] [(2, .row 66 6 (v3.1.Legs.map Leg.enc)), (3, .row 3 1 (v3.1.Off.map encI))], .new 4, .ad (.keep [0, 2, 3, 4, 5, 6, 7, 8, 9, 10, 12, 13, 14, 15, 16, 17] [1, 2, 3, 0, 4]), .call true [1, 2, 3] (.o (.c (.sl 5))) [(1, .box 112 [.rs 1 (v5.2.b.map encU8), .v (.int .i64 v5.2.i), .v (.int .i64 v5.2.h)]), (2, .row 66 6 (v3.1.Legs.map Leg.enc)), (3, .row 3 1 (v3.1.Off.map encI))] [(5, .row 118 4 (v5.1.map Booking.enc))], .call true [1] (.o (.c (.v (.bool v7.1)))) [(1, .box 112 [.rs 1 (v7.2.b.map encU8), .v (.int .i64 v7.2.i), .v (.int .i64 v7.2.h)])] [], .as 20 false] [.sw 5 6, .keep [2, 9, 10, 11] [0, 1, 4, 2, 3, 6]] (And.intro (And.intro (con_sw 1000 1 (spec_l1New_ok a0 v1 h2)) (rfl : ([] : List Nat) = [])) (And.intro (And.intro (con_sw 900 1 (con_sw 1001 3 (con_sw 1000 2 (spec_l3Draw_ok v1 7 v3 h4)))) (rfl : ([1] : List Nat) = [1])) (And.intro (And.intro (con_sw 921 3 (con_sw 901 2 (con_sw 900 1 (con_sw 1000 5 (spec_l6Draw_ok v3.2 v3.1 9 v5 h6))))) (rfl : ([1, 2, 3] : List Nat) = [1, 2, 3])) (And.intro (And.intro (con_sw 900 1 (spec_l1Once_ok v5.2 8 v7 h8)) (rfl : ([1] : List Nat) = [1])) (And.intro h23 True.intro))))) (by kernel_rfl) (J2 v7.2.b v7.2.i v7.2.h v5.1 hM)

-- loop.example/g03014/impl.IsPlace
def impl_IsPlace_L1_b (a0 : ByteArray) (s1 : Int) : Option (Ctl Int Unit Bool) :=
  bif (decide (s1 < (a0.size : Int))) then
  (siM a0 s1).bind fun v3 =>
  bif (decide (v3 < 65)) then
  some (.ret false)
  else
  (siM a0 s1).bind fun v6 =>
  bif (decide (v6 > 90)) then
  some (.ret false)
  else
  some (.next (w64 (s1 + 1)))
  else
  some (.brk ())
def impl_IsPlace_L1 (a0 : ByteArray) (s : Int) : Option (Ctl Int Unit Bool) := impl_IsPlace_L1_b a0 s
def impl_IsPlace_L1_s (a0 : ByteArray) (s1 : Int) : St := ⟨[(0, .o (.c (.v (.string a0)))), (3, .o (.c (.v (.int .i64 s1))))], []⟩
def impl_IsPlace_L1_S (a0 : ByteArray) (s : Int) : St := impl_IsPlace_L1_s a0 s
def impl_IsPlace_L1_a (a0 : ByteArray) : Option Bool :=
  some ((a0.size : Int) == 3)
def impl_IsPlace_L1_k (a0 : ByteArray) (x : (Unit) ⊕ (Bool)) : Option Bool := match x with
  | .inl t => impl_IsPlace_L1_a a0
  | .inr y => some y
def impl_IsPlace (a0 : ByteArray) : Option Bool :=
  (loopM (impl_IsPlace_L1 a0) big 0).bind (impl_IsPlace_L1_k a0)
theorem impl_IsPlace_ok (a0 : ByteArray) (r : Bool) (hM : impl_IsPlace a0 = some r) :
    Con Try.prog 108 [.c (.v (.string a0))] [] (.o (.c (.v (.bool r)))) [] [] := by
  unfold impl_IsPlace at hM
  refine cn (N := 23) (pids := []) Try_mixed Try.func108 (by kernel_rfl) (by kernel_rfl) (by kernel_rfl) rfl fun ρ g w R => ?_
  have K1 : ∀ (_ : Unit), impl_IsPlace_L1_a a0 = some r → Gr R [.code (cAt Try.f108 [1, 1])] (⟨[(0, .o (.c (.v (.string a0))))], []⟩) := by
    intro _ hM
    unfold impl_IsPlace_L1_a at hM
    have hE : some ((a0.size : Int) == 3) = some r := hM
    have hE := Option.some.inj hE
    subst hE
    exact pr R 9999 [] [] [] [] True.intro (by kernel_rfl)
  refine pc R 9999 [] [.keep [0, 3] []] (k' := [.code (.loop (cAt Try.f108 [1, 0, 1, 0, 0])), .blk 0, .code (cAt Try.f108 [1, 1])]) (S' := impl_IsPlace_L1_S a0 0) True.intro (by kernel_rfl) ?_
  refine lq (impl_IsPlace_L1_S a0) (body := impl_IsPlace_L1 a0) (k := impl_IsPlace_L1_k a0) hM fun m1 s c1 hM hK1 => ?_
  obtain ⟨s1, hs⟩ : ∃ z, z = s := ⟨_, rfl⟩
  subst hs
  have hM : impl_IsPlace_L1_b a0 s1 = some c1 := hM
  unfold impl_IsPlace_L1_b at hM
  rcases cond_cases hM with ⟨h2, hM⟩ | ⟨h2, hM⟩
  · obtain ⟨v3, h4, hM⟩ := bind_some hM
    rcases cond_cases hM with ⟨h5, hM⟩ | ⟨h5, hM⟩
    · have hE : some (Ctl.ret false) = some c1 := hM
      have hE := Option.some.inj hE
      subst hE
      have hE : some false = some r := hK1
      have hE := Option.some.inj hE
      subst hE
      exact pr R 9999 [.as 7 true, .ix [.int .u8 v3], .as 14 true] [] [] [] (And.intro h2 (And.intro (siM_ok h4) (And.intro h5 True.intro))) (by kernel_rfl)
    · obtain ⟨v6, h7, hM⟩ := bind_some hM
      rcases cond_cases hM with ⟨h8, hM⟩ | ⟨h8, hM⟩
      · have hE : some (Ctl.ret false) = some c1 := hM
        have hE := Option.some.inj hE
        subst hE
        have hE : some false = some r := hK1
        have hE := Option.some.inj hE
        subst hE
        exact pr R 9999 [.as 7 true, .ix [.int .u8 v3], .as 14 false, .ix [.int .u8 v6], .as 19 true] [] [] [] (And.intro h2 (And.intro (siM_ok h4) (And.intro h5 (And.intro (siM_ok h7) (And.intro h8 True.intro))))) (by kernel_rfl)
      · have hE : some (Ctl.next (w64 (s1 + 1))) = some c1 := hM
        have hE := Option.some.inj hE
        subst hE
        exact pc R 9999 [.as 7 true, .ix [.int .u8 v3], .as 14 false, .ix [.int .u8 v6], .as 19 false] [.keep [0, 3] []] (And.intro h2 (And.intro (siM_ok h4) (And.intro h5 (And.intro (siM_ok h7) (And.intro h8 True.intro))))) (by kernel_rfl) (li (Sf := impl_IsPlace_L1_S a0) (M := Mk (impl_IsPlace_L1 a0) (impl_IsPlace_L1_k a0) r) (k := [.blk 0, .code (cAt Try.f108 [1, 1])]) (Nat.lt_succ_self m1) hK1)
  · have hE : some (Ctl.brk ()) = some c1 := hM
    have hE := Option.some.inj hE
    subst hE
    exact pc R 5 [.as 7 false] [.keep [0] []] (And.intro h2 True.intro) (by kernel_rfl) (K1 () hK1)

-- loop.example/g03014/impl.within
def impl_within (a0 : Int) (a1 : Int) (a2 : Int) : Option Bool :=
  bif (decide (a1 ≤ a0)) then
  some (decide (a0 ≤ a2))
  else
  some false
theorem impl_within_ok (a0 : Int) (a1 : Int) (a2 : Int) (r : Bool) (hM : impl_within a0 a1 a2 = some r) :
    Con Try.prog 80 [.c (.v (.int .i64 a0)), .c (.v (.int .i64 a1)), .c (.v (.int .i64 a2))] [] (.o (.c (.v (.bool r)))) [] [] := by
  unfold impl_within at hM
  refine cn (N := 15) (pids := []) Try_mixed Try.func80 (by kernel_rfl) (by kernel_rfl) (by kernel_rfl) rfl fun ρ g w R => ?_
  rcases cond_cases hM with ⟨h1, hM⟩ | ⟨h1, hM⟩
  · have hE : some (decide (a0 ≤ a2)) = some r := hM
    have hE := Option.some.inj hE
    subst hE
    exact pr R 9999 [.as 10 true] [] [] [] (And.intro h1 True.intro) (by kernel_rfl)
  · have hE : some false = some r := hM
    have hE := Option.some.inj hE
    subst hE
    exact pr R 9999 [.as 10 false] [] [] [] (And.intro h1 True.intro) (by kernel_rfl)

-- loop.example/g03014/impl.IsLeg
def impl_IsLeg (a0 : Leg) : Option Bool :=
  (impl_IsPlace a0.From).bind fun v1 =>
  bif v1 then
  (impl_IsPlace a0.To).bind fun v4 =>
  bif v4 then
  bif (!(a0.From.toList == a0.To.toList)) then
  (impl_within a0.Start 0 1439).bind fun v8 =>
  bif v8 then
  (impl_within a0.Takes 1 4320).bind fun v11 =>
  bif v11 then
  (impl_within a0.Days 1 127).bind fun v14 =>
  bif v14 then
  (impl_within a0.Room 0 1000000).bind fun v17 =>
  some v17
  else
  some false
  else
  some false
  else
  some false
  else
  some false
  else
  some false
  else
  some false
theorem impl_IsLeg_ok (a0 : Leg) (r : Bool) (hM : impl_IsLeg a0 = some r) :
    Con Try.prog 79 [.c (.v (.agg (Leg.enc a0).toArray))] [] (.o (.c (.v (.bool r)))) [] [] := by
  unfold impl_IsLeg at hM
  refine cn (N := 38) (pids := []) Try_mixed Try.func79 (by kernel_rfl) (by kernel_rfl) (by kernel_rfl) rfl fun ρ g w R => ?_
  obtain ⟨v1, h2, hM⟩ := bind_some hM
  rcases cond_cases hM with ⟨h3, hM⟩ | ⟨h3, hM⟩
  · obtain ⟨v4, h5, hM⟩ := bind_some hM
    rcases cond_cases hM with ⟨h6, hM⟩ | ⟨h6, hM⟩
    · rcases cond_cases hM with ⟨h7, hM⟩ | ⟨h7, hM⟩
      · obtain ⟨v8, h9, hM⟩ := bind_some hM
        rcases cond_cases hM with ⟨h10, hM⟩ | ⟨h10, hM⟩
        · obtain ⟨v11, h12, hM⟩ := bind_some hM
          rcases cond_cases hM with ⟨h13, hM⟩ | ⟨h13, hM⟩
          · obtain ⟨v14, h15, hM⟩ := bind_some hM
            rcases cond_cases hM with ⟨h16, hM⟩ | ⟨h16, hM⟩
            · obtain ⟨v17, h18, hM⟩ := bind_some hM
              have hE : some v17 = some r := hM
              have hE := Option.some.inj hE
              subst hE
              exact pr R 9999 [.new 0, .call false [] (.o (.c (.v (.bool v1)))) [] [], .as 6 true, .call false [] (.o (.c (.v (.bool v4)))) [] [], .as 11 true, .as 18 true, .call false [] (.o (.c (.v (.bool v8)))) [] [], .as 23 true, .call false [] (.o (.c (.v (.bool v11)))) [] [], .as 28 true, .call false [] (.o (.c (.v (.bool v14)))) [] [], .as 33 true, .call false [] (.o (.c (.v (.bool v17)))) [] []] [] [] [] (And.intro (impl_IsPlace_ok a0.From v1 h2) (And.intro h3 (And.intro (impl_IsPlace_ok a0.To v4 h5) (And.intro h6 (And.intro h7 (And.intro (impl_within_ok a0.Start 0 1439 v8 h9) (And.intro h10 (And.intro (impl_within_ok a0.Takes 1 4320 v11 h12) (And.intro h13 (And.intro (impl_within_ok a0.Days 1 127 v14 h15) (And.intro h16 (And.intro (impl_within_ok a0.Room 0 1000000 v17 h18) True.intro)))))))))))) (by kernel_rfl)
            · have hE : some false = some r := hM
              have hE := Option.some.inj hE
              subst hE
              exact pr R 9999 [.new 0, .call false [] (.o (.c (.v (.bool v1)))) [] [], .as 6 true, .call false [] (.o (.c (.v (.bool v4)))) [] [], .as 11 true, .as 18 true, .call false [] (.o (.c (.v (.bool v8)))) [] [], .as 23 true, .call false [] (.o (.c (.v (.bool v11)))) [] [], .as 28 true, .call false [] (.o (.c (.v (.bool v14)))) [] [], .as 33 false] [] [] [] (And.intro (impl_IsPlace_ok a0.From v1 h2) (And.intro h3 (And.intro (impl_IsPlace_ok a0.To v4 h5) (And.intro h6 (And.intro h7 (And.intro (impl_within_ok a0.Start 0 1439 v8 h9) (And.intro h10 (And.intro (impl_within_ok a0.Takes 1 4320 v11 h12) (And.intro h13 (And.intro (impl_within_ok a0.Days 1 127 v14 h15) (And.intro h16 True.intro))))))))))) (by kernel_rfl)
          · have hE : some false = some r := hM
            have hE := Option.some.inj hE
            subst hE
            exact pr R 9999 [.new 0, .call false [] (.o (.c (.v (.bool v1)))) [] [], .as 6 true, .call false [] (.o (.c (.v (.bool v4)))) [] [], .as 11 true, .as 18 true, .call false [] (.o (.c (.v (.bool v8)))) [] [], .as 23 true, .call false [] (.o (.c (.v (.bool v11)))) [] [], .as 28 false] [] [] [] (And.intro (impl_IsPlace_ok a0.From v1 h2) (And.intro h3 (And.intro (impl_IsPlace_ok a0.To v4 h5) (And.intro h6 (And.intro h7 (And.intro (impl_within_ok a0.Start 0 1439 v8 h9) (And.intro h10 (And.intro (impl_within_ok a0.Takes 1 4320 v11 h12) (And.intro h13 True.intro))))))))) (by kernel_rfl)
        · have hE : some false = some r := hM
          have hE := Option.some.inj hE
          subst hE
          exact pr R 9999 [.new 0, .call false [] (.o (.c (.v (.bool v1)))) [] [], .as 6 true, .call false [] (.o (.c (.v (.bool v4)))) [] [], .as 11 true, .as 18 true, .call false [] (.o (.c (.v (.bool v8)))) [] [], .as 23 false] [] [] [] (And.intro (impl_IsPlace_ok a0.From v1 h2) (And.intro h3 (And.intro (impl_IsPlace_ok a0.To v4 h5) (And.intro h6 (And.intro h7 (And.intro (impl_within_ok a0.Start 0 1439 v8 h9) (And.intro h10 True.intro))))))) (by kernel_rfl)
      · have hE : some false = some r := hM
        have hE := Option.some.inj hE
        subst hE
        exact pr R 9999 [.new 0, .call false [] (.o (.c (.v (.bool v1)))) [] [], .as 6 true, .call false [] (.o (.c (.v (.bool v4)))) [] [], .as 11 true, .as 18 false] [] [] [] (And.intro (impl_IsPlace_ok a0.From v1 h2) (And.intro h3 (And.intro (impl_IsPlace_ok a0.To v4 h5) (And.intro h6 (And.intro h7 True.intro))))) (by kernel_rfl)
    · have hE : some false = some r := hM
      have hE := Option.some.inj hE
      subst hE
      exact pr R 9999 [.new 0, .call false [] (.o (.c (.v (.bool v1)))) [] [], .as 6 true, .call false [] (.o (.c (.v (.bool v4)))) [] [], .as 11 false] [] [] [] (And.intro (impl_IsPlace_ok a0.From v1 h2) (And.intro h3 (And.intro (impl_IsPlace_ok a0.To v4 h5) (And.intro h6 True.intro)))) (by kernel_rfl)
  · have hE : some false = some r := hM
    have hE := Option.some.inj hE
    subst hE
    exact pr R 9999 [.new 0, .call false [] (.o (.c (.v (.bool v1)))) [] [], .as 6 false] [] [] [] (And.intro (impl_IsPlace_ok a0.From v1 h2) (And.intro h3 True.intro)) (by kernel_rfl)

-- loop.example/g03014/impl.IsNetwork
def impl_IsNetwork_L2_b (a0 : Network) (s2 : Int) : Option (Ctl Int Unit Bool) :=
  bif (decide (s2 < (a0.Off.length : Int))) then
  (gi a0.Off s2).bind fun v8 =>
  (impl_within v8 0 60).bind fun v10 =>
  bif (!v10) then
  some (.ret false)
  else
  bif (decide (s2 > 0)) then
  (gi a0.Off (w64 (s2 - 1))).bind fun v14 =>
  bif (decide (v14 ≥ v8)) then
  some (.ret false)
  else
  some (.next (w64 (s2 + 1)))
  else
  some (.next (w64 (s2 + 1)))
  else
  some (.brk ())
def impl_IsNetwork_L2 (a0 : Network) (s : Int) : Option (Ctl Int Unit Bool) := impl_IsNetwork_L2_b a0 s
def impl_IsNetwork_L2_s (a0 : Network) (s2 : Int) : St := ⟨[(1, .o (.c (.ptr 0 0))), (19, .o (.c (.rs 1 (a0.Off.map encI)))), (20, .o (.c (.v (.int .i64 (a0.Off.length : Int))))), (21, .o (.c (.v (.int .i64 s2))))], [(0, .box 32 [.rs 6 (a0.Legs.map Leg.enc), .rs 1 (a0.Off.map encI), .v (.int .i64 a0.Change)])]⟩
def impl_IsNetwork_L2_S (a0 : Network) (s : Int) : St := impl_IsNetwork_L2_s a0 s
def impl_IsNetwork_L2_a (a0 : Network) : Option Bool :=
  bif (decide ((a0.Legs.length : Int) ≤ 20)) then
  bif (decide ((a0.Off.length : Int) ≤ 10)) then
  (impl_within a0.Change 0 240).bind fun v5 =>
  some v5
  else
  some false
  else
  some false
def impl_IsNetwork_L2_k (a0 : Network) (x : (Unit) ⊕ (Bool)) : Option Bool := match x with
  | .inl t => impl_IsNetwork_L2_a a0
  | .inr y => some y
def impl_IsNetwork_L1_b (a0 : Network) (s1 : Int) : Option (Ctl Int Unit Bool) :=
  bif (decide (s1 < (a0.Legs.length : Int))) then
  (gi a0.Legs s1).bind fun v18 =>
  (impl_IsLeg v18).bind fun v20 =>
  bif (!v20) then
  some (.ret false)
  else
  some (.next (w64 (s1 + 1)))
  else
  some (.brk ())
def impl_IsNetwork_L1 (a0 : Network) (s : Int) : Option (Ctl Int Unit Bool) := impl_IsNetwork_L1_b a0 s
def impl_IsNetwork_L1_s (a0 : Network) (s1 : Int) : St := ⟨[(1, .o (.c (.ptr 0 0))), (8, .o (.c (.rs 6 (a0.Legs.map Leg.enc)))), (9, .o (.c (.v (.int .i64 (a0.Legs.length : Int))))), (10, .o (.c (.v (.int .i64 s1))))], [(0, .box 32 [.rs 6 (a0.Legs.map Leg.enc), .rs 1 (a0.Off.map encI), .v (.int .i64 a0.Change)])]⟩
def impl_IsNetwork_L1_S (a0 : Network) (s : Int) : St := impl_IsNetwork_L1_s a0 s
def impl_IsNetwork_L1_a (a0 : Network) : Option Bool :=
  (loopM (impl_IsNetwork_L2 a0) big 0).bind (impl_IsNetwork_L2_k a0)
def impl_IsNetwork_L1_k (a0 : Network) (x : (Unit) ⊕ (Bool)) : Option Bool := match x with
  | .inl t => impl_IsNetwork_L1_a a0
  | .inr y => some y
def impl_IsNetwork (a0 : Network) : Option Bool :=
  (loopM (impl_IsNetwork_L1 a0) big 0).bind (impl_IsNetwork_L1_k a0)
theorem impl_IsNetwork_ok (a0 : Network) (r : Bool) (hM : impl_IsNetwork a0 = some r) :
    Con Try.prog 41 [.agg [.rs 6 (a0.Legs.map Leg.enc), .rs 1 (a0.Off.map encI), .v (.int .i64 a0.Change)]] [] (.o (.c (.v (.bool r)))) [] [] := by
  unfold impl_IsNetwork at hM
  refine cn (N := 59) (pids := []) Try_mixed Try.func41 (by kernel_rfl) (by kernel_rfl) (by kernel_rfl) rfl fun ρ g w R => ?_
  have K1 : ∀ (_ : Unit), impl_IsNetwork_L1_a a0 = some r → Gr R [.code (cAt Try.f41 [1, 1])] (⟨[(1, .o (.c (.ptr 0 0)))], [(0, .box 32 [.rs 6 (a0.Legs.map Leg.enc), .rs 1 (a0.Off.map encI), .v (.int .i64 a0.Change)])]⟩) := by
    intro _ hM
    unfold impl_IsNetwork_L1_a at hM
    have K2 : ∀ (_ : Unit), impl_IsNetwork_L2_a a0 = some r → Gr R [.code (cAt Try.f41 [1, 1, 1])] (⟨[(1, .o (.c (.ptr 0 0)))], [(0, .box 32 [.rs 6 (a0.Legs.map Leg.enc), .rs 1 (a0.Off.map encI), .v (.int .i64 a0.Change)])]⟩) := by
      intro _ hM
      unfold impl_IsNetwork_L2_a at hM
      rcases cond_cases hM with ⟨h3, hM⟩ | ⟨h3, hM⟩
      · rcases cond_cases hM with ⟨h4, hM⟩ | ⟨h4, hM⟩
        · obtain ⟨v5, h6, hM⟩ := bind_some hM
          have hE : some v5 = some r := hM
          have hE := Option.some.inj hE
          subst hE
          exact pr R 9999 [.ln (a0.Legs.length), .as 48 true, .ln (a0.Off.length), .as 54 true, .call false [] (.o (.c (.v (.bool v5)))) [] []] [] [] [] (And.intro (lenm Leg.enc a0.Legs) (And.intro h3 (And.intro (lenm encI a0.Off) (And.intro h4 (And.intro (impl_within_ok a0.Change 0 240 v5 h6) True.intro))))) (by kernel_rfl)
        · have hE : some false = some r := hM
          have hE := Option.some.inj hE
          subst hE
          exact pr R 9999 [.ln (a0.Legs.length), .as 48 true, .ln (a0.Off.length), .as 54 false] [] [] [] (And.intro (lenm Leg.enc a0.Legs) (And.intro h3 (And.intro (lenm encI a0.Off) (And.intro h4 True.intro)))) (by kernel_rfl)
      · have hE : some false = some r := hM
        have hE := Option.some.inj hE
        subst hE
        exact pr R 9999 [.ln (a0.Legs.length), .as 48 false] [] [] [] (And.intro (lenm Leg.enc a0.Legs) (And.intro h3 True.intro)) (by kernel_rfl)
    refine pc R 9999 [.ln (a0.Off.length)] [.keep [1, 19, 20, 21] [0]] (k' := [.code (.loop (cAt Try.f41 [1, 1, 0, 1, 0, 0])), .blk 2, .code (cAt Try.f41 [1, 1, 1])]) (S' := impl_IsNetwork_L2_S a0 0) (And.intro (lenm encI a0.Off) True.intro) (by kernel_rfl) ?_
    refine lq (impl_IsNetwork_L2_S a0) (body := impl_IsNetwork_L2 a0) (k := impl_IsNetwork_L2_k a0) hM fun m2 s c2 hM hK2 => ?_
    obtain ⟨s2, hs⟩ : ∃ z, z = s := ⟨_, rfl⟩
    subst hs
    have hM : impl_IsNetwork_L2_b a0 s2 = some c2 := hM
    unfold impl_IsNetwork_L2_b at hM
    rcases cond_cases hM with ⟨h7, hM⟩ | ⟨h7, hM⟩
    · obtain ⟨v8, h9, hM⟩ := bind_some hM
      obtain ⟨v10, h11, hM⟩ := bind_some hM
      rcases cond_cases hM with ⟨h12, hM⟩ | ⟨h12, hM⟩
      · have hE : some (Ctl.ret false) = some c2 := hM
        have hE := Option.some.inj hE
        subst hE
        have hE : some false = some r := hK2
        have hE := Option.some.inj hE
        subst hE
        exact pr R 9999 [.as 22 true, .ix (encI v8), .call false [] (.o (.c (.v (.bool v10)))) [] [], .as 29 true] [] [] [] (And.intro h7 (And.intro (gi_map encI h9) (And.intro (impl_within_ok v8 0 60 v10 h11) (And.intro h12 True.intro)))) (by kernel_rfl)
      · rcases cond_cases hM with ⟨h13, hM⟩ | ⟨h13, hM⟩
        · obtain ⟨v14, h15, hM⟩ := bind_some hM
          rcases cond_cases hM with ⟨h16, hM⟩ | ⟨h16, hM⟩
          · have hE : some (Ctl.ret false) = some c2 := hM
            have hE := Option.some.inj hE
            subst hE
            have hE : some false = some r := hK2
            have hE := Option.some.inj hE
            subst hE
            exact pr R 9999 [.as 22 true, .ix (encI v8), .call false [] (.o (.c (.v (.bool v10)))) [] [], .as 29 false, .as 32 true, .ix (encI v14), .as 42 true] [] [] [] (And.intro h7 (And.intro (gi_map encI h9) (And.intro (impl_within_ok v8 0 60 v10 h11) (And.intro h12 (And.intro h13 (And.intro (gi_map encI h15) (And.intro h16 True.intro))))))) (by kernel_rfl)
          · have hE : some (Ctl.next (w64 (s2 + 1))) = some c2 := hM
            have hE := Option.some.inj hE
            subst hE
            exact pc R 9999 [.as 22 true, .ix (encI v8), .call false [] (.o (.c (.v (.bool v10)))) [] [], .as 29 false, .as 32 true, .ix (encI v14), .as 42 false] [.keep [1, 19, 20, 21] [0]] (And.intro h7 (And.intro (gi_map encI h9) (And.intro (impl_within_ok v8 0 60 v10 h11) (And.intro h12 (And.intro h13 (And.intro (gi_map encI h15) (And.intro h16 True.intro))))))) (by kernel_rfl) (li (Sf := impl_IsNetwork_L2_S a0) (M := Mk (impl_IsNetwork_L2 a0) (impl_IsNetwork_L2_k a0) r) (k := [.blk 2, .code (cAt Try.f41 [1, 1, 1])]) (Nat.lt_succ_self m2) hK2)
        · have hE : some (Ctl.next (w64 (s2 + 1))) = some c2 := hM
          have hE := Option.some.inj hE
          subst hE
          exact pc R 9999 [.as 22 true, .ix (encI v8), .call false [] (.o (.c (.v (.bool v10)))) [] [], .as 29 false, .as 32 false] [.keep [1, 19, 20, 21] [0]] (And.intro h7 (And.intro (gi_map encI h9) (And.intro (impl_within_ok v8 0 60 v10 h11) (And.intro h12 (And.intro h13 True.intro))))) (by kernel_rfl) (li (Sf := impl_IsNetwork_L2_S a0) (M := Mk (impl_IsNetwork_L2 a0) (impl_IsNetwork_L2_k a0) r) (k := [.blk 2, .code (cAt Try.f41 [1, 1, 1])]) (Nat.lt_succ_self m2) hK2)
    · have hE : some (Ctl.brk ()) = some c2 := hM
      have hE := Option.some.inj hE
      subst hE
      exact pc R 5 [.as 22 false] [.keep [1] [0]] (And.intro h7 True.intro) (by kernel_rfl) (K2 () hK2)
  refine pc R 9999 [.new 0, .ln (a0.Legs.length)] [.keep [1, 8, 9, 10] [0]] (k' := [.code (.loop (cAt Try.f41 [1, 0, 1, 0, 0])), .blk 0, .code (cAt Try.f41 [1, 1])]) (S' := impl_IsNetwork_L1_S a0 0) (And.intro (lenm Leg.enc a0.Legs) True.intro) (by kernel_rfl) ?_
  refine lq (impl_IsNetwork_L1_S a0) (body := impl_IsNetwork_L1 a0) (k := impl_IsNetwork_L1_k a0) hM fun m1 s c1 hM hK1 => ?_
  obtain ⟨s1, hs⟩ : ∃ z, z = s := ⟨_, rfl⟩
  subst hs
  have hM : impl_IsNetwork_L1_b a0 s1 = some c1 := hM
  unfold impl_IsNetwork_L1_b at hM
  rcases cond_cases hM with ⟨h17, hM⟩ | ⟨h17, hM⟩
  · obtain ⟨v18, h19, hM⟩ := bind_some hM
    obtain ⟨v20, h21, hM⟩ := bind_some hM
    rcases cond_cases hM with ⟨h22, hM⟩ | ⟨h22, hM⟩
    · have hE : some (Ctl.ret false) = some c1 := hM
      have hE := Option.some.inj hE
      subst hE
      have hE : some false = some r := hK1
      have hE := Option.some.inj hE
      subst hE
      exact pr R 9999 [.as 11 true, .ix (Leg.enc v18), .new 1, .call false [] (.o (.c (.v (.bool v20)))) [] [], .as 16 true] [] [] [] (And.intro h17 (And.intro (gi_map Leg.enc h19) (And.intro (impl_IsLeg_ok v18 v20 h21) (And.intro h22 True.intro)))) (by kernel_rfl)
    · have hE : some (Ctl.next (w64 (s1 + 1))) = some c1 := hM
      have hE := Option.some.inj hE
      subst hE
      exact pc R 9999 [.as 11 true, .ix (Leg.enc v18), .new 1, .call false [] (.o (.c (.v (.bool v20)))) [] [], .as 16 false] [.keep [1, 8, 9, 10] [0]] (And.intro h17 (And.intro (gi_map Leg.enc h19) (And.intro (impl_IsLeg_ok v18 v20 h21) (And.intro h22 True.intro)))) (by kernel_rfl) (li (Sf := impl_IsNetwork_L1_S a0) (M := Mk (impl_IsNetwork_L1 a0) (impl_IsNetwork_L1_k a0) r) (k := [.blk 0, .code (cAt Try.f41 [1, 1])]) (Nat.lt_succ_self m1) hK1)
  · have hE : some (Ctl.brk ()) = some c1 := hM
    have hE := Option.some.inj hE
    subst hE
    exact pc R 5 [.as 11 false] [.keep [1] [0]] (And.intro h17 True.intro) (by kernel_rfl) (K1 () hK1)

-- loop.example/g03014/impl.compareInts
def impl_compareInts (a0 : Int) (a1 : Int) : Option Int :=
  bif (decide (a0 < a1)) then
  some (-1)
  else
  bif (decide (a0 > a1)) then
  some 1
  else
  some 0
theorem impl_compareInts_ok (a0 : Int) (a1 : Int) (r : Int) (hM : impl_compareInts a0 a1 = some r) :
    Con Try.prog 115 [.c (.v (.int .i64 a0)), .c (.v (.int .i64 a1))] [] (.o (.c (.v (.int .i64 r)))) [] [] := by
  unfold impl_compareInts at hM
  refine cn (N := 13) (pids := []) Try_mixed Try.func115 (by kernel_rfl) (by kernel_rfl) (by kernel_rfl) rfl fun ρ g w R => ?_
  rcases cond_cases hM with ⟨h1, hM⟩ | ⟨h1, hM⟩
  · have hE : some (-1) = some r := hM
    have hE := Option.some.inj hE
    subst hE
    exact pr R 9999 [.as 5 true] [] [] [] (And.intro h1 True.intro) (by kernel_rfl)
  · rcases cond_cases hM with ⟨h2, hM⟩ | ⟨h2, hM⟩
    · have hE : some 1 = some r := hM
      have hE := Option.some.inj hE
      subst hE
      exact pr R 9999 [.as 5 false, .as 9 true] [] [] [] (And.intro h1 (And.intro h2 True.intro)) (by kernel_rfl)
    · have hE : some 0 = some r := hM
      have hE := Option.some.inj hE
      subst hE
      exact pr R 9999 [.as 5 false, .as 9 false] [] [] [] (And.intro h1 (And.intro h2 True.intro)) (by kernel_rfl)

-- loop.example/g03014/impl.first
def impl_first_L1_b (a0 : (List Int)) (s1 : Int) : Option (Ctl Int Unit Int) :=
  bif (decide (s1 < (a0.length : Int))) then
  (gi a0 s1).bind fun v3 =>
  bif (v3 != 0) then
  some (.ret v3)
  else
  some (.next (w64 (s1 + 1)))
  else
  some (.brk ())
def impl_first_L1 (a0 : (List Int)) (s : Int) : Option (Ctl Int Unit Int) := impl_first_L1_b a0 s
def impl_first_L1_s (a0 : (List Int)) (s1 : Int) : St := ⟨[(5, .o (.c (.rs 1 (a0.map encI)))), (6, .o (.c (.v (.int .i64 (a0.length : Int))))), (7, .o (.c (.v (.int .i64 s1))))], []⟩
def impl_first_L1_S (a0 : (List Int)) (s : Int) : St := impl_first_L1_s a0 s
def impl_first_L1_a : Option Int :=
  some 0
def impl_first_L1_k (x : (Unit) ⊕ (Int)) : Option Int := match x with
  | .inl t => impl_first_L1_a
  | .inr y => some y
def impl_first (a0 : (List Int)) : Option Int :=
  (loopM (impl_first_L1 a0) big 0).bind (impl_first_L1_k)
theorem impl_first_ok (a0 : (List Int)) (r : Int) (hM : impl_first a0 = some r) :
    Con Try.prog 114 [.c (.rs 1 (a0.map encI))] [] (.o (.c (.v (.int .i64 r)))) [] [] := by
  unfold impl_first at hM
  refine cn (N := 15) (pids := []) Try_mixed Try.func114 (by kernel_rfl) (by kernel_rfl) (by kernel_rfl) rfl fun ρ g w R => ?_
  have K1 : ∀ (_ : Unit), impl_first_L1_a = some r → Gr R [.code (cAt Try.f114 [1, 1])] (⟨[], []⟩) := by
    intro _ hM
    unfold impl_first_L1_a at hM
    have hE : some 0 = some r := hM
    have hE := Option.some.inj hE
    subst hE
    exact pr R 9999 [] [] [] [] True.intro (by kernel_rfl)
  refine pc R 9999 [.ln (a0.length)] [.keep [5, 6, 7] []] (k' := [.code (.loop (cAt Try.f114 [1, 0, 1, 0, 0])), .blk 0, .code (cAt Try.f114 [1, 1])]) (S' := impl_first_L1_S a0 0) (And.intro (lenm encI a0) True.intro) (by kernel_rfl) ?_
  refine lq (impl_first_L1_S a0) (body := impl_first_L1 a0) (k := impl_first_L1_k) hM fun m1 s c1 hM hK1 => ?_
  obtain ⟨s1, hs⟩ : ∃ z, z = s := ⟨_, rfl⟩
  subst hs
  have hM : impl_first_L1_b a0 s1 = some c1 := hM
  unfold impl_first_L1_b at hM
  rcases cond_cases hM with ⟨h2, hM⟩ | ⟨h2, hM⟩
  · obtain ⟨v3, h4, hM⟩ := bind_some hM
    rcases cond_cases hM with ⟨h5, hM⟩ | ⟨h5, hM⟩
    · have hE : some (Ctl.ret v3) = some c1 := hM
      have hE := Option.some.inj hE
      subst hE
      have hE : some v3 = some r := hK1
      have hE := Option.some.inj hE
      subst hE
      exact pr R 9999 [.as 8 true, .ix (encI v3), .as 12 true] [] [] [] (And.intro h2 (And.intro (gi_map encI h4) (And.intro h5 True.intro))) (by kernel_rfl)
    · have hE : some (Ctl.next (w64 (s1 + 1))) = some c1 := hM
      have hE := Option.some.inj hE
      subst hE
      exact pc R 9999 [.as 8 true, .ix (encI v3), .as 12 false] [.keep [5, 6, 7] []] (And.intro h2 (And.intro (gi_map encI h4) (And.intro h5 True.intro))) (by kernel_rfl) (li (Sf := impl_first_L1_S a0) (M := Mk (impl_first_L1 a0) (impl_first_L1_k) r) (k := [.blk 0, .code (cAt Try.f114 [1, 1])]) (Nat.lt_succ_self m1) hK1)
  · have hE : some (Ctl.brk ()) = some c1 := hM
    have hE := Option.some.inj hE
    subst hE
    exact pc R 5 [.as 8 false] [.keep [] []] (And.intro h2 True.intro) (by kernel_rfl) (K1 () hK1)

-- loop.example/g03014/impl.compareBookings
def impl_compareBookings (a0 : Booking) (a1 : Booking) : Option Int :=
  (impl_compareInts a0.Trip.Day a1.Trip.Day).bind fun v1 =>
  (impl_compareInts a0.Trip.Leg a1.Trip.Leg).bind fun v3 =>
  (impl_compareInts a0.Thing a1.Thing).bind fun v5 =>
  (impl_first ([v1, v3, v5] : List Int)).bind fun v7 =>
  some v7
theorem impl_compareBookings_ok (a0 : Booking) (a1 : Booking) (r : Int) (hM : impl_compareBookings a0 a1 = some r) :
    Con Try.prog 92 [.c (.v (.agg (Booking.enc a0).toArray)), .c (.v (.agg (Booking.enc a1).toArray))] [] (.o (.c (.v (.int .i64 r)))) [] [] := by
  unfold impl_compareBookings at hM
  refine cn (N := 26) (pids := []) Try_mixed Try.func92 (by kernel_rfl) (by kernel_rfl) (by kernel_rfl) rfl fun ρ g w R => ?_
  obtain ⟨v1, h2, hM⟩ := bind_some hM
  obtain ⟨v3, h4, hM⟩ := bind_some hM
  obtain ⟨v5, h6, hM⟩ := bind_some hM
  obtain ⟨v7, h8, hM⟩ := bind_some hM
  have hE : some v7 = some r := hM
  have hE := Option.some.inj hE
  subst hE
  exact pr R 9999 [.new 0, .new 1, .call false [] (.o (.c (.v (.int .i64 v1)))) [] [], .call false [] (.o (.c (.v (.int .i64 v3)))) [] [], .call false [] (.o (.c (.v (.int .i64 v5)))) [] [], .new 2, .call false [] (.o (.c (.v (.int .i64 v7)))) [] []] [] [] [] (And.intro (impl_compareInts_ok a0.Trip.Day a1.Trip.Day v1 h2) (And.intro (impl_compareInts_ok a0.Trip.Leg a1.Trip.Leg v3 h4) (And.intro (impl_compareInts_ok a0.Thing a1.Thing v5 h6) (And.intro (impl_first_ok ([v1, v3, v5] : List Int) v7 h8) True.intro)))) (by kernel_rfl)

-- loop.example/g03014/impl.runs
def impl_runs_L1_b (a0 : Network) (a2 : Int) (s11 : Int) : Option (Ctl Int Unit Bool) :=
  bif (decide (s11 < (a0.Off.length : Int))) then
  (gi a0.Off s11).bind fun v13 =>
  bif (v13 == a2) then
  some (.ret false)
  else
  some (.next (w64 (s11 + 1)))
  else
  some (.brk ())
def impl_runs_L1 (a0 : Network) (a2 : Int) (s : Int) : Option (Ctl Int Unit Bool) := impl_runs_L1_b a0 a2 s
def impl_runs_L1_s (a0 : Network) (a2 : Int) (s11 : Int) : St := ⟨[(2, .o (.c (.v (.int .i64 a2)))), (37, .o (.c (.rs 1 (a0.Off.map encI)))), (38, .o (.c (.v (.int .i64 (a0.Off.length : Int))))), (39, .o (.c (.v (.int .i64 s11))))], []⟩
def impl_runs_L1_S (a0 : Network) (a2 : Int) (s : Int) : St := impl_runs_L1_s a0 a2 s
def impl_runs_L1_a : Option Bool :=
  some true
def impl_runs_L1_k (x : (Unit) ⊕ (Bool)) : Option Bool := match x with
  | .inl t => impl_runs_L1_a
  | .inr y => some y
def impl_runs (a0 : Network) (a1 : Int) (a2 : Int) : Option Bool :=
  bif (decide (a1 < 0)) then
  some false
  else
  bif (decide (a1 ≥ (a0.Legs.length : Int))) then
  some false
  else
  (impl_within a2 0 60).bind fun v3 =>
  bif (!v3) then
  some false
  else
  (gi a0.Legs a1).bind fun v6 =>
  (shrM v6.Days (Int.tmod a2 7)).bind fun v8 =>
  bif ((w64 ((BitVec.ofInt 64 v8 &&& BitVec.ofInt 64 1).toNat)) == 0) then
  some false
  else
  (loopM (impl_runs_L1 a0 a2) big 0).bind (impl_runs_L1_k)
theorem impl_runs_ok (a0 : Network) (a1 : Int) (a2 : Int) (r : Bool) (hM : impl_runs a0 a1 a2 = some r) :
    Con Try.prog 95 [.agg [.rs 6 (a0.Legs.map Leg.enc), .rs 1 (a0.Off.map encI), .v (.int .i64 a0.Change)], .c (.v (.int .i64 a1)), .c (.v (.int .i64 a2))] [] (.o (.c (.v (.bool r)))) [] [] := by
  unfold impl_runs at hM
  refine cn (N := 47) (pids := []) Try_mixed Try.func95 (by kernel_rfl) (by kernel_rfl) (by kernel_rfl) rfl fun ρ g w R => ?_
  rcases cond_cases hM with ⟨h1, hM⟩ | ⟨h1, hM⟩
  · have hE : some false = some r := hM
    have hE := Option.some.inj hE
    subst hE
    exact pr R 9999 [.new 0, .as 11 true] [] [] [] (And.intro h1 True.intro) (by kernel_rfl)
  · rcases cond_cases hM with ⟨h2, hM⟩ | ⟨h2, hM⟩
    · have hE : some false = some r := hM
      have hE := Option.some.inj hE
      subst hE
      exact pr R 9999 [.new 0, .as 11 false, .ln (a0.Legs.length), .as 18 true] [] [] [] (And.intro h1 (And.intro (lenm Leg.enc a0.Legs) (And.intro h2 True.intro))) (by kernel_rfl)
    · obtain ⟨v3, h4, hM⟩ := bind_some hM
      rcases cond_cases hM with ⟨h5, hM⟩ | ⟨h5, hM⟩
      · have hE : some false = some r := hM
        have hE := Option.some.inj hE
        subst hE
        exact pr R 9999 [.new 0, .as 11 false, .ln (a0.Legs.length), .as 18 false, .call false [] (.o (.c (.v (.bool v3)))) [] [], .as 23 true] [] [] [] (And.intro h1 (And.intro (lenm Leg.enc a0.Legs) (And.intro h2 (And.intro (impl_within_ok a2 0 60 v3 h4) (And.intro h5 True.intro))))) (by kernel_rfl)
      · obtain ⟨v6, h7, hM⟩ := bind_some hM
        obtain ⟨v8, h9, hM⟩ := bind_some hM
        rcases cond_cases hM with ⟨h10, hM⟩ | ⟨h10, hM⟩
        · have hE : some false = some r := hM
          have hE := Option.some.inj hE
          subst hE
          exact pr R 9999 [.new 0, .as 11 false, .ln (a0.Legs.length), .as 18 false, .call false [] (.o (.c (.v (.bool v3)))) [] [], .as 23 false, .ix (Leg.enc v6), .run 32 (.int .i64 v8), .as 35 true] [] [] [] (And.intro h1 (And.intro (lenm Leg.enc a0.Legs) (And.intro h2 (And.intro (impl_within_ok a2 0 60 v3 h4) (And.intro h5 (And.intro (gi_map Leg.enc h7) (And.intro (shrM_run (P := Try.prog) (t := 3) (x := .tmp 0) (y := .tmp 0) h9) (And.intro h10 True.intro)))))))) (by kernel_rfl)
        · have K1 : ∀ (_ : Unit), impl_runs_L1_a = some r → Gr R [.code (cAt Try.f95 [1, 1, 1])] (⟨[], []⟩) := by
            intro _ hM
            unfold impl_runs_L1_a at hM
            have hE : some true = some r := hM
            have hE := Option.some.inj hE
            subst hE
            exact pr R 9999 [] [] [] [] True.intro (by kernel_rfl)
          refine pc R 9999 [.new 0, .as 11 false, .ln (a0.Legs.length), .as 18 false, .call false [] (.o (.c (.v (.bool v3)))) [] [], .as 23 false, .ix (Leg.enc v6), .run 32 (.int .i64 v8), .as 35 false, .ln (a0.Off.length)] [.keep [2, 37, 38, 39] []] (k' := [.code (.loop (cAt Try.f95 [1, 1, 0, 1, 0, 0])), .blk 0, .code (cAt Try.f95 [1, 1, 1])]) (S' := impl_runs_L1_S a0 a2 0) (And.intro h1 (And.intro (lenm Leg.enc a0.Legs) (And.intro h2 (And.intro (impl_within_ok a2 0 60 v3 h4) (And.intro h5 (And.intro (gi_map Leg.enc h7) (And.intro (shrM_run (P := Try.prog) (t := 3) (x := .tmp 0) (y := .tmp 0) h9) (And.intro h10 (And.intro (lenm encI a0.Off) True.intro))))))))) (by kernel_rfl) ?_
          refine lq (impl_runs_L1_S a0 a2) (body := impl_runs_L1 a0 a2) (k := impl_runs_L1_k) hM fun m1 s c1 hM hK1 => ?_
          obtain ⟨s11, hs⟩ : ∃ z, z = s := ⟨_, rfl⟩
          subst hs
          have hM : impl_runs_L1_b a0 a2 s11 = some c1 := hM
          unfold impl_runs_L1_b at hM
          rcases cond_cases hM with ⟨h12, hM⟩ | ⟨h12, hM⟩
          · obtain ⟨v13, h14, hM⟩ := bind_some hM
            rcases cond_cases hM with ⟨h15, hM⟩ | ⟨h15, hM⟩
            · have hE : some (Ctl.ret false) = some c1 := hM
              have hE := Option.some.inj hE
              subst hE
              have hE : some false = some r := hK1
              have hE := Option.some.inj hE
              subst hE
              exact pr R 9999 [.as 40 true, .ix (encI v13), .as 45 true] [] [] [] (And.intro h12 (And.intro (gi_map encI h14) (And.intro h15 True.intro))) (by kernel_rfl)
            · have hE : some (Ctl.next (w64 (s11 + 1))) = some c1 := hM
              have hE := Option.some.inj hE
              subst hE
              exact pc R 9999 [.as 40 true, .ix (encI v13), .as 45 false] [.keep [2, 37, 38, 39] []] (And.intro h12 (And.intro (gi_map encI h14) (And.intro h15 True.intro))) (by kernel_rfl) (li (Sf := impl_runs_L1_S a0 a2) (M := Mk (impl_runs_L1 a0 a2) (impl_runs_L1_k) r) (k := [.blk 0, .code (cAt Try.f95 [1, 1, 1])]) (Nat.lt_succ_self m1) hK1)
          · have hE : some (Ctl.brk ()) = some c1 := hM
            have hE := Option.some.inj hE
            subst hE
            exact pc R 5 [.as 40 false] [.keep [] []] (And.intro h12 True.intro) (by kernel_rfl) (K1 () hK1)

-- loop.example/g03014/impl.RunsOn
def impl_RunsOn (a0 : Network) (a1 : Int) (a2 : Int) : Option Bool :=
  (impl_IsNetwork a0).bind fun v1 =>
  bif v1 then
  (impl_runs a0 a1 a2).bind fun v4 =>
  some v4
  else
  some false
theorem impl_RunsOn_ok (a0 : Network) (a1 : Int) (a2 : Int) (r : Bool) (hM : impl_RunsOn a0 a1 a2 = some r) :
    Con Try.prog 100 [.agg [.rs 6 (a0.Legs.map Leg.enc), .rs 1 (a0.Off.map encI), .v (.int .i64 a0.Change)], .c (.v (.int .i64 a1)), .c (.v (.int .i64 a2))] [] (.o (.c (.v (.bool r)))) [] [] := by
  unfold impl_RunsOn at hM
  refine cn (N := 15) (pids := []) Try_mixed Try.func100 (by kernel_rfl) (by kernel_rfl) (by kernel_rfl) rfl fun ρ g w R => ?_
  obtain ⟨v1, h2, hM⟩ := bind_some hM
  rcases cond_cases hM with ⟨h3, hM⟩ | ⟨h3, hM⟩
  · obtain ⟨v4, h5, hM⟩ := bind_some hM
    have hE : some v4 = some r := hM
    have hE := Option.some.inj hE
    subst hE
    exact pr R 9999 [.new 0, .call false [] (.o (.c (.v (.bool v1)))) [] [], .as 9 true, .call false [] (.o (.c (.v (.bool v4)))) [] []] [] [] [] (And.intro (impl_IsNetwork_ok a0 v1 h2) (And.intro h3 (And.intro (impl_runs_ok a0 a1 a2 v4 h5) True.intro))) (by kernel_rfl)
  · have hE : some false = some r := hM
    have hE := Option.some.inj hE
    subst hE
    exact pr R 9999 [.new 0, .call false [] (.o (.c (.v (.bool v1)))) [] [], .as 9 false] [] [] [] (And.intro (impl_IsNetwork_ok a0 v1 h2) (And.intro h3 True.intro)) (by kernel_rfl)

-- loop.example/g03014/impl.IsTrip
def impl_IsTrip (a0 : Network) (a1 : Trip) : Option Bool :=
  (impl_RunsOn a0 a1.Leg a1.Day).bind fun v1 =>
  some v1
theorem impl_IsTrip_ok (a0 : Network) (a1 : Trip) (r : Bool) (hM : impl_IsTrip a0 a1 = some r) :
    Con Try.prog 62 [.agg [.rs 6 (a0.Legs.map Leg.enc), .rs 1 (a0.Off.map encI), .v (.int .i64 a0.Change)], .c (.v (.agg (Trip.enc a1).toArray))] [] (.o (.c (.v (.bool r)))) [] [] := by
  unfold impl_IsTrip at hM
  refine cn (N := 11) (pids := []) Try_mixed Try.func62 (by kernel_rfl) (by kernel_rfl) (by kernel_rfl) rfl fun ρ g w R => ?_
  obtain ⟨v1, h2, hM⟩ := bind_some hM
  have hE : some v1 = some r := hM
  have hE := Option.some.inj hE
  subst hE
  exact pr R 9999 [.new 0, .new 1, .call false [] (.o (.c (.v (.bool v1)))) [] []] [] [] [] (And.intro (impl_RunsOn_ok a0 a1.Leg a1.Day v1 h2) True.intro) (by kernel_rfl)

-- loop.example/g03014/impl.LoadOf
def impl_LoadOf_L1_b (a0 : (List Booking)) (a1 : Trip) (s1 : Int) (s2 : Int) : Option (Ctl (Int × Int) Int Int) :=
  bif (decide (s2 < (a0.length : Int))) then
  (gi a0 s2).bind fun v5 =>
  bif (decide (v5.Trip = a1)) then
  some (.next (w64 (s1 + v5.Weight), w64 (s2 + 1)))
  else
  some (.next (s1, w64 (s2 + 1)))
  else
  some (.brk s1)
def impl_LoadOf_L1 (a0 : (List Booking)) (a1 : Trip) (s : Int × Int) : Option (Ctl (Int × Int) Int Int) := impl_LoadOf_L1_b a0 a1 s.1 s.2
def impl_LoadOf_L1_s (a0 : (List Booking)) (a1 : Trip) (s1 : Int) (s2 : Int) : St := ⟨[(3, .o (.c (.ptr 0 0))), (5, .o (.c (.v (.int .i64 s1)))), (8, .o (.c (.rs 4 (a0.map Booking.enc)))), (9, .o (.c (.v (.int .i64 (a0.length : Int))))), (10, .o (.c (.v (.int .i64 s2))))], [(0, .box 46 [.v (.int .i64 a1.Leg), .v (.int .i64 a1.Day)])]⟩
def impl_LoadOf_L1_S (a0 : (List Booking)) (a1 : Trip) (s : Int × Int) : St := impl_LoadOf_L1_s a0 a1 s.1 s.2
def impl_LoadOf_L1_a (s3 : Int) : Option Int :=
  some s3
def impl_LoadOf_L1_k (x : (Int) ⊕ (Int)) : Option Int := match x with
  | .inl t => impl_LoadOf_L1_a t
  | .inr y => some y
def impl_LoadOf (a0 : (List Booking)) (a1 : Trip) : Option Int :=
  (loopM (impl_LoadOf_L1 a0 a1) big (0, 0)).bind (impl_LoadOf_L1_k)
theorem impl_LoadOf_ok (a0 : (List Booking)) (a1 : Trip) (r : Int) (hM : impl_LoadOf a0 a1 = some r) :
    Con Try.prog 93 [.c (.rs 4 (a0.map Booking.enc)), .c (.v (.agg (Trip.enc a1).toArray))] [] (.o (.c (.v (.int .i64 r)))) [] [] := by
  unfold impl_LoadOf at hM
  refine cn (N := 24) (pids := []) Try_mixed Try.func93 (by kernel_rfl) (by kernel_rfl) (by kernel_rfl) rfl fun ρ g w R => ?_
  have K1 : ∀ (s3 : Int), impl_LoadOf_L1_a s3 = some r → Gr R [.code (cAt Try.f93 [1, 1, 1])] (⟨[(5, .o (.c (.v (.int .i64 s3))))], []⟩) := by
    intro s3 hM
    unfold impl_LoadOf_L1_a at hM
    have hE : some s3 = some r := hM
    have hE := Option.some.inj hE
    subst hE
    exact pr R 9999 [] [] [] [] True.intro (by kernel_rfl)
  refine pc R 9999 [.new 0, .ln (a0.length)] [.keep [3, 5, 8, 9, 10] [0]] (k' := [.code (.loop (cAt Try.f93 [1, 1, 0, 1, 0, 0])), .blk 0, .code (cAt Try.f93 [1, 1, 1])]) (S' := impl_LoadOf_L1_S a0 a1 (0, 0)) (And.intro (lenm Booking.enc a0) True.intro) (by kernel_rfl) ?_
  refine lq (impl_LoadOf_L1_S a0 a1) (body := impl_LoadOf_L1 a0 a1) (k := impl_LoadOf_L1_k) hM fun m1 s c1 hM hK1 => ?_
  obtain ⟨s1, s2⟩ := s
  have hM : impl_LoadOf_L1_b a0 a1 s1 s2 = some c1 := hM
  unfold impl_LoadOf_L1_b at hM
  rcases cond_cases hM with ⟨h4, hM⟩ | ⟨h4, hM⟩
  · obtain ⟨v5, h6, hM⟩ := bind_some hM
    rcases cond_cases hM with ⟨h7, hM⟩ | ⟨h7, hM⟩
    · have hE : some (Ctl.next (w64 (s1 + v5.Weight), w64 (s2 + 1))) = some c1 := hM
      have hE := Option.some.inj hE
      subst hE
      exact pc R 9999 [.as 11 true, .ix (Booking.enc v5), .new 1, .run 17 (.bool (decide (v5.Trip = a1))), .as 17 true] [.keep [3, 5, 8, 9, 10] [0]] (And.intro h4 (And.intro (gi_map Booking.enc h6) (And.intro (Trip_eql46 v5.Trip a1) (And.intro h7 True.intro)))) (by kernel_rfl) (li (Sf := impl_LoadOf_L1_S a0 a1) (M := Mk (impl_LoadOf_L1 a0 a1) (impl_LoadOf_L1_k) r) (k := [.blk 0, .code (cAt Try.f93 [1, 1, 1])]) (Nat.lt_succ_self m1) hK1)
    · have hE : some (Ctl.next (s1, w64 (s2 + 1))) = some c1 := hM
      have hE := Option.some.inj hE
      subst hE
      exact pc R 9999 [.as 11 true, .ix (Booking.enc v5), .new 1, .run 17 (.bool (decide (v5.Trip = a1))), .as 17 false] [.keep [3, 5, 8, 9, 10] [0]] (And.intro h4 (And.intro (gi_map Booking.enc h6) (And.intro (Trip_eql46 v5.Trip a1) (And.intro h7 True.intro)))) (by kernel_rfl) (li (Sf := impl_LoadOf_L1_S a0 a1) (M := Mk (impl_LoadOf_L1 a0 a1) (impl_LoadOf_L1_k) r) (k := [.blk 0, .code (cAt Try.f93 [1, 1, 1])]) (Nat.lt_succ_self m1) hK1)
  · have hE : some (Ctl.brk s1) = some c1 := hM
    have hE := Option.some.inj hE
    subst hE
    exact pc R 5 [.as 11 false] [.keep [5] []] (And.intro h4 True.intro) (by kernel_rfl) (K1 s1 hK1)

-- loop.example/g03014/impl.AreBookings
def impl_AreBookings_L1_b (a0 : Network) (a1 : (List Booking)) (s5 : Int) : Option (Ctl Int Unit Bool) :=
  bif (decide (s5 < (a1.length : Int))) then
  (gi a1 s5).bind fun v7 =>
  bif (decide (s5 > 0)) then
  (gi a1 (w64 (s5 - 1))).bind fun v10 =>
  (impl_compareBookings v10 v7).bind fun v12 =>
  bif (decide (v12 ≥ 0)) then
  some (.ret false)
  else
  (impl_IsTrip a0 v7.Trip).bind fun v15 =>
  bif (!v15) then
  some (.ret false)
  else
  (impl_within v7.Thing 1 9999).bind fun v18 =>
  bif (!v18) then
  some (.ret false)
  else
  (impl_within v7.Weight 1 1000000).bind fun v21 =>
  bif (!v21) then
  some (.ret false)
  else
  (impl_LoadOf a1 v7.Trip).bind fun v24 =>
  (gi a0.Legs v7.Trip.Leg).bind fun v26 =>
  bif (decide (v24 > v26.Room)) then
  some (.ret false)
  else
  some (.next (w64 (s5 + 1)))
  else
  (impl_IsTrip a0 v7.Trip).bind fun v29 =>
  bif (!v29) then
  some (.ret false)
  else
  (impl_within v7.Thing 1 9999).bind fun v32 =>
  bif (!v32) then
  some (.ret false)
  else
  (impl_within v7.Weight 1 1000000).bind fun v35 =>
  bif (!v35) then
  some (.ret false)
  else
  (impl_LoadOf a1 v7.Trip).bind fun v38 =>
  (gi a0.Legs v7.Trip.Leg).bind fun v40 =>
  bif (decide (v38 > v40.Room)) then
  some (.ret false)
  else
  some (.next (w64 (s5 + 1)))
  else
  some (.brk ())
def impl_AreBookings_L1 (a0 : Network) (a1 : (List Booking)) (s : Int) : Option (Ctl Int Unit Bool) := impl_AreBookings_L1_b a0 a1 s
def impl_AreBookings_L1_s (a0 : Network) (a1 : (List Booking)) (s5 : Int) : St := ⟨[(1, .o (.c (.rs 4 (a1.map Booking.enc)))), (2, .o (.c (.ptr 0 0))), (15, .o (.c (.rs 4 (a1.map Booking.enc)))), (16, .o (.c (.v (.int .i64 (a1.length : Int))))), (17, .o (.c (.v (.int .i64 s5))))], [(0, .box 32 [.rs 6 (a0.Legs.map Leg.enc), .rs 1 (a0.Off.map encI), .v (.int .i64 a0.Change)])]⟩
def impl_AreBookings_L1_S (a0 : Network) (a1 : (List Booking)) (s : Int) : St := impl_AreBookings_L1_s a0 a1 s
def impl_AreBookings_L1_a : Option Bool :=
  some true
def impl_AreBookings_L1_k (x : (Unit) ⊕ (Bool)) : Option Bool := match x with
  | .inl t => impl_AreBookings_L1_a
  | .inr y => some y
def impl_AreBookings (a0 : Network) (a1 : (List Booking)) : Option Bool :=
  (impl_IsNetwork a0).bind fun v1 =>
  bif (!v1) then
  some false
  else
  bif (decide ((a1.length : Int) > 120)) then
  some false
  else
  (loopM (impl_AreBookings_L1 a0 a1) big 0).bind (impl_AreBookings_L1_k)
theorem impl_AreBookings_ok (a0 : Network) (a1 : (List Booking)) (r : Bool) (hM : impl_AreBookings a0 a1 = some r) :
    Con Try.prog 58 [.agg [.rs 6 (a0.Legs.map Leg.enc), .rs 1 (a0.Off.map encI), .v (.int .i64 a0.Change)], .c (.rs 4 (a1.map Booking.enc))] [] (.o (.c (.v (.bool r)))) [] [] := by
  unfold impl_AreBookings at hM
  refine cn (N := 69) (pids := []) Try_mixed Try.func58 (by kernel_rfl) (by kernel_rfl) (by kernel_rfl) rfl fun ρ g w R => ?_
  obtain ⟨v1, h2, hM⟩ := bind_some hM
  rcases cond_cases hM with ⟨h3, hM⟩ | ⟨h3, hM⟩
  · have hE : some false = some r := hM
    have hE := Option.some.inj hE
    subst hE
    exact pr R 9999 [.new 0, .call false [] (.o (.c (.v (.bool v1)))) [] [], .as 10 true] [] [] [] (And.intro (impl_IsNetwork_ok a0 v1 h2) (And.intro h3 True.intro)) (by kernel_rfl)
  · rcases cond_cases hM with ⟨h4, hM⟩ | ⟨h4, hM⟩
    · have hE : some false = some r := hM
      have hE := Option.some.inj hE
      subst hE
      exact pr R 9999 [.new 0, .call false [] (.o (.c (.v (.bool v1)))) [] [], .as 10 false, .ln (a1.length), .as 14 true] [] [] [] (And.intro (impl_IsNetwork_ok a0 v1 h2) (And.intro h3 (And.intro (lenm Booking.enc a1) (And.intro h4 True.intro)))) (by kernel_rfl)
    · have K1 : ∀ (_ : Unit), impl_AreBookings_L1_a = some r → Gr R [.code (cAt Try.f58 [1, 1, 1])] (⟨[], []⟩) := by
        intro _ hM
        unfold impl_AreBookings_L1_a at hM
        have hE : some true = some r := hM
        have hE := Option.some.inj hE
        subst hE
        exact pr R 9999 [] [] [] [] True.intro (by kernel_rfl)
      refine pc R 9999 [.new 0, .call false [] (.o (.c (.v (.bool v1)))) [] [], .as 10 false, .ln (a1.length), .as 14 false, .ln (a1.length)] [.keep [1, 2, 15, 16, 17] [0]] (k' := [.code (.loop (cAt Try.f58 [1, 1, 0, 1, 0, 0])), .blk 0, .code (cAt Try.f58 [1, 1, 1])]) (S' := impl_AreBookings_L1_S a0 a1 0) (And.intro (impl_IsNetwork_ok a0 v1 h2) (And.intro h3 (And.intro (lenm Booking.enc a1) (And.intro h4 (And.intro (lenm Booking.enc a1) True.intro))))) (by kernel_rfl) ?_
      refine lq (impl_AreBookings_L1_S a0 a1) (body := impl_AreBookings_L1 a0 a1) (k := impl_AreBookings_L1_k) hM fun m1 s c1 hM hK1 => ?_
      obtain ⟨s5, hs⟩ : ∃ z, z = s := ⟨_, rfl⟩
      subst hs
      have hM : impl_AreBookings_L1_b a0 a1 s5 = some c1 := hM
      unfold impl_AreBookings_L1_b at hM
      rcases cond_cases hM with ⟨h6, hM⟩ | ⟨h6, hM⟩
      · obtain ⟨v7, h8, hM⟩ := bind_some hM
        rcases cond_cases hM with ⟨h9, hM⟩ | ⟨h9, hM⟩
        · obtain ⟨v10, h11, hM⟩ := bind_some hM
          obtain ⟨v12, h13, hM⟩ := bind_some hM
          rcases cond_cases hM with ⟨h14, hM⟩ | ⟨h14, hM⟩
          · have hE : some (Ctl.ret false) = some c1 := hM
            have hE := Option.some.inj hE
            subst hE
            have hE : some false = some r := hK1
            have hE := Option.some.inj hE
            subst hE
            exact pr R 9999 [.as 18 true, .ix (Booking.enc v7), .new 1, .as 24 true, .ix (Booking.enc v10), .call false [] (.o (.c (.v (.int .i64 v12)))) [] [], .as 34 true] [] [] [] (And.intro h6 (And.intro (gi_map Booking.enc h8) (And.intro h9 (And.intro (gi_map Booking.enc h11) (And.intro (impl_compareBookings_ok v10 v7 v12 h13) (And.intro h14 True.intro)))))) (by kernel_rfl)
          · obtain ⟨v15, h16, hM⟩ := bind_some hM
            rcases cond_cases hM with ⟨h17, hM⟩ | ⟨h17, hM⟩
            · have hE : some (Ctl.ret false) = some c1 := hM
              have hE := Option.some.inj hE
              subst hE
              have hE : some false = some r := hK1
              have hE := Option.some.inj hE
              subst hE
              exact pr R 9999 [.as 18 true, .ix (Booking.enc v7), .new 1, .as 24 true, .ix (Booking.enc v10), .call false [] (.o (.c (.v (.int .i64 v12)))) [] [], .as 34 false, .call false [] (.o (.c (.v (.bool v15)))) [] [], .as 41 true] [] [] [] (And.intro h6 (And.intro (gi_map Booking.enc h8) (And.intro h9 (And.intro (gi_map Booking.enc h11) (And.intro (impl_compareBookings_ok v10 v7 v12 h13) (And.intro h14 (And.intro (impl_IsTrip_ok a0 v7.Trip v15 h16) (And.intro h17 True.intro)))))))) (by kernel_rfl)
            · obtain ⟨v18, h19, hM⟩ := bind_some hM
              rcases cond_cases hM with ⟨h20, hM⟩ | ⟨h20, hM⟩
              · have hE : some (Ctl.ret false) = some c1 := hM
                have hE := Option.some.inj hE
                subst hE
                have hE : some false = some r := hK1
                have hE := Option.some.inj hE
                subst hE
                exact pr R 9999 [.as 18 true, .ix (Booking.enc v7), .new 1, .as 24 true, .ix (Booking.enc v10), .call false [] (.o (.c (.v (.int .i64 v12)))) [] [], .as 34 false, .call false [] (.o (.c (.v (.bool v15)))) [] [], .as 41 false, .call false [] (.o (.c (.v (.bool v18)))) [] [], .as 47 true] [] [] [] (And.intro h6 (And.intro (gi_map Booking.enc h8) (And.intro h9 (And.intro (gi_map Booking.enc h11) (And.intro (impl_compareBookings_ok v10 v7 v12 h13) (And.intro h14 (And.intro (impl_IsTrip_ok a0 v7.Trip v15 h16) (And.intro h17 (And.intro (impl_within_ok v7.Thing 1 9999 v18 h19) (And.intro h20 True.intro)))))))))) (by kernel_rfl)
              · obtain ⟨v21, h22, hM⟩ := bind_some hM
                rcases cond_cases hM with ⟨h23, hM⟩ | ⟨h23, hM⟩
                · have hE : some (Ctl.ret false) = some c1 := hM
                  have hE := Option.some.inj hE
                  subst hE
                  have hE : some false = some r := hK1
                  have hE := Option.some.inj hE
                  subst hE
                  exact pr R 9999 [.as 18 true, .ix (Booking.enc v7), .new 1, .as 24 true, .ix (Booking.enc v10), .call false [] (.o (.c (.v (.int .i64 v12)))) [] [], .as 34 false, .call false [] (.o (.c (.v (.bool v15)))) [] [], .as 41 false, .call false [] (.o (.c (.v (.bool v18)))) [] [], .as 47 false, .call false [] (.o (.c (.v (.bool v21)))) [] [], .as 53 true] [] [] [] (And.intro h6 (And.intro (gi_map Booking.enc h8) (And.intro h9 (And.intro (gi_map Booking.enc h11) (And.intro (impl_compareBookings_ok v10 v7 v12 h13) (And.intro h14 (And.intro (impl_IsTrip_ok a0 v7.Trip v15 h16) (And.intro h17 (And.intro (impl_within_ok v7.Thing 1 9999 v18 h19) (And.intro h20 (And.intro (impl_within_ok v7.Weight 1 1000000 v21 h22) (And.intro h23 True.intro)))))))))))) (by kernel_rfl)
                · obtain ⟨v24, h25, hM⟩ := bind_some hM
                  obtain ⟨v26, h27, hM⟩ := bind_some hM
                  rcases cond_cases hM with ⟨h28, hM⟩ | ⟨h28, hM⟩
                  · have hE : some (Ctl.ret false) = some c1 := hM
                    have hE := Option.some.inj hE
                    subst hE
                    have hE : some false = some r := hK1
                    have hE := Option.some.inj hE
                    subst hE
                    exact pr R 9999 [.as 18 true, .ix (Booking.enc v7), .new 1, .as 24 true, .ix (Booking.enc v10), .call false [] (.o (.c (.v (.int .i64 v12)))) [] [], .as 34 false, .call false [] (.o (.c (.v (.bool v15)))) [] [], .as 41 false, .call false [] (.o (.c (.v (.bool v18)))) [] [], .as 47 false, .call false [] (.o (.c (.v (.bool v21)))) [] [], .as 53 false, .call false [] (.o (.c (.v (.int .i64 v24)))) [] [], .ix (Leg.enc v26), .as 67 true] [] [] [] (And.intro h6 (And.intro (gi_map Booking.enc h8) (And.intro h9 (And.intro (gi_map Booking.enc h11) (And.intro (impl_compareBookings_ok v10 v7 v12 h13) (And.intro h14 (And.intro (impl_IsTrip_ok a0 v7.Trip v15 h16) (And.intro h17 (And.intro (impl_within_ok v7.Thing 1 9999 v18 h19) (And.intro h20 (And.intro (impl_within_ok v7.Weight 1 1000000 v21 h22) (And.intro h23 (And.intro (impl_LoadOf_ok a1 v7.Trip v24 h25) (And.intro (gi_map Leg.enc h27) (And.intro h28 True.intro))))))))))))))) (by kernel_rfl)
                  · have hE : some (Ctl.next (w64 (s5 + 1))) = some c1 := hM
                    have hE := Option.some.inj hE
                    subst hE
                    exact pc R 9999 [.as 18 true, .ix (Booking.enc v7), .new 1, .as 24 true, .ix (Booking.enc v10), .call false [] (.o (.c (.v (.int .i64 v12)))) [] [], .as 34 false, .call false [] (.o (.c (.v (.bool v15)))) [] [], .as 41 false, .call false [] (.o (.c (.v (.bool v18)))) [] [], .as 47 false, .call false [] (.o (.c (.v (.bool v21)))) [] [], .as 53 false, .call false [] (.o (.c (.v (.int .i64 v24)))) [] [], .ix (Leg.enc v26), .as 67 false] [.keep [1, 2, 15, 16, 17] [0]] (And.intro h6 (And.intro (gi_map Booking.enc h8) (And.intro h9 (And.intro (gi_map Booking.enc h11) (And.intro (impl_compareBookings_ok v10 v7 v12 h13) (And.intro h14 (And.intro (impl_IsTrip_ok a0 v7.Trip v15 h16) (And.intro h17 (And.intro (impl_within_ok v7.Thing 1 9999 v18 h19) (And.intro h20 (And.intro (impl_within_ok v7.Weight 1 1000000 v21 h22) (And.intro h23 (And.intro (impl_LoadOf_ok a1 v7.Trip v24 h25) (And.intro (gi_map Leg.enc h27) (And.intro h28 True.intro))))))))))))))) (by kernel_rfl) (li (Sf := impl_AreBookings_L1_S a0 a1) (M := Mk (impl_AreBookings_L1 a0 a1) (impl_AreBookings_L1_k) r) (k := [.blk 0, .code (cAt Try.f58 [1, 1, 1])]) (Nat.lt_succ_self m1) hK1)
        · obtain ⟨v29, h30, hM⟩ := bind_some hM
          rcases cond_cases hM with ⟨h31, hM⟩ | ⟨h31, hM⟩
          · have hE : some (Ctl.ret false) = some c1 := hM
            have hE := Option.some.inj hE
            subst hE
            have hE : some false = some r := hK1
            have hE := Option.some.inj hE
            subst hE
            exact pr R 9999 [.as 18 true, .ix (Booking.enc v7), .new 1, .as 24 false, .call false [] (.o (.c (.v (.bool v29)))) [] [], .as 41 true] [] [] [] (And.intro h6 (And.intro (gi_map Booking.enc h8) (And.intro h9 (And.intro (impl_IsTrip_ok a0 v7.Trip v29 h30) (And.intro h31 True.intro))))) (by kernel_rfl)
          · obtain ⟨v32, h33, hM⟩ := bind_some hM
            rcases cond_cases hM with ⟨h34, hM⟩ | ⟨h34, hM⟩
            · have hE : some (Ctl.ret false) = some c1 := hM
              have hE := Option.some.inj hE
              subst hE
              have hE : some false = some r := hK1
              have hE := Option.some.inj hE
              subst hE
              exact pr R 9999 [.as 18 true, .ix (Booking.enc v7), .new 1, .as 24 false, .call false [] (.o (.c (.v (.bool v29)))) [] [], .as 41 false, .call false [] (.o (.c (.v (.bool v32)))) [] [], .as 47 true] [] [] [] (And.intro h6 (And.intro (gi_map Booking.enc h8) (And.intro h9 (And.intro (impl_IsTrip_ok a0 v7.Trip v29 h30) (And.intro h31 (And.intro (impl_within_ok v7.Thing 1 9999 v32 h33) (And.intro h34 True.intro))))))) (by kernel_rfl)
            · obtain ⟨v35, h36, hM⟩ := bind_some hM
              rcases cond_cases hM with ⟨h37, hM⟩ | ⟨h37, hM⟩
              · have hE : some (Ctl.ret false) = some c1 := hM
                have hE := Option.some.inj hE
                subst hE
                have hE : some false = some r := hK1
                have hE := Option.some.inj hE
                subst hE
                exact pr R 9999 [.as 18 true, .ix (Booking.enc v7), .new 1, .as 24 false, .call false [] (.o (.c (.v (.bool v29)))) [] [], .as 41 false, .call false [] (.o (.c (.v (.bool v32)))) [] [], .as 47 false, .call false [] (.o (.c (.v (.bool v35)))) [] [], .as 53 true] [] [] [] (And.intro h6 (And.intro (gi_map Booking.enc h8) (And.intro h9 (And.intro (impl_IsTrip_ok a0 v7.Trip v29 h30) (And.intro h31 (And.intro (impl_within_ok v7.Thing 1 9999 v32 h33) (And.intro h34 (And.intro (impl_within_ok v7.Weight 1 1000000 v35 h36) (And.intro h37 True.intro))))))))) (by kernel_rfl)
              · obtain ⟨v38, h39, hM⟩ := bind_some hM
                obtain ⟨v40, h41, hM⟩ := bind_some hM
                rcases cond_cases hM with ⟨h42, hM⟩ | ⟨h42, hM⟩
                · have hE : some (Ctl.ret false) = some c1 := hM
                  have hE := Option.some.inj hE
                  subst hE
                  have hE : some false = some r := hK1
                  have hE := Option.some.inj hE
                  subst hE
                  exact pr R 9999 [.as 18 true, .ix (Booking.enc v7), .new 1, .as 24 false, .call false [] (.o (.c (.v (.bool v29)))) [] [], .as 41 false, .call false [] (.o (.c (.v (.bool v32)))) [] [], .as 47 false, .call false [] (.o (.c (.v (.bool v35)))) [] [], .as 53 false, .call false [] (.o (.c (.v (.int .i64 v38)))) [] [], .ix (Leg.enc v40), .as 67 true] [] [] [] (And.intro h6 (And.intro (gi_map Booking.enc h8) (And.intro h9 (And.intro (impl_IsTrip_ok a0 v7.Trip v29 h30) (And.intro h31 (And.intro (impl_within_ok v7.Thing 1 9999 v32 h33) (And.intro h34 (And.intro (impl_within_ok v7.Weight 1 1000000 v35 h36) (And.intro h37 (And.intro (impl_LoadOf_ok a1 v7.Trip v38 h39) (And.intro (gi_map Leg.enc h41) (And.intro h42 True.intro)))))))))))) (by kernel_rfl)
                · have hE : some (Ctl.next (w64 (s5 + 1))) = some c1 := hM
                  have hE := Option.some.inj hE
                  subst hE
                  exact pc R 9999 [.as 18 true, .ix (Booking.enc v7), .new 1, .as 24 false, .call false [] (.o (.c (.v (.bool v29)))) [] [], .as 41 false, .call false [] (.o (.c (.v (.bool v32)))) [] [], .as 47 false, .call false [] (.o (.c (.v (.bool v35)))) [] [], .as 53 false, .call false [] (.o (.c (.v (.int .i64 v38)))) [] [], .ix (Leg.enc v40), .as 67 false] [.keep [1, 2, 15, 16, 17] [0]] (And.intro h6 (And.intro (gi_map Booking.enc h8) (And.intro h9 (And.intro (impl_IsTrip_ok a0 v7.Trip v29 h30) (And.intro h31 (And.intro (impl_within_ok v7.Thing 1 9999 v32 h33) (And.intro h34 (And.intro (impl_within_ok v7.Weight 1 1000000 v35 h36) (And.intro h37 (And.intro (impl_LoadOf_ok a1 v7.Trip v38 h39) (And.intro (gi_map Leg.enc h41) (And.intro h42 True.intro)))))))))))) (by kernel_rfl) (li (Sf := impl_AreBookings_L1_S a0 a1) (M := Mk (impl_AreBookings_L1 a0 a1) (impl_AreBookings_L1_k) r) (k := [.blk 0, .code (cAt Try.f58 [1, 1, 1])]) (Nat.lt_succ_self m1) hK1)
      · have hE : some (Ctl.brk ()) = some c1 := hM
        have hE := Option.some.inj hE
        subst hE
        exact pc R 5 [.as 18 false] [.keep [] []] (And.intro h6 True.intro) (by kernel_rfl) (K1 () hK1)

-- loop.example/g03014/impl.freeOf
def impl_freeOf (a0 : Network) (a1 : (List Booking)) (a2 : (List Trip)) (a3 : Int) : Option (Network × (List Trip) × (List Booking) × Int) :=
  some (a0, a2, a1, a3)
theorem impl_freeOf_ok (a0 : Network) (a1 : (List Booking)) (a2 : (List Trip)) (a3 : Int) (r : (Network × (List Trip) × (List Booking) × Int)) (hM : impl_freeOf a0 a1 a2 a3 = some r) :
    Con Try.prog 59 [.agg [.rs 6 (a0.Legs.map Leg.enc), .rs 1 (a0.Off.map encI), .v (.int .i64 a0.Change)], .c (.rs 4 (a1.map Booking.enc)), .c (.rs 2 (a2.map Trip.enc)), .c (.v (.int .i64 a3))] [] (.o (.c (.fn 94 [1000, 1001, 1002, 1003]))) [] [(1000, .box 32 [.rs 6 (r.1.Legs.map Leg.enc), .rs 1 (r.1.Off.map encI), .v (.int .i64 r.1.Change)]), (1001, .box 27 [.rs 2 (r.2.1.map Trip.enc)]), (1002, .box 41 [.rs 4 (r.2.2.1.map Booking.enc)]), (1003, .box 3 [.v (.int .i64 r.2.2.2)])] := by
  unfold impl_freeOf at hM
  refine cn (N := 10) (pids := []) Try_mixed Try.func59 (by kernel_rfl) (by kernel_rfl) (by kernel_rfl) rfl fun ρ g w R => ?_
  have hE : some (a0, a2, a1, a3) = some r := hM
  have hE := Option.some.inj hE
  subst hE
  exact pr R 9999 [.new 0, .new 1, .new 2, .new 3] [.sw 0 1000, .sw 2 1001, .sw 1 1002, .sw 3 1003] [] [1000, 1001, 1002, 1003] True.intro (by kernel_rfl)

-- math/bits.Len64
def bits_Len64_j2 (s3 : Int) (s4 : Int) : Option Int :=
  bif (decide (s3 ≥ 256)) then
  (siM (ByteArray.mk #[0, 1, 2, 2, 3, 3, 3, 3, 4, 4, 4, 4, 4, 4, 4, 4, 5, 5, 5, 5, 5, 5, 5, 5, 5, 5, 5, 5, 5, 5, 5, 5, 6, 6, 6, 6, 6, 6, 6, 6, 6, 6, 6, 6, 6, 6, 6, 6, 6, 6, 6, 6, 6, 6, 6, 6, 6, 6, 6, 6, 6, 6, 6, 6, 7, 7, 7, 7, 7, 7, 7, 7, 7, 7, 7, 7, 7, 7, 7, 7, 7, 7, 7, 7, 7, 7, 7, 7, 7, 7, 7, 7, 7, 7, 7, 7, 7, 7, 7, 7, 7, 7, 7, 7, 7, 7, 7, 7, 7, 7, 7, 7, 7, 7, 7, 7, 7, 7, 7, 7, 7, 7, 7, 7, 7, 7, 7, 7, 8, 8, 8, 8, 8, 8, 8, 8, 8, 8, 8, 8, 8, 8, 8, 8, 8, 8, 8, 8, 8, 8, 8, 8, 8, 8, 8, 8, 8, 8, 8, 8, 8, 8, 8, 8, 8, 8, 8, 8, 8, 8, 8, 8, 8, 8, 8, 8, 8, 8, 8, 8, 8, 8, 8, 8, 8, 8, 8, 8, 8, 8, 8, 8, 8, 8, 8, 8, 8, 8, 8, 8, 8, 8, 8, 8, 8, 8, 8, 8, 8, 8, 8, 8, 8, 8, 8, 8, 8, 8, 8, 8, 8, 8, 8, 8, 8, 8, 8, 8, 8, 8, 8, 8, 8, 8, 8, 8, 8, 8, 8, 8, 8, 8, 8, 8, 8, 8, 8, 8, 8, 8, 8, 8, 8, 8, 8, 8]) (IntKind.u8.wrap (Int.fdiv s3 (2 ^ 8)))).bind fun v6 =>
  some (w64 ((w64 (s4 + 8)) + (w64 v6)))
  else
  (siM (ByteArray.mk #[0, 1, 2, 2, 3, 3, 3, 3, 4, 4, 4, 4, 4, 4, 4, 4, 5, 5, 5, 5, 5, 5, 5, 5, 5, 5, 5, 5, 5, 5, 5, 5, 6, 6, 6, 6, 6, 6, 6, 6, 6, 6, 6, 6, 6, 6, 6, 6, 6, 6, 6, 6, 6, 6, 6, 6, 6, 6, 6, 6, 6, 6, 6, 6, 7, 7, 7, 7, 7, 7, 7, 7, 7, 7, 7, 7, 7, 7, 7, 7, 7, 7, 7, 7, 7, 7, 7, 7, 7, 7, 7, 7, 7, 7, 7, 7, 7, 7, 7, 7, 7, 7, 7, 7, 7, 7, 7, 7, 7, 7, 7, 7, 7, 7, 7, 7, 7, 7, 7, 7, 7, 7, 7, 7, 7, 7, 7, 7, 8, 8, 8, 8, 8, 8, 8, 8, 8, 8, 8, 8, 8, 8, 8, 8, 8, 8, 8, 8, 8, 8, 8, 8, 8, 8, 8, 8, 8, 8, 8, 8, 8, 8, 8, 8, 8, 8, 8, 8, 8, 8, 8, 8, 8, 8, 8, 8, 8, 8, 8, 8, 8, 8, 8, 8, 8, 8, 8, 8, 8, 8, 8, 8, 8, 8, 8, 8, 8, 8, 8, 8, 8, 8, 8, 8, 8, 8, 8, 8, 8, 8, 8, 8, 8, 8, 8, 8, 8, 8, 8, 8, 8, 8, 8, 8, 8, 8, 8, 8, 8, 8, 8, 8, 8, 8, 8, 8, 8, 8, 8, 8, 8, 8, 8, 8, 8, 8, 8, 8, 8, 8, 8, 8, 8, 8, 8, 8]) (IntKind.u8.wrap s3)).bind fun v8 =>
  some (w64 (s4 + (w64 v8)))
def bits_Len64_j1 (s1 : Int) (s2 : Int) : Option Int :=
  bif (decide (s1 ≥ 65536)) then
  bits_Len64_j2 (Int.fdiv s1 (2 ^ 16)) (w64 (s2 + 16))
  else
  bits_Len64_j2 s1 s2
def bits_Len64 (a0 : Int) : Option Int :=
  bif (decide (a0 ≥ 4294967296)) then
  bits_Len64_j1 (Int.fdiv a0 (2 ^ 32)) 32
  else
  bits_Len64_j1 a0 0
theorem bits_Len64_ok (a0 : Int) (r : Int) (hM : bits_Len64 a0 = some r) :
    Con Try.prog 134 [.c (.v (.int .u64 a0))] [] (.o (.c (.v (.int .i64 r)))) [] [] := by
  unfold bits_Len64 at hM
  refine cn (N := 25) (pids := []) Try_mixed Try.func134 (by kernel_rfl) (by kernel_rfl) (by kernel_rfl) rfl fun ρ g w R => ?_
  have J2 : ∀ (s1 : Int) (s2 : Int), bits_Len64_j1 s1 s2 = some r → Gr R [.code (cAt Try.f134 [1, 1])] (⟨[(0, .o (.c (.v (.int .u64 s1)))), (2, .o (.c (.v (.int .i64 s2))))], []⟩) := by
    intro s1 s2 hM
    unfold bits_Len64_j1 at hM
    have J2 : ∀ (s3 : Int) (s4 : Int), bits_Len64_j2 s3 s4 = some r → Gr R [.code (cAt Try.f134 [1, 1, 1])] (⟨[(0, .o (.c (.v (.int .u64 s3)))), (2, .o (.c (.v (.int .i64 s4))))], []⟩) := by
      intro s3 s4 hM
      unfold bits_Len64_j2 at hM
      rcases cond_cases hM with ⟨h5, hM⟩ | ⟨h5, hM⟩
      · obtain ⟨v6, h7, hM⟩ := bind_some hM
        have hE : some (w64 ((w64 (s4 + 8)) + (w64 v6))) = some r := hM
        have hE := Option.some.inj hE
        subst hE
        exact pr R 9999 [.as 14 true, .ix [.int .u8 v6]] [] [] [] (And.intro h5 (And.intro (siM_ok h7) True.intro)) (by kernel_rfl)
      · obtain ⟨v8, h9, hM⟩ := bind_some hM
        have hE : some (w64 (s4 + (w64 v8))) = some r := hM
        have hE := Option.some.inj hE
        subst hE
        exact pr R 9999 [.as 14 false, .ix [.int .u8 v8]] [] [] [] (And.intro h5 (And.intro (siM_ok h9) True.intro)) (by kernel_rfl)
    rcases cond_cases hM with ⟨h10, hM⟩ | ⟨h10, hM⟩
    · exact pc R 7 [.as 8 true] [.keep [0, 2] []] (And.intro h10 True.intro) (by kernel_rfl) (J2 (Int.fdiv s1 (2 ^ 16)) (w64 (s2 + 16)) hM)
    · exact pc R 5 [.as 8 false] [.keep [0, 2] []] (And.intro h10 True.intro) (by kernel_rfl) (J2 s1 s2 hM)
  rcases cond_cases hM with ⟨h11, hM⟩ | ⟨h11, hM⟩
  · exact pc R 9 [.as 4 true] [.keep [0, 2] []] (And.intro h11 True.intro) (by kernel_rfl) (J2 (Int.fdiv a0 (2 ^ 32)) 32 hM)
  · exact pc R 7 [.as 4 false] [.keep [0, 2] []] (And.intro h11 True.intro) (by kernel_rfl) (J2 a0 0 hM)

-- math/bits.Len
def bits_Len (a0 : Int) : Option Int :=
  (bits_Len64 a0).bind fun v1 =>
  some v1
theorem bits_Len_ok (a0 : Int) (r : Int) (hM : bits_Len a0 = some r) :
    Con Try.prog 123 [.c (.v (.int .u64 a0))] [] (.o (.c (.v (.int .i64 r)))) [] [] := by
  unfold bits_Len at hM
  refine cn (N := 8) (pids := []) Try_mixed Try.func123 (by kernel_rfl) (by kernel_rfl) (by kernel_rfl) rfl fun ρ g w R => ?_
  obtain ⟨v1, h2, hM⟩ := bind_some hM
  have hE : some v1 = some r := hM
  have hE := Option.some.inj hE
  subst hE
  exact pr R 9999 [.call false [] (.o (.c (.v (.int .i64 v1)))) [] []] [] [] [] (And.intro (bits_Len64_ok a0 v1 h2) True.intro) (by kernel_rfl)

-- slices.insertionSortOrdered[string]
def slices_insertionSortOrdered_string__at0nil_10_20_L1_b : Option (Ctl Unit Unit Unit) :=
  some (.brk ())
def slices_insertionSortOrdered_string__at0nil_10_20_L1 (s : Unit) : Option (Ctl Unit Unit Unit) := slices_insertionSortOrdered_string__at0nil_10_20_L1_b
def slices_insertionSortOrdered_string__at0nil_10_20_L1_s : St := ⟨[(0, .o (.c (.v (.slice none 0 0)))), (1, .o (.c (.v (.int .i64 0)))), (2, .o (.c (.v (.int .i64 0)))), (6, .o (.c (.v (.int .i64 1))))], []⟩
def slices_insertionSortOrdered_string__at0nil_10_20_L1_S (s : Unit) : St := slices_insertionSortOrdered_string__at0nil_10_20_L1_s
def slices_insertionSortOrdered_string__at0nil_10_20_L1_a : Option Unit :=
  some ()
def slices_insertionSortOrdered_string__at0nil_10_20_L1_k (x : (Unit) ⊕ (Unit)) : Option Unit := match x with
  | .inl t => slices_insertionSortOrdered_string__at0nil_10_20_L1_a
  | .inr y => some y
def slices_insertionSortOrdered_string__at0nil_10_20 : Option Unit :=
  (loopM (slices_insertionSortOrdered_string__at0nil_10_20_L1) big ()).bind (slices_insertionSortOrdered_string__at0nil_10_20_L1_k)
theorem slices_insertionSortOrdered_string__at0nil_10_20_ok (r : Unit) (hM : slices_insertionSortOrdered_string__at0nil_10_20 = some r) :
    Con Try.prog 124 [.c (.v (.slice none 0 0)), .c (.v (.int .i64 0)), .c (.v (.int .i64 0))] [] (.tup []) [] [] := by
  unfold slices_insertionSortOrdered_string__at0nil_10_20 at hM
  refine cn (N := 49) (pids := []) Try_mixed Try.func124 (by kernel_rfl) (by kernel_rfl) (by kernel_rfl) rfl fun ρ g w R => ?_
  have K1 : ∀ (_ : Unit), slices_insertionSortOrdered_string__at0nil_10_20_L1_a = some r → Gr R [] (⟨[], []⟩) := by
    intro _ hM
    unfold slices_insertionSortOrdered_string__at0nil_10_20_L1_a at hM
    have hE : some () = some r := hM
    have hE := Option.some.inj hE
    subst hE
    exact pr R 9999 [] [] [] [] True.intro (by kernel_rfl)
  refine pc R 9999 [] [.keep [0, 1, 2, 6] []] (k' := [.code (.loop (cAt Try.f124 [1, 0, 0])), .blk 0]) (S' := slices_insertionSortOrdered_string__at0nil_10_20_L1_S ()) True.intro (by kernel_rfl) ?_
  refine lq (slices_insertionSortOrdered_string__at0nil_10_20_L1_S) (body := slices_insertionSortOrdered_string__at0nil_10_20_L1) (k := slices_insertionSortOrdered_string__at0nil_10_20_L1_k) hM fun m1 s c1 hM hK1 => ?_
  have hM : slices_insertionSortOrdered_string__at0nil_10_20_L1_b = some c1 := hM
  unfold slices_insertionSortOrdered_string__at0nil_10_20_L1_b at hM
  have hE : some (Ctl.brk ()) = some c1 := hM
  have hE := Option.some.inj hE
  subst hE
  exact pc R 5 [] [.keep [] []] True.intro (by kernel_rfl) (K1 () hK1)

-- slices.pdqsortOrdered[string]
def slices_pdqsortOrdered_string__at0nil_10_20_L1_b : Option (Ctl Unit Unit Unit) :=
  (slices_insertionSortOrdered_string__at0nil_10_20).bind fun v1 =>
  some (.ret ())
def slices_pdqsortOrdered_string__at0nil_10_20_L1 (s : Unit) : Option (Ctl Unit Unit Unit) := slices_pdqsortOrdered_string__at0nil_10_20_L1_b
def slices_pdqsortOrdered_string__at0nil_10_20_L1_s (a3 : Int) : St := ⟨[(0, .o (.c (.v (.slice none 0 0)))), (1, .o (.c (.v (.int .i64 0)))), (2, .o (.c (.v (.int .i64 0)))), (3, .o (.c (.v (.int .i64 a3)))), (8, .o (.c (.v (.bool true)))), (9, .o (.c (.v (.bool true))))], []⟩
def slices_pdqsortOrdered_string__at0nil_10_20_L1_S (a3 : Int) (s : Unit) : St := slices_pdqsortOrdered_string__at0nil_10_20_L1_s a3
def slices_pdqsortOrdered_string__at0nil_10_20_L1_k (x : Unit ⊕ (Unit)) : Option Unit := match x with
  | .inl _ => none
  | .inr y => some y
def slices_pdqsortOrdered_string__at0nil_10_20_F (self : Int → Option Unit) (a3 : Int) : Option Unit :=
  (loopM (slices_pdqsortOrdered_string__at0nil_10_20_L1) big ()).bind (slices_pdqsortOrdered_string__at0nil_10_20_L1_k)
def slices_pdqsortOrdered_string__at0nil_10_20_n : Nat → Int → Option Unit
  | 0, _ => none
  | n + 1, a3 => slices_pdqsortOrdered_string__at0nil_10_20_F (slices_pdqsortOrdered_string__at0nil_10_20_n n) a3
def slices_pdqsortOrdered_string__at0nil_10_20 (a3 : Int) : Option Unit := slices_pdqsortOrdered_string__at0nil_10_20_n big a3
theorem slices_pdqsortOrdered_string__at0nil_10_20_step (self : Int → Option Unit) (ih : ∀ (a3 : Int) (r : Unit), self a3 = some r →
    Con Try.prog 122 [.c (.v (.slice none 0 0)), .c (.v (.int .i64 0)), .c (.v (.int .i64 0)), .c (.v (.int .i64 a3))] [] (.tup []) [] [])
     (a3 : Int) (r : Unit) (hM : slices_pdqsortOrdered_string__at0nil_10_20_F self a3 = some r) :
    Con Try.prog 122 [.c (.v (.slice none 0 0)), .c (.v (.int .i64 0)), .c (.v (.int .i64 0)), .c (.v (.int .i64 a3))] [] (.tup []) [] [] := by
  unfold slices_pdqsortOrdered_string__at0nil_10_20_F at hM
  refine cn (N := 134) (pids := []) Try_mixed Try.func122 (by kernel_rfl) (by kernel_rfl) (by kernel_rfl) rfl fun ρ g w R => ?_
  refine pc R 9999 [] [.keep [0, 1, 2, 3, 8, 9] []] (k' := [.code (.loop (cAt Try.f122 [1, 1, 0, 0])), .blk 0]) (S' := slices_pdqsortOrdered_string__at0nil_10_20_L1_S a3 ()) True.intro (by kernel_rfl) ?_
  refine lq (slices_pdqsortOrdered_string__at0nil_10_20_L1_S a3) (body := slices_pdqsortOrdered_string__at0nil_10_20_L1) (k := slices_pdqsortOrdered_string__at0nil_10_20_L1_k) hM fun m1 s c1 hM hK1 => ?_
  have hM : slices_pdqsortOrdered_string__at0nil_10_20_L1_b = some c1 := hM
  unfold slices_pdqsortOrdered_string__at0nil_10_20_L1_b at hM
  obtain ⟨v1, h2, hM⟩ := bind_some hM
  have hE : some (Ctl.ret ()) = some c1 := hM
  have hE := Option.some.inj hE
  subst hE
  have hE : some () = some r := hK1
  have hE := Option.some.inj hE
  subst hE
  exact pr R 9999 [.call false [] (.tup []) [] []] [] [] [] (And.intro (slices_insertionSortOrdered_string__at0nil_10_20_ok v1 h2) True.intro) (by kernel_rfl)
theorem slices_pdqsortOrdered_string__at0nil_10_20_nok : ∀ (n : Nat) (a3 : Int) (r : Unit), slices_pdqsortOrdered_string__at0nil_10_20_n n a3 = some r →
    Con Try.prog 122 [.c (.v (.slice none 0 0)), .c (.v (.int .i64 0)), .c (.v (.int .i64 0)), .c (.v (.int .i64 a3))] [] (.tup []) [] []
  | 0, _, _, h => by cases h
  | n + 1, a3, r, h => slices_pdqsortOrdered_string__at0nil_10_20_step (slices_pdqsortOrdered_string__at0nil_10_20_n n) (slices_pdqsortOrdered_string__at0nil_10_20_nok n) a3 r h
theorem slices_pdqsortOrdered_string__at0nil_10_20_ok (a3 : Int) (r : Unit) (h : slices_pdqsortOrdered_string__at0nil_10_20 a3 = some r) :
    Con Try.prog 122 [.c (.v (.slice none 0 0)), .c (.v (.int .i64 0)), .c (.v (.int .i64 0)), .c (.v (.int .i64 a3))] [] (.tup []) [] [] := slices_pdqsortOrdered_string__at0nil_10_20_nok big a3 r h

-- slices.Sort[[]string,string]
def slices_Sort___string_string__at0nil : Option Unit :=
  (bits_Len 0).bind fun v1 =>
  (slices_pdqsortOrdered_string__at0nil_10_20 v1).bind fun v3 =>
  some ()
theorem slices_Sort___string_string__at0nil_ok (r : Unit) (hM : slices_Sort___string_string__at0nil = some r) :
    Con Try.prog 120 [.c (.v (.slice none 0 0))] [] (.tup []) [] [] := by
  unfold slices_Sort___string_string__at0nil at hM
  refine cn (N := 11) (pids := []) Try_mixed Try.func120 (by kernel_rfl) (by kernel_rfl) (by kernel_rfl) rfl fun ρ g w R => ?_
  obtain ⟨v1, h2, hM⟩ := bind_some hM
  obtain ⟨v3, h4, hM⟩ := bind_some hM
  have hE : some () = some r := hM
  have hE := Option.some.inj hE
  subst hE
  exact pr R 9999 [.ad (.nr 3 1), .ln 0, .call false [] (.o (.c (.v (.int .i64 v1)))) [] [], .call false [] (.tup []) [] []] [] [] [] (And.intro (rfl : ([] : List (List Value)).length = 0) (And.intro (bits_Len_ok 0 v1 h2) (And.intro (slices_pdqsortOrdered_string__at0nil_10_20_ok v1 v3 h4) True.intro))) (by kernel_rfl)

-- sort.Strings
def sort_Strings_at0nil : Option Unit :=
  (slices_Sort___string_string__at0nil).bind fun v1 =>
  some ()
theorem sort_Strings_at0nil_ok (r : Unit) (hM : sort_Strings_at0nil = some r) :
    Con Try.prog 102 [.c (.v (.slice none 0 0))] [] (.tup []) [] [] := by
  unfold sort_Strings_at0nil at hM
  refine cn (N := 4) (pids := []) Try_mixed Try.func102 (by kernel_rfl) (by kernel_rfl) (by kernel_rfl) rfl fun ρ g w R => ?_
  obtain ⟨v1, h2, hM⟩ := bind_some hM
  have hE : some () = some r := hM
  have hE := Option.some.inj hE
  subst hE
  exact pr R 9999 [.call false [] (.tup []) [] []] [] [] [] (And.intro (slices_Sort___string_string__at0nil_ok v1 h2) True.intro) (by kernel_rfl)

-- sort.Strings
def sort_Strings (a0 : List ByteArray) : Option (List ByteArray) := if a0.length < 4611686018427387904 then some (sortB a0) else none
theorem sort_Strings_ok (a0 : List ByteArray) (r : List ByteArray) (hM : sort_Strings a0 = some r) :
    Con Try.prog 102 [.c (.sl 900)] [(900, .row 9 1 (a0.map encS))] (.tup []) [(900, .row 9 1 (r.map encS))] [] := by
  unfold sort_Strings at hM
  split at hM
  · rename_i h
    have hE := Option.some.inj hM
    subst hE
    exact con_sort Try.lays192 (by rfl) (sort_Strings_at0nil_ok () (by kernel_rfl)) a0 h
  · cases hM


-- loop.example/g03014/impl.PlacesOf
def impl_PlacesOf_L2_b (v8 : Leg) (s10 : (List ByteArray)) (s11 : (List ByteArray)) (s12 : Int) : Option (Ctl ((List ByteArray) × (List ByteArray) × Int) ((List ByteArray) × (List ByteArray)) (List ByteArray)) :=
  bif (decide (s12 < (([v8.From, v8.To] : List ByteArray).length : Int))) then
  (gi ([v8.From, v8.To] : List ByteArray) s12).bind fun v16 =>
  bif (!(memB v16 s10)) then
  (ap 16 s11 ([v16] : List ByteArray)).bind fun v19 =>
  some (.next (putB v16 s10, v19, w64 (s12 + 1)))
  else
  some (.next (s10, s11, w64 (s12 + 1)))
  else
  some (.brk (s10, s11))
def impl_PlacesOf_L2 (v8 : Leg) (s : (List ByteArray) × (List ByteArray) × Int) : Option (Ctl ((List ByteArray) × (List ByteArray) × Int) ((List ByteArray) × (List ByteArray)) (List ByteArray)) := impl_PlacesOf_L2_b v8 s.1 s.2.1 s.2.2
def impl_PlacesOf_L2_s (a0 : Network) (s3 : Int) (v8 : Leg) (s10 : (List ByteArray)) (s11 : (List ByteArray)) (s12 : Int) : St := ⟨[(3, .o (.c (.sl 1))), (4, .o (.c (.sl 2))), (12, .o (.c (.rs 6 (a0.Legs.map Leg.enc)))), (13, .o (.c (.v (.int .i64 (a0.Legs.length : Int))))), (14, .o (.c (.v (.int .i64 s3)))), (22, .o (.c (.sl 4))), (23, .o (.c (.v (.int .i64 (([v8.From, v8.To] : List ByteArray).length : Int))))), (24, .o (.c (.v (.int .i64 s12))))], [(1, .smap 9 4 s10), (2, .row 9 1 (s11.map encS)), (4, .row 9 1 (([v8.From, v8.To] : List ByteArray).map encS))]⟩
def impl_PlacesOf_L2_S (a0 : Network) (s3 : Int) (v8 : Leg) (s : (List ByteArray) × (List ByteArray) × Int) : St := impl_PlacesOf_L2_s a0 s3 v8 s.1 s.2.1 s.2.2
def impl_PlacesOf_L2_a (s3 : Int) (s13 : (List ByteArray)) (s14 : (List ByteArray)) : Option (Ctl ((List ByteArray) × (List ByteArray) × Int) (List ByteArray) (List ByteArray)) :=
  some (.next (s13, s14, w64 (s3 + 1)))
def impl_PlacesOf_L2_k (s3 : Int) (x : ((List ByteArray) × (List ByteArray)) ⊕ ((List ByteArray))) : Option (Ctl ((List ByteArray) × (List ByteArray) × Int) (List ByteArray) (List ByteArray)) := match x with
  | .inl t => impl_PlacesOf_L2_a s3 t.1 t.2
  | .inr y => some (.ret y)
def impl_PlacesOf_L1_b (a0 : Network) (s1 : (List ByteArray)) (s2 : (List ByteArray)) (s3 : Int) : Option (Ctl ((List ByteArray) × (List ByteArray) × Int) (List ByteArray) (List ByteArray)) :=
  bif (decide (s3 < (a0.Legs.length : Int))) then
  (gi a0.Legs s3).bind fun v8 =>
  (loopM (impl_PlacesOf_L2 v8) big (s1, s2, 0)).bind (impl_PlacesOf_L2_k s3)
  else
  some (.brk s2)
def impl_PlacesOf_L1 (a0 : Network) (s : (List ByteArray) × (List ByteArray) × Int) : Option (Ctl ((List ByteArray) × (List ByteArray) × Int) (List ByteArray) (List ByteArray)) := impl_PlacesOf_L1_b a0 s.1 s.2.1 s.2.2
def impl_PlacesOf_L1_s (a0 : Network) (s1 : (List ByteArray)) (s2 : (List ByteArray)) (s3 : Int) : St := ⟨[(3, .o (.c (.sl 1))), (4, .o (.c (.sl 2))), (12, .o (.c (.rs 6 (a0.Legs.map Leg.enc)))), (13, .o (.c (.v (.int .i64 (a0.Legs.length : Int))))), (14, .o (.c (.v (.int .i64 s3))))], [(1, .smap 9 4 s1), (2, .row 9 1 (s2.map encS))]⟩
def impl_PlacesOf_L1_S (a0 : Network) (s : (List ByteArray) × (List ByteArray) × Int) : St := impl_PlacesOf_L1_s a0 s.1 s.2.1 s.2.2
def impl_PlacesOf_L1_a (s4 : (List ByteArray)) : Option (List ByteArray) :=
  (sort_Strings s4).bind fun v5 =>
  some v5
def impl_PlacesOf_L1_k (x : ((List ByteArray)) ⊕ ((List ByteArray))) : Option (List ByteArray) := match x with
  | .inl t => impl_PlacesOf_L1_a t
  | .inr y => some y
def impl_PlacesOf (a0 : Network) : Option (List ByteArray) :=
  (loopM (impl_PlacesOf_L1 a0) big (([] : List ByteArray), ([] : List ByteArray), 0)).bind (impl_PlacesOf_L1_k)
theorem impl_PlacesOf_ok (a0 : Network) (r : (List ByteArray)) (hM : impl_PlacesOf a0 = some r) :
    Con Try.prog 65 [.agg [.rs 6 (a0.Legs.map Leg.enc), .rs 1 (a0.Off.map encI), .v (.int .i64 a0.Change)]] [] (.o (.c (.sl 1000))) [] [(1000, .row 9 1 (r.map encS))] := by
  unfold impl_PlacesOf at hM
  refine cn (N := 43) (pids := []) Try_mixed Try.func65 (by kernel_rfl) (by kernel_rfl) (by kernel_rfl) rfl fun ρ g w R => ?_
  have K1 : ∀ (s4 : (List ByteArray)), impl_PlacesOf_L1_a s4 = some r → Gr R [.code (cAt Try.f65 [1, 1, 1, 1])] (⟨[(4, .o (.c (.sl 2)))], [(2, .row 9 1 (s4.map encS))]⟩) := by
    intro s4 hM
    unfold impl_PlacesOf_L1_a at hM
    obtain ⟨v5, h6, hM⟩ := bind_some hM
    have hE : some v5 = some r := hM
    have hE := Option.some.inj hE
    subst hE
    exact pr R 9999 [.call false [2] (.tup []) [(2, .row 9 1 (v5.map encS))] []] [.sw 2 1000] [] [1000] (And.intro (And.intro (con_sw 900 2 (sort_Strings_ok s4 v5 h6)) (rfl : ([2] : List Nat) = [2])) True.intro) (by kernel_rfl)
  refine pc R 9999 [.new 0, .new 1, .new 2, .ln (a0.Legs.length)] [.keep [3, 4, 12, 13, 14] [1, 2]] (k' := [.code (.loop (cAt Try.f65 [1, 1, 1, 0, 1, 0, 0])), .blk 0, .code (cAt Try.f65 [1, 1, 1, 1])]) (S' := impl_PlacesOf_L1_S a0 (([] : List ByteArray), ([] : List ByteArray), 0)) (And.intro (lenm Leg.enc a0.Legs) True.intro) (by kernel_rfl) ?_
  refine lq (impl_PlacesOf_L1_S a0) (body := impl_PlacesOf_L1 a0) (k := impl_PlacesOf_L1_k) hM fun m1 s c1 hM hK1 => ?_
  obtain ⟨s1, s2, s3⟩ := s
  have hM : impl_PlacesOf_L1_b a0 s1 s2 s3 = some c1 := hM
  unfold impl_PlacesOf_L1_b at hM
  rcases cond_cases hM with ⟨h7, hM⟩ | ⟨h7, hM⟩
  · obtain ⟨v8, h9, hM⟩ := bind_some hM
    have K2 : ∀ (s13 : (List ByteArray)) (s14 : (List ByteArray)), impl_PlacesOf_L2_a s3 s13 s14 = some c1 → Gr R [.blk 1, .code (cAt Try.f65 [1, 1, 1, 0, 1, 0, 0, 1, 1, 1]), .inv (Jr R (impl_PlacesOf_L1_S a0) (Mk (impl_PlacesOf_L1 a0) (impl_PlacesOf_L1_k) r) (m1 + 1)), .blk 0, .code (cAt Try.f65 [1, 1, 1, 1])] (⟨[(3, .o (.c (.sl 1))), (4, .o (.c (.sl 2))), (12, .o (.c (.rs 6 (a0.Legs.map Leg.enc)))), (13, .o (.c (.v (.int .i64 (a0.Legs.length : Int))))), (14, .o (.c (.v (.int .i64 s3))))], [(1, .smap 9 4 s13), (2, .row 9 1 (s14.map encS))]⟩) := by
      intro s13 s14 hM
      unfold impl_PlacesOf_L2_a at hM
      have hE : some (Ctl.next (s13, s14, w64 (s3 + 1))) = some c1 := hM
      have hE := Option.some.inj hE
      subst hE
      exact pc R 9999 [] [.keep [3, 4, 12, 13, 14] [1, 2]] True.intro (by kernel_rfl) (li (Sf := impl_PlacesOf_L1_S a0) (M := Mk (impl_PlacesOf_L1 a0) (impl_PlacesOf_L1_k) r) (k := [.blk 0, .code (cAt Try.f65 [1, 1, 1, 1])]) (Nat.lt_succ_self m1) hK1)
    refine pc R 9999 [.as 15 true, .ix (Leg.enc v8), .new 3, .new 4, .ln (([v8.From, v8.To] : List ByteArray).length)] [.keep [3, 4, 12, 13, 14, 22, 23, 24] [1, 2, 4]] (k' := [.code (.loop (cAt Try.f65 [1, 1, 1, 0, 1, 0, 0, 1, 1, 0, 0, 1, 1, 0, 0])), .blk 2, .blk 1, .code (cAt Try.f65 [1, 1, 1, 0, 1, 0, 0, 1, 1, 1]), .inv (Jr R (impl_PlacesOf_L1_S a0) (Mk (impl_PlacesOf_L1 a0) (impl_PlacesOf_L1_k) r) (m1 + 1)), .blk 0, .code (cAt Try.f65 [1, 1, 1, 1])]) (S' := impl_PlacesOf_L2_S a0 s3 v8 (s1, s2, 0)) (And.intro h7 (And.intro (gi_map Leg.enc h9) (And.intro (lenm encS ([v8.From, v8.To] : List ByteArray)) True.intro))) (by kernel_rfl) ?_
    refine lq (impl_PlacesOf_L2_S a0 s3 v8) (body := impl_PlacesOf_L2 v8) (k := impl_PlacesOf_L2_k s3) hM fun m2 s c2 hM hK2 => ?_
    obtain ⟨s10, s11, s12⟩ := s
    have hM : impl_PlacesOf_L2_b v8 s10 s11 s12 = some c2 := hM
    unfold impl_PlacesOf_L2_b at hM
    rcases cond_cases hM with ⟨h15, hM⟩ | ⟨h15, hM⟩
    · obtain ⟨v16, h17, hM⟩ := bind_some hM
      rcases cond_cases hM with ⟨h18, hM⟩ | ⟨h18, hM⟩
      · obtain ⟨v19, h20, hM⟩ := bind_some hM
        have hE : some (Ctl.next (putB v16 s10, v19, w64 (s12 + 1))) = some c2 := hM
        have hE := Option.some.inj hE
        subst hE
        exact pc R 9999 [.as 25 true, .ix (encS v16), .as 31 true, .new 5, .new 6, .nm (v19.map encS)] [.sw 6 2, .keep [3, 4, 12, 13, 14, 22, 23, 24] [1, 2, 4]] (And.intro h15 (And.intro (gi_lt encS h17) (And.intro ((gi_map encS h17).2) (And.intro h18 (And.intro (ap_ok encS h20) True.intro))))) (by kernel_rfl) (li (Sf := impl_PlacesOf_L2_S a0 s3 v8) (M := Mk (impl_PlacesOf_L2 v8) (impl_PlacesOf_L2_k s3) c1) (k := [.blk 2, .blk 1, .code (cAt Try.f65 [1, 1, 1, 0, 1, 0, 0, 1, 1, 1]), .inv (Jr R (impl_PlacesOf_L1_S a0) (Mk (impl_PlacesOf_L1 a0) (impl_PlacesOf_L1_k) r) (m1 + 1)), .blk 0, .code (cAt Try.f65 [1, 1, 1, 1])]) (Nat.lt_succ_self m2) hK2)
      · have hE : some (Ctl.next (s10, s11, w64 (s12 + 1))) = some c2 := hM
        have hE := Option.some.inj hE
        subst hE
        exact pc R 9999 [.as 25 true, .ix (encS v16), .as 31 false] [.keep [3, 4, 12, 13, 14, 22, 23, 24] [1, 2, 4]] (And.intro h15 (And.intro (gi_lt encS h17) (And.intro ((gi_map encS h17).2) (And.intro h18 True.intro)))) (by kernel_rfl) (li (Sf := impl_PlacesOf_L2_S a0 s3 v8) (M := Mk (impl_PlacesOf_L2 v8) (impl_PlacesOf_L2_k s3) c1) (k := [.blk 2, .blk 1, .code (cAt Try.f65 [1, 1, 1, 0, 1, 0, 0, 1, 1, 1]), .inv (Jr R (impl_PlacesOf_L1_S a0) (Mk (impl_PlacesOf_L1 a0) (impl_PlacesOf_L1_k) r) (m1 + 1)), .blk 0, .code (cAt Try.f65 [1, 1, 1, 1])]) (Nat.lt_succ_self m2) hK2)
    · have hE : some (Ctl.brk (s10, s11)) = some c2 := hM
      have hE := Option.some.inj hE
      subst hE
      exact pc R 5 [.as 25 false] [.keep [3, 4, 12, 13, 14] [1, 2]] (And.intro h15 True.intro) (by kernel_rfl) (K2 s10 s11 hK2)
  · have hE : some (Ctl.brk s2) = some c1 := hM
    have hE := Option.some.inj hE
    subst hE
    exact pc R 5 [.as 15 false] [.keep [4] [2]] (And.intro h7 True.intro) (by kernel_rfl) (K1 s2 hK1)

-- loop.example/g03014/impl.placeAt
def impl_placeAt_L1_b (a0 : (List ByteArray)) (a1 : ByteArray) (s1 : Int) : Option (Ctl Int Unit Int) :=
  bif (decide (s1 < (a0.length : Int))) then
  (gi a0 s1).bind fun v3 =>
  bif (v3.toList == a1.toList) then
  some (.ret s1)
  else
  some (.next (w64 (s1 + 1)))
  else
  some (.brk ())
def impl_placeAt_L1 (a0 : (List ByteArray)) (a1 : ByteArray) (s : Int) : Option (Ctl Int Unit Int) := impl_placeAt_L1_b a0 a1 s
def impl_placeAt_L1_s (a0 : (List ByteArray)) (a1 : ByteArray) (s1 : Int) : St := ⟨[(1, .o (.c (.v (.string a1)))), (7, .o (.c (.rs 1 (a0.map encS)))), (8, .o (.c (.v (.int .i64 (a0.length : Int))))), (9, .o (.c (.v (.int .i64 s1))))], []⟩
def impl_placeAt_L1_S (a0 : (List ByteArray)) (a1 : ByteArray) (s : Int) : St := impl_placeAt_L1_s a0 a1 s
def impl_placeAt_L1_a : Option Int :=
  some (-1)
def impl_placeAt_L1_k (x : (Unit) ⊕ (Int)) : Option Int := match x with
  | .inl t => impl_placeAt_L1_a
  | .inr y => some y
def impl_placeAt (a0 : (List ByteArray)) (a1 : ByteArray) : Option Int :=
  (loopM (impl_placeAt_L1 a0 a1) big 0).bind (impl_placeAt_L1_k)
theorem impl_placeAt_ok (a0 : (List ByteArray)) (a1 : ByteArray) (r : Int) (hM : impl_placeAt a0 a1 = some r) :
    Con Try.prog 67 [.c (.rs 1 (a0.map encS)), .c (.v (.string a1))] [] (.o (.c (.v (.int .i64 r)))) [] [] := by
  unfold impl_placeAt at hM
  refine cn (N := 19) (pids := []) Try_mixed Try.func67 (by kernel_rfl) (by kernel_rfl) (by kernel_rfl) rfl fun ρ g w R => ?_
  have K1 : ∀ (_ : Unit), impl_placeAt_L1_a = some r → Gr R [.code (cAt Try.f67 [1, 1])] (⟨[], []⟩) := by
    intro _ hM
    unfold impl_placeAt_L1_a at hM
    have hE : some (-1) = some r := hM
    have hE := Option.some.inj hE
    subst hE
    exact pr R 9999 [] [] [] [] True.intro (by kernel_rfl)
  refine pc R 9999 [.ln (a0.length)] [.keep [1, 7, 8, 9] []] (k' := [.code (.loop (cAt Try.f67 [1, 0, 1, 0, 0])), .blk 0, .code (cAt Try.f67 [1, 1])]) (S' := impl_placeAt_L1_S a0 a1 0) (And.intro (lenm encS a0) True.intro) (by kernel_rfl) ?_
  refine lq (impl_placeAt_L1_S a0 a1) (body := impl_placeAt_L1 a0 a1) (k := impl_placeAt_L1_k) hM fun m1 s c1 hM hK1 => ?_
  obtain ⟨s1, hs⟩ : ∃ z, z = s := ⟨_, rfl⟩
  subst hs
  have hM : impl_placeAt_L1_b a0 a1 s1 = some c1 := hM
  unfold impl_placeAt_L1_b at hM
  rcases cond_cases hM with ⟨h2, hM⟩ | ⟨h2, hM⟩
  · obtain ⟨v3, h4, hM⟩ := bind_some hM
    rcases cond_cases hM with ⟨h5, hM⟩ | ⟨h5, hM⟩
    · have hE : some (Ctl.ret s1) = some c1 := hM
      have hE := Option.some.inj hE
      subst hE
      have hE : some s1 = some r := hK1
      have hE := Option.some.inj hE
      subst hE
      exact pr R 9999 [.as 10 true, .ix (encS v3), .as 16 true] [] [] [] (And.intro h2 (And.intro (gi_map encS h4) (And.intro h5 True.intro))) (by kernel_rfl)
    · have hE : some (Ctl.next (w64 (s1 + 1))) = some c1 := hM
      have hE := Option.some.inj hE
      subst hE
      exact pc R 9999 [.as 10 true, .ix (encS v3), .as 16 false] [.keep [1, 7, 8, 9] []] (And.intro h2 (And.intro (gi_map encS h4) (And.intro h5 True.intro))) (by kernel_rfl) (li (Sf := impl_placeAt_L1_S a0 a1) (M := Mk (impl_placeAt_L1 a0 a1) (impl_placeAt_L1_k) r) (k := [.blk 0, .code (cAt Try.f67 [1, 1])]) (Nat.lt_succ_self m1) hK1)
  · have hE : some (Ctl.brk ()) = some c1 := hM
    have hE := Option.some.inj hE
    subst hE
    exact pc R 5 [.as 10 false] [.keep [] []] (And.intro h2 True.intro) (by kernel_rfl) (K1 () hK1)

-- loop.example/g03014/impl.readyAt
def impl_readyAt (a0 : Network) (a1 : Int) (a2 : Bool) : Option Int :=
  bif a2 then
  some a1
  else
  some (w64 (a1 + a0.Change))
theorem impl_readyAt_ok (a0 : Network) (a1 : Int) (a2 : Bool) (r : Int) (hM : impl_readyAt a0 a1 a2 = some r) :
    Con Try.prog 109 [.agg [.rs 6 (a0.Legs.map Leg.enc), .rs 1 (a0.Off.map encI), .v (.int .i64 a0.Change)], .c (.v (.int .i64 a1)), .c (.v (.bool a2))] [] (.o (.c (.v (.int .i64 r)))) [] [] := by
  unfold impl_readyAt at hM
  refine cn (N := 13) (pids := []) Try_mixed Try.func109 (by kernel_rfl) (by kernel_rfl) (by kernel_rfl) rfl fun ρ g w R => ?_
  rcases cond_cases hM with ⟨h1, hM⟩ | ⟨h1, hM⟩
  · have hE : some a1 = some r := hM
    have hE := Option.some.inj hE
    subst hE
    exact pr R 9999 [.new 0, .as 7 true] [] [] [] (And.intro h1 True.intro) (by kernel_rfl)
  · have hE : some (w64 (a1 + a0.Change)) = some r := hM
    have hE := Option.some.inj hE
    subst hE
    exact pr R 9999 [.new 0, .as 7 false] [] [] [] (And.intro h1 True.intro) (by kernel_rfl)

-- loop.example/g03014/impl.starts
def impl_starts (a0 : Network) (a1 : Trip) : Option Int :=
  (gi a0.Legs a1.Leg).bind fun v1 =>
  some (w64 ((w64 (a1.Day * 1440)) + v1.Start))
theorem impl_starts_ok (a0 : Network) (a1 : Trip) (r : Int) (hM : impl_starts a0 a1 = some r) :
    Con Try.prog 68 [.agg [.rs 6 (a0.Legs.map Leg.enc), .rs 1 (a0.Off.map encI), .v (.int .i64 a0.Change)], .c (.v (.agg (Trip.enc a1).toArray))] [] (.o (.c (.v (.int .i64 r)))) [] [] := by
  unfold impl_starts at hM
  refine cn (N := 16) (pids := []) Try_mixed Try.func68 (by kernel_rfl) (by kernel_rfl) (by kernel_rfl) rfl fun ρ g w R => ?_
  obtain ⟨v1, h2, hM⟩ := bind_some hM
  have hE : some (w64 ((w64 (a1.Day * 1440)) + v1.Start)) = some r := hM
  have hE := Option.some.inj hE
  subst hE
  exact pr R 9999 [.new 0, .new 1, .ix (Leg.enc v1)] [] [] [] (And.intro (gi_map Leg.enc h2) True.intro) (by kernel_rfl)

-- loop.example/g03014/impl.hasTrip
def impl_hasTrip_L1_b (a0 : (List Trip)) (a1 : Trip) (s1 : Int) : Option (Ctl Int Unit Bool) :=
  bif (decide (s1 < (a0.length : Int))) then
  (gi a0 s1).bind fun v3 =>
  bif (decide (v3 = a1)) then
  some (.ret true)
  else
  some (.next (w64 (s1 + 1)))
  else
  some (.brk ())
def impl_hasTrip_L1 (a0 : (List Trip)) (a1 : Trip) (s : Int) : Option (Ctl Int Unit Bool) := impl_hasTrip_L1_b a0 a1 s
def impl_hasTrip_L1_s (a0 : (List Trip)) (a1 : Trip) (s1 : Int) : St := ⟨[(3, .o (.c (.ptr 0 0))), (7, .o (.c (.rs 2 (a0.map Trip.enc)))), (8, .o (.c (.v (.int .i64 (a0.length : Int))))), (9, .o (.c (.v (.int .i64 s1))))], [(0, .box 46 [.v (.int .i64 a1.Leg), .v (.int .i64 a1.Day)])]⟩
def impl_hasTrip_L1_S (a0 : (List Trip)) (a1 : Trip) (s : Int) : St := impl_hasTrip_L1_s a0 a1 s
def impl_hasTrip_L1_a : Option Bool :=
  some false
def impl_hasTrip_L1_k (x : (Unit) ⊕ (Bool)) : Option Bool := match x with
  | .inl t => impl_hasTrip_L1_a
  | .inr y => some y
def impl_hasTrip (a0 : (List Trip)) (a1 : Trip) : Option Bool :=
  (loopM (impl_hasTrip_L1 a0 a1) big 0).bind (impl_hasTrip_L1_k)
theorem impl_hasTrip_ok (a0 : (List Trip)) (a1 : Trip) (r : Bool) (hM : impl_hasTrip a0 a1 = some r) :
    Con Try.prog 96 [.c (.rs 2 (a0.map Trip.enc)), .c (.v (.agg (Trip.enc a1).toArray))] [] (.o (.c (.v (.bool r)))) [] [] := by
  unfold impl_hasTrip at hM
  refine cn (N := 17) (pids := []) Try_mixed Try.func96 (by kernel_rfl) (by kernel_rfl) (by kernel_rfl) rfl fun ρ g w R => ?_
  have K1 : ∀ (_ : Unit), impl_hasTrip_L1_a = some r → Gr R [.code (cAt Try.f96 [1, 1])] (⟨[], []⟩) := by
    intro _ hM
    unfold impl_hasTrip_L1_a at hM
    have hE : some false = some r := hM
    have hE := Option.some.inj hE
    subst hE
    exact pr R 9999 [] [] [] [] True.intro (by kernel_rfl)
  refine pc R 9999 [.new 0, .ln (a0.length)] [.keep [3, 7, 8, 9] [0]] (k' := [.code (.loop (cAt Try.f96 [1, 0, 1, 0, 0])), .blk 0, .code (cAt Try.f96 [1, 1])]) (S' := impl_hasTrip_L1_S a0 a1 0) (And.intro (lenm Trip.enc a0) True.intro) (by kernel_rfl) ?_
  refine lq (impl_hasTrip_L1_S a0 a1) (body := impl_hasTrip_L1 a0 a1) (k := impl_hasTrip_L1_k) hM fun m1 s c1 hM hK1 => ?_
  obtain ⟨s1, hs⟩ : ∃ z, z = s := ⟨_, rfl⟩
  subst hs
  have hM : impl_hasTrip_L1_b a0 a1 s1 = some c1 := hM
  unfold impl_hasTrip_L1_b at hM
  rcases cond_cases hM with ⟨h2, hM⟩ | ⟨h2, hM⟩
  · obtain ⟨v3, h4, hM⟩ := bind_some hM
    rcases cond_cases hM with ⟨h5, hM⟩ | ⟨h5, hM⟩
    · have hE : some (Ctl.ret true) = some c1 := hM
      have hE := Option.some.inj hE
      subst hE
      have hE : some true = some r := hK1
      have hE := Option.some.inj hE
      subst hE
      exact pr R 9999 [.as 10 true, .ix (Trip.enc v3), .new 1, .run 15 (.bool (decide (v3 = a1))), .as 15 true] [] [] [] (And.intro h2 (And.intro (gi_map Trip.enc h4) (And.intro (Trip_eql46 v3 a1) (And.intro h5 True.intro)))) (by kernel_rfl)
    · have hE : some (Ctl.next (w64 (s1 + 1))) = some c1 := hM
      have hE := Option.some.inj hE
      subst hE
      exact pc R 9999 [.as 10 true, .ix (Trip.enc v3), .new 1, .run 15 (.bool (decide (v3 = a1))), .as 15 false] [.keep [3, 7, 8, 9] [0]] (And.intro h2 (And.intro (gi_map Trip.enc h4) (And.intro (Trip_eql46 v3 a1) (And.intro h5 True.intro)))) (by kernel_rfl) (li (Sf := impl_hasTrip_L1_S a0 a1) (M := Mk (impl_hasTrip_L1 a0 a1) (impl_hasTrip_L1_k) r) (k := [.blk 0, .code (cAt Try.f96 [1, 1])]) (Nat.lt_succ_self m1) hK1)
  · have hE : some (Ctl.brk ()) = some c1 := hM
    have hE := Option.some.inj hE
    subst hE
    exact pc R 5 [.as 10 false] [.keep [] []] (And.intro h2 True.intro) (by kernel_rfl) (K1 () hK1)

-- loop.example/g03014/impl.freeOf$1
def impl_freeOf_c1_L1_b (a0 : Int) (a1 : Int) (a2 : Network) (a3 : (List Trip)) (a4 : (List Booking)) (a5 : Int) (s1 : Int) : Option (Ctl Int Unit (Trip × Bool)) :=
  bif (decide (s1 ≤ 60)) then
  (impl_runs a2 a0 s1).bind fun v3 =>
  bif v3 then
  (impl_starts a2 (Trip.mk ((Trip.mk a0 s1).Leg) ((Trip.mk a0 s1).Day))).bind fun v6 =>
  bif (decide (v6 ≥ a1)) then
  (impl_hasTrip a3 (Trip.mk ((Trip.mk a0 s1).Leg) ((Trip.mk a0 s1).Day))).bind fun v9 =>
  bif (!v9) then
  (gi a2.Legs a0).bind fun v12 =>
  (impl_LoadOf a4 (Trip.mk ((Trip.mk a0 s1).Leg) ((Trip.mk a0 s1).Day))).bind fun v14 =>
  bif (decide ((w64 (v12.Room - v14)) ≥ a5)) then
  some (.ret ((Trip.mk ((Trip.mk ((Trip.mk a0 s1).Leg) ((Trip.mk a0 s1).Day)).Leg) ((Trip.mk ((Trip.mk a0 s1).Leg) ((Trip.mk a0 s1).Day)).Day)), true))
  else
  some (.next (w64 (s1 + 1)))
  else
  some (.next (w64 (s1 + 1)))
  else
  some (.next (w64 (s1 + 1)))
  else
  some (.next (w64 (s1 + 1)))
  else
  some (.brk ())
def impl_freeOf_c1_L1 (a0 : Int) (a1 : Int) (a2 : Network) (a3 : (List Trip)) (a4 : (List Booking)) (a5 : Int) (s : Int) : Option (Ctl Int Unit (Trip × Bool)) := impl_freeOf_c1_L1_b a0 a1 a2 a3 a4 a5 s
def impl_freeOf_c1_L1_s (a0 : Int) (a1 : Int) (a2 : Network) (a3 : (List Trip)) (a4 : (List Booking)) (a5 : Int) (s1 : Int) : St := ⟨[(0, .o (.c (.v (.int .i64 a0)))), (1, .o (.c (.v (.int .i64 a1)))), (2, .o (.c (.ptr 902 0))), (3, .o (.c (.ptr 903 0))), (4, .o (.c (.ptr 904 0))), (5, .o (.c (.ptr 905 0))), (8, .o (.c (.ptr 0 0))), (10, .o (.c (.v (.int .i64 s1))))], [(902, .box 32 [.rs 6 (a2.Legs.map Leg.enc), .rs 1 (a2.Off.map encI), .v (.int .i64 a2.Change)]), (903, .box 27 [.rs 2 (a3.map Trip.enc)]), (904, .box 41 [.rs 4 (a4.map Booking.enc)]), (905, .box 3 [.v (.int .i64 a5)]), (0, .box 46 [.v (.int .i64 0), .v (.int .i64 0)])]⟩
def impl_freeOf_c1_L1_S (a0 : Int) (a1 : Int) (a2 : Network) (a3 : (List Trip)) (a4 : (List Booking)) (a5 : Int) (s : Int) : St := impl_freeOf_c1_L1_s a0 a1 a2 a3 a4 a5 s
def impl_freeOf_c1_L1_a : Option (Trip × Bool) :=
  some ((Trip.mk ((Trip.mk 0 0).Leg) ((Trip.mk 0 0).Day)), false)
def impl_freeOf_c1_L1_k (x : (Unit) ⊕ (Trip × Bool)) : Option (Trip × Bool) := match x with
  | .inl t => impl_freeOf_c1_L1_a
  | .inr y => some y
def impl_freeOf_c1 (a0 : Int) (a1 : Int) (a2 : Network) (a3 : (List Trip)) (a4 : (List Booking)) (a5 : Int) : Option (Trip × Bool) :=
  (loopM (impl_freeOf_c1_L1 a0 a1 a2 a3 a4 a5) big 0).bind (impl_freeOf_c1_L1_k)
theorem impl_freeOf_c1_ok (a0 : Int) (a1 : Int) (a2 : Network) (a3 : (List Trip)) (a4 : (List Booking)) (a5 : Int) (r : Trip × Bool) (hM : impl_freeOf_c1 a0 a1 a2 a3 a4 a5 = some r) :
    Con Try.prog 94 [.c (.v (.int .i64 a0)), .c (.v (.int .i64 a1)), .c (.ptr 902 0), .c (.ptr 903 0), .c (.ptr 904 0), .c (.ptr 905 0)] [(902, .box 32 [.rs 6 (a2.Legs.map Leg.enc), .rs 1 (a2.Off.map encI), .v (.int .i64 a2.Change)]), (903, .box 27 [.rs 2 (a3.map Trip.enc)]), (904, .box 41 [.rs 4 (a4.map Booking.enc)]), (905, .box 3 [.v (.int .i64 a5)])] (.tup [.c (.v (.agg (Trip.enc r.1).toArray)), .c (.v (.bool r.2))]) [(902, .box 32 [.rs 6 (a2.Legs.map Leg.enc), .rs 1 (a2.Off.map encI), .v (.int .i64 a2.Change)]), (903, .box 27 [.rs 2 (a3.map Trip.enc)]), (904, .box 41 [.rs 4 (a4.map Booking.enc)]), (905, .box 3 [.v (.int .i64 a5)])] [] := by
  unfold impl_freeOf_c1 at hM
  refine cn (N := 52) (pids := [902, 903, 904, 905]) Try_mixed Try.func94 (by kernel_rfl) (by kernel_rfl) (by kernel_rfl) rfl fun ρ g w R => ?_
  have K1 : ∀ (_ : Unit), impl_freeOf_c1_L1_a = some r → Gr R [.code (cAt Try.f94 [1, 1])] (⟨[(2, .o (.c (.ptr 902 0))), (3, .o (.c (.ptr 903 0))), (4, .o (.c (.ptr 904 0))), (5, .o (.c (.ptr 905 0))), (8, .o (.c (.ptr 0 0)))], [(902, .box 32 [.rs 6 (a2.Legs.map Leg.enc), .rs 1 (a2.Off.map encI), .v (.int .i64 a2.Change)]), (903, .box 27 [.rs 2 (a3.map Trip.enc)]), (904, .box 41 [.rs 4 (a4.map Booking.enc)]), (905, .box 3 [.v (.int .i64 a5)]), (0, .box 46 [.v (.int .i64 0), .v (.int .i64 0)])]⟩) := by
    intro _ hM
    unfold impl_freeOf_c1_L1_a at hM
    have hE : some ((Trip.mk ((Trip.mk 0 0).Leg) ((Trip.mk 0 0).Day)), false) = some r := hM
    have hE := Option.some.inj hE
    subst hE
    exact pr R 9999 [] [] [902, 903, 904, 905] [] True.intro (by kernel_rfl)
  refine pc R 9999 [.new 0] [.keep [0, 1, 2, 3, 4, 5, 8, 10] [902, 903, 904, 905, 0]] (k' := [.code (.loop (cAt Try.f94 [1, 0, 1, 0, 0])), .blk 0, .code (cAt Try.f94 [1, 1])]) (S' := impl_freeOf_c1_L1_S a0 a1 a2 a3 a4 a5 0) True.intro (by kernel_rfl) ?_
  refine lq (impl_freeOf_c1_L1_S a0 a1 a2 a3 a4 a5) (body := impl_freeOf_c1_L1 a0 a1 a2 a3 a4 a5) (k := impl_freeOf_c1_L1_k) hM fun m1 s c1 hM hK1 => ?_
  obtain ⟨s1, hs⟩ : ∃ z, z = s := ⟨_, rfl⟩
  subst hs
  have hM : impl_freeOf_c1_L1_b a0 a1 a2 a3 a4 a5 s1 = some c1 := hM
  unfold impl_freeOf_c1_L1_b at hM
  rcases cond_cases hM with ⟨h2, hM⟩ | ⟨h2, hM⟩
  · obtain ⟨v3, h4, hM⟩ := bind_some hM
    rcases cond_cases hM with ⟨h5, hM⟩ | ⟨h5, hM⟩
    · obtain ⟨v6, h7, hM⟩ := bind_some hM
      rcases cond_cases hM with ⟨h8, hM⟩ | ⟨h8, hM⟩
      · obtain ⟨v9, h10, hM⟩ := bind_some hM
        rcases cond_cases hM with ⟨h11, hM⟩ | ⟨h11, hM⟩
        · obtain ⟨v12, h13, hM⟩ := bind_some hM
          obtain ⟨v14, h15, hM⟩ := bind_some hM
          rcases cond_cases hM with ⟨h16, hM⟩ | ⟨h16, hM⟩
          · have hE : some (Ctl.ret ((Trip.mk ((Trip.mk ((Trip.mk a0 s1).Leg) ((Trip.mk a0 s1).Day)).Leg) ((Trip.mk ((Trip.mk a0 s1).Leg) ((Trip.mk a0 s1).Day)).Day)), true)) = some c1 := hM
            have hE := Option.some.inj hE
            subst hE
            have hE : some ((Trip.mk ((Trip.mk ((Trip.mk a0 s1).Leg) ((Trip.mk a0 s1).Day)).Leg) ((Trip.mk ((Trip.mk a0 s1).Leg) ((Trip.mk a0 s1).Day)).Day)), true) = some r := hK1
            have hE := Option.some.inj hE
            subst hE
            exact pr R 9999 [.as 13 true, .new 1, .call false [] (.o (.c (.v (.bool v3)))) [] [], .as 23 true, .call false [] (.o (.c (.v (.int .i64 v6)))) [] [], .as 30 true, .call false [] (.o (.c (.v (.bool v9)))) [] [], .as 36 true, .ix (Leg.enc v12), .call false [] (.o (.c (.v (.int .i64 v14)))) [] [], .as 49 true] [] [902, 903, 904, 905] [] (And.intro h2 (And.intro (impl_runs_ok a2 a0 s1 v3 h4) (And.intro h5 (And.intro (impl_starts_ok a2 (Trip.mk ((Trip.mk a0 s1).Leg) ((Trip.mk a0 s1).Day)) v6 h7) (And.intro h8 (And.intro (impl_hasTrip_ok a3 (Trip.mk ((Trip.mk a0 s1).Leg) ((Trip.mk a0 s1).Day)) v9 h10) (And.intro h11 (And.intro (gi_map Leg.enc h13) (And.intro (impl_LoadOf_ok a4 (Trip.mk ((Trip.mk a0 s1).Leg) ((Trip.mk a0 s1).Day)) v14 h15) (And.intro h16 True.intro)))))))))) (by kernel_rfl)
          · have hE : some (Ctl.next (w64 (s1 + 1))) = some c1 := hM
            have hE := Option.some.inj hE
            subst hE
            exact pc R 9999 [.as 13 true, .new 1, .call false [] (.o (.c (.v (.bool v3)))) [] [], .as 23 true, .call false [] (.o (.c (.v (.int .i64 v6)))) [] [], .as 30 true, .call false [] (.o (.c (.v (.bool v9)))) [] [], .as 36 true, .ix (Leg.enc v12), .call false [] (.o (.c (.v (.int .i64 v14)))) [] [], .as 49 false] [.keep [0, 1, 2, 3, 4, 5, 8, 10] [902, 903, 904, 905, 0]] (And.intro h2 (And.intro (impl_runs_ok a2 a0 s1 v3 h4) (And.intro h5 (And.intro (impl_starts_ok a2 (Trip.mk ((Trip.mk a0 s1).Leg) ((Trip.mk a0 s1).Day)) v6 h7) (And.intro h8 (And.intro (impl_hasTrip_ok a3 (Trip.mk ((Trip.mk a0 s1).Leg) ((Trip.mk a0 s1).Day)) v9 h10) (And.intro h11 (And.intro (gi_map Leg.enc h13) (And.intro (impl_LoadOf_ok a4 (Trip.mk ((Trip.mk a0 s1).Leg) ((Trip.mk a0 s1).Day)) v14 h15) (And.intro h16 True.intro)))))))))) (by kernel_rfl) (li (Sf := impl_freeOf_c1_L1_S a0 a1 a2 a3 a4 a5) (M := Mk (impl_freeOf_c1_L1 a0 a1 a2 a3 a4 a5) (impl_freeOf_c1_L1_k) r) (k := [.blk 0, .code (cAt Try.f94 [1, 1])]) (Nat.lt_succ_self m1) hK1)
        · have hE : some (Ctl.next (w64 (s1 + 1))) = some c1 := hM
          have hE := Option.some.inj hE
          subst hE
          exact pc R 9999 [.as 13 true, .new 1, .call false [] (.o (.c (.v (.bool v3)))) [] [], .as 23 true, .call false [] (.o (.c (.v (.int .i64 v6)))) [] [], .as 30 true, .call false [] (.o (.c (.v (.bool v9)))) [] [], .as 36 false] [.keep [0, 1, 2, 3, 4, 5, 8, 10] [902, 903, 904, 905, 0]] (And.intro h2 (And.intro (impl_runs_ok a2 a0 s1 v3 h4) (And.intro h5 (And.intro (impl_starts_ok a2 (Trip.mk ((Trip.mk a0 s1).Leg) ((Trip.mk a0 s1).Day)) v6 h7) (And.intro h8 (And.intro (impl_hasTrip_ok a3 (Trip.mk ((Trip.mk a0 s1).Leg) ((Trip.mk a0 s1).Day)) v9 h10) (And.intro h11 True.intro))))))) (by kernel_rfl) (li (Sf := impl_freeOf_c1_L1_S a0 a1 a2 a3 a4 a5) (M := Mk (impl_freeOf_c1_L1 a0 a1 a2 a3 a4 a5) (impl_freeOf_c1_L1_k) r) (k := [.blk 0, .code (cAt Try.f94 [1, 1])]) (Nat.lt_succ_self m1) hK1)
      · have hE : some (Ctl.next (w64 (s1 + 1))) = some c1 := hM
        have hE := Option.some.inj hE
        subst hE
        exact pc R 9999 [.as 13 true, .new 1, .call false [] (.o (.c (.v (.bool v3)))) [] [], .as 23 true, .call false [] (.o (.c (.v (.int .i64 v6)))) [] [], .as 30 false] [.keep [0, 1, 2, 3, 4, 5, 8, 10] [902, 903, 904, 905, 0]] (And.intro h2 (And.intro (impl_runs_ok a2 a0 s1 v3 h4) (And.intro h5 (And.intro (impl_starts_ok a2 (Trip.mk ((Trip.mk a0 s1).Leg) ((Trip.mk a0 s1).Day)) v6 h7) (And.intro h8 True.intro))))) (by kernel_rfl) (li (Sf := impl_freeOf_c1_L1_S a0 a1 a2 a3 a4 a5) (M := Mk (impl_freeOf_c1_L1 a0 a1 a2 a3 a4 a5) (impl_freeOf_c1_L1_k) r) (k := [.blk 0, .code (cAt Try.f94 [1, 1])]) (Nat.lt_succ_self m1) hK1)
    · have hE : some (Ctl.next (w64 (s1 + 1))) = some c1 := hM
      have hE := Option.some.inj hE
      subst hE
      exact pc R 9999 [.as 13 true, .new 1, .call false [] (.o (.c (.v (.bool v3)))) [] [], .as 23 false] [.keep [0, 1, 2, 3, 4, 5, 8, 10] [902, 903, 904, 905, 0]] (And.intro h2 (And.intro (impl_runs_ok a2 a0 s1 v3 h4) (And.intro h5 True.intro))) (by kernel_rfl) (li (Sf := impl_freeOf_c1_L1_S a0 a1 a2 a3 a4 a5) (M := Mk (impl_freeOf_c1_L1 a0 a1 a2 a3 a4 a5) (impl_freeOf_c1_L1_k) r) (k := [.blk 0, .code (cAt Try.f94 [1, 1])]) (Nat.lt_succ_self m1) hK1)
  · have hE : some (Ctl.brk ()) = some c1 := hM
    have hE := Option.some.inj hE
    subst hE
    exact pc R 5 [.as 13 false] [.keep [2, 3, 4, 5, 8] [902, 903, 904, 905, 0]] (And.intro h2 True.intro) (by kernel_rfl) (K1 () hK1)

-- loop.example/g03014/impl.ends
def impl_ends (a0 : Network) (a1 : Trip) : Option Int :=
  (impl_starts a0 a1).bind fun v1 =>
  (gi a0.Legs a1.Leg).bind fun v3 =>
  some (w64 (v1 + v3.Takes))
theorem impl_ends_ok (a0 : Network) (a1 : Trip) (r : Int) (hM : impl_ends a0 a1 = some r) :
    Con Try.prog 63 [.agg [.rs 6 (a0.Legs.map Leg.enc), .rs 1 (a0.Off.map encI), .v (.int .i64 a0.Change)], .c (.v (.agg (Trip.enc a1).toArray))] [] (.o (.c (.v (.int .i64 r)))) [] [] := by
  unfold impl_ends at hM
  refine cn (N := 16) (pids := []) Try_mixed Try.func63 (by kernel_rfl) (by kernel_rfl) (by kernel_rfl) rfl fun ρ g w R => ?_
  obtain ⟨v1, h2, hM⟩ := bind_some hM
  obtain ⟨v3, h4, hM⟩ := bind_some hM
  have hE : some (w64 (v1 + v3.Takes)) = some r := hM
  have hE := Option.some.inj hE
  subst hE
  exact pr R 9999 [.new 0, .new 1, .call false [] (.o (.c (.v (.int .i64 v1)))) [] [], .ix (Leg.enc v3)] [] [] [] (And.intro (impl_starts_ok a0 a1 v1 h2) (And.intro (gi_map Leg.enc h4) True.intro)) (by kernel_rfl)

-- loop.example/g03014/impl.arrivals
def impl_arrivals_at1fn94_x16 (a0 : Network) (a1 : (Network × (List Trip) × (List Booking) × Int)) (a4 : Int) (v1 : (List ByteArray)) (v3 : Int) (s13 : (List Int)) (s14 : Int) (s19 : (List Int)) (s20 : Bool) (s21 : Int) (v30 : Int) (v39 : (Trip × Bool)) : St := ⟨[(1, .o (.c (.fn 94 [901, 921, 941, 961]))), (4, .o (.c (.v (.int .i64 a4)))), (5, .o (.c (.ptr 0 0))), (11, .o (.c (.sl 1))), (12, .o (.c (.v (.int .i64 v3)))), (13, .o (.c (.sl 2))), (14, .o (.c (.v (.int .i64 s14)))), (15, .o (.c (.sl 6))), (16, .o (.c (.v (.bool s20)))), (20, .o (.c (.v (.int .i64 v30)))), (21, .o (.c (.ptr 8 0))), (22, .o (.c (.v (.bool v39.2)))), (61, .o (.c (.rs 6 (a0.Legs.map Leg.enc)))), (62, .o (.c (.v (.int .i64 (a0.Legs.length : Int))))), (63, .o (.c (.v (.int .i64 s21))))], [(901, .box 32 [.rs 6 (a1.1.Legs.map Leg.enc), .rs 1 (a1.1.Off.map encI), .v (.int .i64 a1.1.Change)]), (921, .box 27 [.rs 2 (a1.2.1.map Trip.enc)]), (941, .box 41 [.rs 4 (a1.2.2.1.map Booking.enc)]), (961, .box 3 [.v (.int .i64 a1.2.2.2)]), (0, .box 32 [.rs 6 (a0.Legs.map Leg.enc), .rs 1 (a0.Off.map encI), .v (.int .i64 a0.Change)]), (1, .row 9 1 (v1.map encS)), (2, .row 3 1 (s13.map encI)), (6, .row 3 1 (s19.map encI)), (8, .box 46 [.v (.int .i64 v39.1.Leg), .v (.int .i64 v39.1.Day)])]⟩
def impl_arrivals_at1fn94_s16 (a0 : Network) (a1 : (Network × (List Trip) × (List Booking) × Int)) (a4 : Int) (v1 : (List ByteArray)) (v3 : Int) (s13 : (List Int)) (s14 : Int) (s19 : (List Int)) (s20 : Bool) (s21 : Int) (v28 : Int) (v30 : Int) : St := ⟨[(1, .o (.c (.fn 94 [901, 921, 941, 961]))), (4, .o (.c (.v (.int .i64 a4)))), (5, .o (.c (.ptr 0 0))), (11, .o (.c (.sl 1))), (12, .o (.c (.v (.int .i64 v3)))), (13, .o (.c (.sl 2))), (14, .o (.c (.v (.int .i64 s14)))), (15, .o (.c (.sl 6))), (16, .o (.c (.v (.bool s20)))), (17, .o (.c (.v (.int .i64 s21)))), (19, .o (.c (.v (.int .i64 v28)))), (20, .o (.c (.v (.int .i64 v30)))), (61, .o (.c (.rs 6 (a0.Legs.map Leg.enc)))), (62, .o (.c (.v (.int .i64 (a0.Legs.length : Int))))), (63, .o (.c (.v (.int .i64 s21))))], [(901, .box 32 [.rs 6 (a1.1.Legs.map Leg.enc), .rs 1 (a1.1.Off.map encI), .v (.int .i64 a1.1.Change)]), (921, .box 27 [.rs 2 (a1.2.1.map Trip.enc)]), (941, .box 41 [.rs 4 (a1.2.2.1.map Booking.enc)]), (961, .box 3 [.v (.int .i64 a1.2.2.2)]), (0, .box 32 [.rs 6 (a0.Legs.map Leg.enc), .rs 1 (a0.Off.map encI), .v (.int .i64 a0.Change)]), (1, .row 9 1 (v1.map encS)), (2, .row 3 1 (s13.map encI)), (6, .row 3 1 (s19.map encI))]⟩
def impl_arrivals_at1fn94_o16 (a1 : (Network × (List Trip) × (List Booking) × Int)) (v35 : Int) (v37 : Int) (v39 : (Trip × Bool)) : List (List Orc) := [[], [], [], [], [], [], [.ix (encI v35)], [], [], [], [.call false [] (.o (.c (.v (.int .i64 v37)))) [] []], [.ad (.keep [1, 4, 5, 11, 12, 13, 14, 15, 16, 17, 18, 19, 20, 21, 22, 61, 62, 63, 64, 65, 66, 67, 68, 69, 70, 71, 72, 73, 74, 75, 76, 77, 78, 79, 80, 81, 82, 83, 84, 85, 86, 87, 88, 89, 90, 91, 92, 93, 94, 95] [901, 921, 941, 961, 0, 1, 2, 6, 7, 3, 4, 5, 8, 9, 10, 11, 12, 13, 14, 15, 16, 17, 18, 19, 20, 21, 22, 23, 24, 25, 26, 27, 28, 29, 30, 31, 32, 33, 34, 35, 36, 37, 38, 39, 40, 41, 42, 43, 44, 45, 46, 47]), .call true [901, 921, 941, 961] (.tup [.c (.v (.agg (Trip.enc v39.1).toArray)), .c (.v (.bool v39.2))]) [(901, .box 32 [.rs 6 (a1.1.Legs.map Leg.enc), .rs 1 (a1.1.Off.map encI), .v (.int .i64 a1.1.Change)]), (921, .box 27 [.rs 2 (a1.2.1.map Trip.enc)]), (941, .box 41 [.rs 4 (a1.2.2.1.map Booking.enc)]), (961, .box 3 [.v (.int .i64 a1.2.2.2)])] []], [], [], [], [.new 8], [], []]
theorem impl_arrivals_at1fn94_y16 (a0 : Network) (a1 : (Network × (List Trip) × (List Booking) × Int)) (a4 : Int) (v1 : (List ByteArray)) (v3 : Int) (s13 : (List Int)) (s14 : Int) (s19 : (List Int)) (s20 : Bool) (s21 : Int) (v28 : Int) (v30 : Int) (v35 : Int) (v37 : Int) (v39 : (Trip × Bool)) (L : List Nat) : subX Try.prog [901, 921, 941, 961] 125 (opsOf (cAt Try.f81 [1, 1, 1, 1, 1, 1, 1, 0, 1, 0, 0, 1, 0, 0, 1, 1, 0, 1, 0, 0, 1, 1, 0, 0, 1, 1, 1, 1, 0])) (impl_arrivals_at1fn94_o16 a1 v35 v37 v39) L (impl_arrivals_at1fn94_s16 a0 a1 a4 v1 v3 s13 s14 s19 s20 s21 v28 v30) = subX Try.prog [901, 921, 941, 961] 125 (opsOf (cAt Try.f81 [1, 1, 1, 1, 1, 1, 1, 0, 1, 0, 0, 1, 0, 0, 1, 1, 0, 1, 0, 0, 1, 1, 0, 0, 1, 1, 1, 1, 0])) (impl_arrivals_at1fn94_o16 a1 v35 v37 v39) L (impl_arrivals_at1fn94_s16 a0 a1 a4 v1 v3 s13 s14 s19 s20 s21 v28 v30) := rfl
def impl_arrivals_at1fn94_j1 (a0 : Network) (s19 : (List Int)) (s20 : Bool) (s21 : Int) (v30 : Int) (v39 : (Trip × Bool)) : Option (Ctl ((List Int) × Bool × Int) ((List Int) × Bool) (List Int)) :=
  bif v39.2 then
  (gi s19 v30).bind fun v42 =>
  bif (decide (v42 < 0)) then
  (impl_ends a0 v39.1).bind fun v45 =>
  (gi s19 v30).bind fun v47 =>
  some (.next (List.set s19 (Int.toNat v30) v45, true, w64 (s21 + 1)))
  else
  (impl_ends a0 v39.1).bind fun v49 =>
  (gi s19 v30).bind fun v51 =>
  bif (decide (v49 < v51)) then
  (impl_ends a0 v39.1).bind fun v54 =>
  (gi s19 v30).bind fun v56 =>
  some (.next (List.set s19 (Int.toNat v30) v54, true, w64 (s21 + 1)))
  else
  some (.next (s19, s20, w64 (s21 + 1)))
  else
  some (.next (s19, s20, w64 (s21 + 1)))
def impl_arrivals_at1fn94_L3_b (a0 : Network) (a1 : (Network × (List Trip) × (List Booking) × Int)) (v1 : (List ByteArray)) (v3 : Int) (s13 : (List Int)) (s19 : (List Int)) (s20 : Bool) (s21 : Int) : Option (Ctl ((List Int) × Bool × Int) ((List Int) × Bool) (List Int)) :=
  bif (decide (s21 < (a0.Legs.length : Int))) then
  (gi a0.Legs s21).bind fun v26 =>
  (impl_placeAt v1 v26.From).bind fun v28 =>
  (impl_placeAt v1 v26.To).bind fun v30 =>
  (gi s13 v28).bind fun v32 =>
  bif (decide (v32 < 0)) then
  some (.next (s19, s20, w64 (s21 + 1)))
  else
  (gi s13 v28).bind fun v35 =>
  (impl_readyAt a0 v35 (v28 == v3)).bind fun v37 =>
  (impl_freeOf_c1 s21 v37 a1.1 a1.2.1 a1.2.2.1 a1.2.2.2).bind fun v39 =>
  impl_arrivals_at1fn94_j1 a0 s19 s20 s21 v30 v39
  else
  some (.brk (s19, s20))
def impl_arrivals_at1fn94_L3 (a0 : Network) (a1 : (Network × (List Trip) × (List Booking) × Int)) (v1 : (List ByteArray)) (v3 : Int) (s13 : (List Int)) (s : (List Int) × Bool × Int) : Option (Ctl ((List Int) × Bool × Int) ((List Int) × Bool) (List Int)) := impl_arrivals_at1fn94_L3_b a0 a1 v1 v3 s13 s.1 s.2.1 s.2.2
def impl_arrivals_at1fn94_L3_s (a0 : Network) (a1 : (Network × (List Trip) × (List Booking) × Int)) (a4 : Int) (v1 : (List ByteArray)) (v3 : Int) (s13 : (List Int)) (s14 : Int) (s19 : (List Int)) (s20 : Bool) (s21 : Int) : St := ⟨[(1, .o (.c (.fn 94 [901, 921, 941, 961]))), (4, .o (.c (.v (.int .i64 a4)))), (5, .o (.c (.ptr 0 0))), (11, .o (.c (.sl 1))), (12, .o (.c (.v (.int .i64 v3)))), (13, .o (.c (.sl 2))), (14, .o (.c (.v (.int .i64 s14)))), (15, .o (.c (.sl 6))), (16, .o (.c (.v (.bool s20)))), (61, .o (.c (.rs 6 (a0.Legs.map Leg.enc)))), (62, .o (.c (.v (.int .i64 (a0.Legs.length : Int))))), (63, .o (.c (.v (.int .i64 s21))))], [(901, .box 32 [.rs 6 (a1.1.Legs.map Leg.enc), .rs 1 (a1.1.Off.map encI), .v (.int .i64 a1.1.Change)]), (921, .box 27 [.rs 2 (a1.2.1.map Trip.enc)]), (941, .box 41 [.rs 4 (a1.2.2.1.map Booking.enc)]), (961, .box 3 [.v (.int .i64 a1.2.2.2)]), (0, .box 32 [.rs 6 (a0.Legs.map Leg.enc), .rs 1 (a0.Off.map encI), .v (.int .i64 a0.Change)]), (1, .row 9 1 (v1.map encS)), (2, .row 3 1 (s13.map encI)), (6, .row 3 1 (s19.map encI))]⟩
def impl_arrivals_at1fn94_L3_S (a0 : Network) (a1 : (Network × (List Trip) × (List Booking) × Int)) (a4 : Int) (v1 : (List ByteArray)) (v3 : Int) (s13 : (List Int)) (s14 : Int) (s : (List Int) × Bool × Int) : St := impl_arrivals_at1fn94_L3_s a0 a1 a4 v1 v3 s13 s14 s.1 s.2.1 s.2.2
def impl_arrivals_at1fn94_L3_a (s14 : Int) (s22 : (List Int)) (s23 : Bool) : Option (Ctl ((List Int) × Int) (List Int) (List Int)) :=
  bif (!s23) then
  some (.brk s22)
  else
  some (.next (s22, w64 (s14 + 1)))
def impl_arrivals_at1fn94_L3_k (s14 : Int) (x : ((List Int) × Bool) ⊕ ((List Int))) : Option (Ctl ((List Int) × Int) (List Int) (List Int)) := match x with
  | .inl t => impl_arrivals_at1fn94_L3_a s14 t.1 t.2
  | .inr y => some (.ret y)
def impl_arrivals_at1fn94_L2_b (a0 : Network) (a1 : (Network × (List Trip) × (List Booking) × Int)) (a4 : Int) (v1 : (List ByteArray)) (v3 : Int) (s13 : (List Int)) (s14 : Int) : Option (Ctl ((List Int) × Int) (List Int) (List Int)) :=
  bif (decide (s14 < a4)) then
  (ap 8 ([] : List Int) s13).bind fun v17 =>
  (loopM (impl_arrivals_at1fn94_L3 a0 a1 v1 v3 s13) big (v17, false, 0)).bind (impl_arrivals_at1fn94_L3_k s14)
  else
  some (.brk s13)
def impl_arrivals_at1fn94_L2 (a0 : Network) (a1 : (Network × (List Trip) × (List Booking) × Int)) (a4 : Int) (v1 : (List ByteArray)) (v3 : Int) (s : (List Int) × Int) : Option (Ctl ((List Int) × Int) (List Int) (List Int)) := impl_arrivals_at1fn94_L2_b a0 a1 a4 v1 v3 s.1 s.2
def impl_arrivals_at1fn94_L2_s (a0 : Network) (a1 : (Network × (List Trip) × (List Booking) × Int)) (a4 : Int) (v1 : (List ByteArray)) (v3 : Int) (s13 : (List Int)) (s14 : Int) : St := ⟨[(1, .o (.c (.fn 94 [901, 921, 941, 961]))), (4, .o (.c (.v (.int .i64 a4)))), (5, .o (.c (.ptr 0 0))), (11, .o (.c (.sl 1))), (12, .o (.c (.v (.int .i64 v3)))), (13, .o (.c (.sl 2))), (14, .o (.c (.v (.int .i64 s14))))], [(901, .box 32 [.rs 6 (a1.1.Legs.map Leg.enc), .rs 1 (a1.1.Off.map encI), .v (.int .i64 a1.1.Change)]), (921, .box 27 [.rs 2 (a1.2.1.map Trip.enc)]), (941, .box 41 [.rs 4 (a1.2.2.1.map Booking.enc)]), (961, .box 3 [.v (.int .i64 a1.2.2.2)]), (0, .box 32 [.rs 6 (a0.Legs.map Leg.enc), .rs 1 (a0.Off.map encI), .v (.int .i64 a0.Change)]), (1, .row 9 1 (v1.map encS)), (2, .row 3 1 (s13.map encI))]⟩
def impl_arrivals_at1fn94_L2_S (a0 : Network) (a1 : (Network × (List Trip) × (List Booking) × Int)) (a4 : Int) (v1 : (List ByteArray)) (v3 : Int) (s : (List Int) × Int) : St := impl_arrivals_at1fn94_L2_s a0 a1 a4 v1 v3 s.1 s.2
def impl_arrivals_at1fn94_L2_a (s15 : (List Int)) : Option (List Int) :=
  some s15
def impl_arrivals_at1fn94_L2_k (x : ((List Int)) ⊕ ((List Int))) : Option (List Int) := match x with
  | .inl t => impl_arrivals_at1fn94_L2_a t
  | .inr y => some y
def impl_arrivals_at1fn94_L1_b (v1 : (List ByteArray)) (s8 : (List Int)) (s9 : Int) : Option (Ctl ((List Int) × Int) (List Int) (List Int)) :=
  bif (decide (s9 < (v1.length : Int))) then
  (ap 8 s8 ([(-1)] : List Int)).bind fun v59 =>
  some (.next (v59, w64 (s9 + 1)))
  else
  some (.brk s8)
def impl_arrivals_at1fn94_L1 (v1 : (List ByteArray)) (s : (List Int) × Int) : Option (Ctl ((List Int) × Int) (List Int) (List Int)) := impl_arrivals_at1fn94_L1_b v1 s.1 s.2
def impl_arrivals_at1fn94_L1_s (a0 : Network) (a1 : (Network × (List Trip) × (List Booking) × Int)) (a3 : Int) (a4 : Int) (v1 : (List ByteArray)) (v3 : Int) (s8 : (List Int)) (s9 : Int) : St := ⟨[(1, .o (.c (.fn 94 [901, 921, 941, 961]))), (3, .o (.c (.v (.int .i64 a3)))), (4, .o (.c (.v (.int .i64 a4)))), (5, .o (.c (.ptr 0 0))), (11, .o (.c (.sl 1))), (12, .o (.c (.v (.int .i64 v3)))), (13, .o (.c (.sl 2))), (40, .o (.c (.v (.int .i64 (v1.length : Int))))), (41, .o (.c (.v (.int .i64 s9))))], [(901, .box 32 [.rs 6 (a1.1.Legs.map Leg.enc), .rs 1 (a1.1.Off.map encI), .v (.int .i64 a1.1.Change)]), (921, .box 27 [.rs 2 (a1.2.1.map Trip.enc)]), (941, .box 41 [.rs 4 (a1.2.2.1.map Booking.enc)]), (961, .box 3 [.v (.int .i64 a1.2.2.2)]), (0, .box 32 [.rs 6 (a0.Legs.map Leg.enc), .rs 1 (a0.Off.map encI), .v (.int .i64 a0.Change)]), (1, .row 9 1 (v1.map encS)), (2, .row 3 1 (s8.map encI))]⟩
def impl_arrivals_at1fn94_L1_S (a0 : Network) (a1 : (Network × (List Trip) × (List Booking) × Int)) (a3 : Int) (a4 : Int) (v1 : (List ByteArray)) (v3 : Int) (s : (List Int) × Int) : St := impl_arrivals_at1fn94_L1_s a0 a1 a3 a4 v1 v3 s.1 s.2
def impl_arrivals_at1fn94_L1_a (a0 : Network) (a1 : (Network × (List Trip) × (List Booking) × Int)) (a3 : Int) (a4 : Int) (v1 : (List ByteArray)) (v3 : Int) (s10 : (List Int)) : Option (List Int) :=
  (gi s10 v3).bind fun v11 =>
  (loopM (impl_arrivals_at1fn94_L2 a0 a1 a4 v1 v3) big (List.set s10 (Int.toNat v3) (if 0 > a3 then 0 else a3), 0)).bind (impl_arrivals_at1fn94_L2_k)
def impl_arrivals_at1fn94_L1_k (a0 : Network) (a1 : (Network × (List Trip) × (List Booking) × Int)) (a3 : Int) (a4 : Int) (v1 : (List ByteArray)) (v3 : Int) (x : ((List Int)) ⊕ ((List Int))) : Option (List Int) := match x with
  | .inl t => impl_arrivals_at1fn94_L1_a a0 a1 a3 a4 v1 v3 t
  | .inr y => some y
def impl_arrivals_at1fn94 (a0 : Network) (a1 : (Network × (List Trip) × (List Booking) × Int)) (a2 : ByteArray) (a3 : Int) (a4 : Int) : Option (List Int) :=
  (impl_PlacesOf a0).bind fun v1 =>
  (impl_placeAt v1 a2).bind fun v3 =>
  bif (decide (v3 < 0)) then
  some ([] : List Int)
  else
  bif (decide (a3 > 100000)) then
  some ([] : List Int)
  else
  bif (decide (a4 < 0)) then
  some ([] : List Int)
  else
  (loopM (impl_arrivals_at1fn94_L1 v1) big (([] : List Int), 0)).bind (impl_arrivals_at1fn94_L1_k a0 a1 a3 a4 v1 v3)
theorem impl_arrivals_at1fn94_ok (a0 : Network) (a1 : (Network × (List Trip) × (List Booking) × Int)) (a2 : ByteArray) (a3 : Int) (a4 : Int) (r : (List Int)) (hM : impl_arrivals_at1fn94 a0 a1 a2 a3 a4 = some r) :
    Con Try.prog 81 [.agg [.rs 6 (a0.Legs.map Leg.enc), .rs 1 (a0.Off.map encI), .v (.int .i64 a0.Change)], .c (.fn 94 [901, 921, 941, 961]), .c (.v (.string a2)), .c (.v (.int .i64 a3)), .c (.v (.int .i64 a4))] [(901, .box 32 [.rs 6 (a1.1.Legs.map Leg.enc), .rs 1 (a1.1.Off.map encI), .v (.int .i64 a1.1.Change)]), (921, .box 27 [.rs 2 (a1.2.1.map Trip.enc)]), (941, .box 41 [.rs 4 (a1.2.2.1.map Booking.enc)]), (961, .box 3 [.v (.int .i64 a1.2.2.2)])] (.o (.c (.sl 1000))) [(901, .box 32 [.rs 6 (a1.1.Legs.map Leg.enc), .rs 1 (a1.1.Off.map encI), .v (.int .i64 a1.1.Change)]), (921, .box 27 [.rs 2 (a1.2.1.map Trip.enc)]), (941, .box 41 [.rs 4 (a1.2.2.1.map Booking.enc)]), (961, .box 3 [.v (.int .i64 a1.2.2.2)])] [(1000, .row 3 1 (r.map encI))] := by
  unfold impl_arrivals_at1fn94 at hM
  refine cn (N := 125) (pids := [901, 921, 941, 961]) Try_mixed Try.func81 (by kernel_rfl) (by kernel_rfl) (by kernel_rfl) rfl fun ρ g w R => ?_
  obtain ⟨v1, h2, hM⟩ := bind_some hM
  obtain ⟨v3, h4, hM⟩ := bind_some hM
  rcases cond_cases hM with ⟨h5, hM⟩ | ⟨h5, hM⟩
  · have hE : some ([] : List Int) = some r := hM
    have hE := Option.some.inj hE
    subst hE
    exact pr R 9999 [.new 0, .call false [] (.o (.c (.sl 1))) [] [(1, .row 9 1 (v1.map encS))], .call false [] (.o (.c (.v (.int .i64 v3)))) [] [], .as 30 true] [.nl 10 1000 3 1] [901, 921, 941, 961] [1000] (And.intro (And.intro (con_sw 1000 1 (impl_PlacesOf_ok a0 v1 h2)) (rfl : ([] : List Nat) = [])) (And.intro (impl_placeAt_ok v1 a2 v3 h4) (And.intro h5 True.intro))) (by kernel_rfl)
  · rcases cond_cases hM with ⟨h6, hM⟩ | ⟨h6, hM⟩
    · have hE : some ([] : List Int) = some r := hM
      have hE := Option.some.inj hE
      subst hE
      exact pr R 9999 [.new 0, .call false [] (.o (.c (.sl 1))) [] [(1, .row 9 1 (v1.map encS))], .call false [] (.o (.c (.v (.int .i64 v3)))) [] [], .as 30 false, .as 34 true] [.nl 10 1000 3 1] [901, 921, 941, 961] [1000] (And.intro (And.intro (con_sw 1000 1 (impl_PlacesOf_ok a0 v1 h2)) (rfl : ([] : List Nat) = [])) (And.intro (impl_placeAt_ok v1 a2 v3 h4) (And.intro h5 (And.intro h6 True.intro)))) (by kernel_rfl)
    · rcases cond_cases hM with ⟨h7, hM⟩ | ⟨h7, hM⟩
      · have hE : some ([] : List Int) = some r := hM
        have hE := Option.some.inj hE
        subst hE
        exact pr R 9999 [.new 0, .call false [] (.o (.c (.sl 1))) [] [(1, .row 9 1 (v1.map encS))], .call false [] (.o (.c (.v (.int .i64 v3)))) [] [], .as 30 false, .as 34 false, .as 37 true] [.nl 10 1000 3 1] [901, 921, 941, 961] [1000] (And.intro (And.intro (con_sw 1000 1 (impl_PlacesOf_ok a0 v1 h2)) (rfl : ([] : List Nat) = [])) (And.intro (impl_placeAt_ok v1 a2 v3 h4) (And.intro h5 (And.intro h6 (And.intro h7 True.intro))))) (by kernel_rfl)
      · have K1 : ∀ (s10 : (List Int)), impl_arrivals_at1fn94_L1_a a0 a1 a3 a4 v1 v3 s10 = some r → Gr R [.code (cAt Try.f81 [1, 1, 1, 1, 1, 1])] (⟨[(1, .o (.c (.fn 94 [901, 921, 941, 961]))), (3, .o (.c (.v (.int .i64 a3)))), (4, .o (.c (.v (.int .i64 a4)))), (5, .o (.c (.ptr 0 0))), (11, .o (.c (.sl 1))), (12, .o (.c (.v (.int .i64 v3)))), (13, .o (.c (.sl 2)))], [(901, .box 32 [.rs 6 (a1.1.Legs.map Leg.enc), .rs 1 (a1.1.Off.map encI), .v (.int .i64 a1.1.Change)]), (921, .box 27 [.rs 2 (a1.2.1.map Trip.enc)]), (941, .box 41 [.rs 4 (a1.2.2.1.map Booking.enc)]), (961, .box 3 [.v (.int .i64 a1.2.2.2)]), (0, .box 32 [.rs 6 (a0.Legs.map Leg.enc), .rs 1 (a0.Off.map encI), .v (.int .i64 a0.Change)]), (1, .row 9 1 (v1.map encS)), (2, .row 3 1 (s10.map encI))]⟩) := by
          intro s10 hM
          unfold impl_arrivals_at1fn94_L1_a at hM
          obtain ⟨v11, h12, hM⟩ := bind_some hM
          have K2 : ∀ (s15 : (List Int)), impl_arrivals_at1fn94_L2_a s15 = some r → Gr R [.code (cAt Try.f81 [1, 1, 1, 1, 1, 1, 1, 1])] (⟨[(1, .o (.c (.fn 94 [901, 921, 941, 961]))), (13, .o (.c (.sl 4)))], [(901, .box 32 [.rs 6 (a1.1.Legs.map Leg.enc), .rs 1 (a1.1.Off.map encI), .v (.int .i64 a1.1.Change)]), (921, .box 27 [.rs 2 (a1.2.1.map Trip.enc)]), (941, .box 41 [.rs 4 (a1.2.2.1.map Booking.enc)]), (961, .box 3 [.v (.int .i64 a1.2.2.2)]), (4, .row 3 1 (s15.map encI))]⟩) := by
            intro s15 hM
            unfold impl_arrivals_at1fn94_L2_a at hM
            have hE : some s15 = some r := hM
            have hE := Option.some.inj hE
            subst hE
            exact pr R 9999 [] [.sw 4 1000] [901, 921, 941, 961] [1000] True.intro (by kernel_rfl)
          refine pc R 9999 [.ix (encI v11), .nm ((List.set s10 (Int.toNat v3) (if 0 > a3 then 0 else a3)).map encI)] [.keep [1, 4, 5, 11, 12, 13, 14] [901, 921, 941, 961, 0, 1, 2]] (k' := [.code (.loop (cAt Try.f81 [1, 1, 1, 1, 1, 1, 1, 0, 1, 0, 0])), .blk 2, .code (cAt Try.f81 [1, 1, 1, 1, 1, 1, 1, 1])]) (S' := impl_arrivals_at1fn94_L2_S a0 a1 a4 v1 v3 (List.set s10 (Int.toNat v3) (if 0 > a3 then 0 else a3), 0)) (And.intro (gi_lt encI h12) (And.intro (And.intro (gi_map encI h12).2 (set_map encI s10 (Int.toNat v3) (if 0 > a3 then 0 else a3))) True.intro)) (by kernel_rfl) ?_
          refine lq (impl_arrivals_at1fn94_L2_S a0 a1 a4 v1 v3) (body := impl_arrivals_at1fn94_L2 a0 a1 a4 v1 v3) (k := impl_arrivals_at1fn94_L2_k) hM fun m2 s c2 hM hK2 => ?_
          obtain ⟨s13, s14⟩ := s
          have hM : impl_arrivals_at1fn94_L2_b a0 a1 a4 v1 v3 s13 s14 = some c2 := hM
          unfold impl_arrivals_at1fn94_L2_b at hM
          rcases cond_cases hM with ⟨h16, hM⟩ | ⟨h16, hM⟩
          · obtain ⟨v17, h18, hM⟩ := bind_some hM
            have K3 : ∀ (s22 : (List Int)) (s23 : Bool), impl_arrivals_at1fn94_L3_a s14 s22 s23 = some c2 → Gr R [.code (cAt Try.f81 [1, 1, 1, 1, 1, 1, 1, 0, 1, 0, 0, 1, 0, 0, 1, 1, 1]), .blk 3, .code (cAt Try.f81 [1, 1, 1, 1, 1, 1, 1, 0, 1, 0, 0, 1, 1]), .inv (Jr R (impl_arrivals_at1fn94_L2_S a0 a1 a4 v1 v3) (Mk (impl_arrivals_at1fn94_L2 a0 a1 a4 v1 v3) (impl_arrivals_at1fn94_L2_k) r) (m2 + 1)), .blk 2, .code (cAt Try.f81 [1, 1, 1, 1, 1, 1, 1, 1])] (⟨[(1, .o (.c (.fn 94 [901, 921, 941, 961]))), (4, .o (.c (.v (.int .i64 a4)))), (5, .o (.c (.ptr 0 0))), (11, .o (.c (.sl 1))), (12, .o (.c (.v (.int .i64 v3)))), (14, .o (.c (.v (.int .i64 s14)))), (15, .o (.c (.sl 6))), (16, .o (.c (.v (.bool s23))))], [(901, .box 32 [.rs 6 (a1.1.Legs.map Leg.enc), .rs 1 (a1.1.Off.map encI), .v (.int .i64 a1.1.Change)]), (921, .box 27 [.rs 2 (a1.2.1.map Trip.enc)]), (941, .box 41 [.rs 4 (a1.2.2.1.map Booking.enc)]), (961, .box 3 [.v (.int .i64 a1.2.2.2)]), (0, .box 32 [.rs 6 (a0.Legs.map Leg.enc), .rs 1 (a0.Off.map encI), .v (.int .i64 a0.Change)]), (1, .row 9 1 (v1.map encS)), (6, .row 3 1 (s22.map encI))]⟩) := by
              intro s22 s23 hM
              unfold impl_arrivals_at1fn94_L3_a at hM
              rcases cond_cases hM with ⟨h24, hM⟩ | ⟨h24, hM⟩
              · have hE : some (Ctl.brk s22) = some c2 := hM
                have hE := Option.some.inj hE
                subst hE
                exact pc R 6 [.as 123 true] [.sw 6 4, .keep [1, 13] [901, 921, 941, 961, 4]] (And.intro h24 True.intro) (by kernel_rfl) (K2 s22 hK2)
              · have hE : some (Ctl.next (s22, w64 (s14 + 1))) = some c2 := hM
                have hE := Option.some.inj hE
                subst hE
                exact pc R 9999 [.as 123 false] [.sw 6 2, .keep [1, 4, 5, 11, 12, 13, 14] [901, 921, 941, 961, 0, 1, 2]] (And.intro h24 True.intro) (by kernel_rfl) (li (Sf := impl_arrivals_at1fn94_L2_S a0 a1 a4 v1 v3) (M := Mk (impl_arrivals_at1fn94_L2 a0 a1 a4 v1 v3) (impl_arrivals_at1fn94_L2_k) r) (k := [.blk 2, .code (cAt Try.f81 [1, 1, 1, 1, 1, 1, 1, 1])]) (Nat.lt_succ_self m2) hK2)
            refine pc R 9999 [.as 54 true, .new 5, .new 6, .nm (v17.map encI), .ln (a0.Legs.length)] [.keep [1, 4, 5, 11, 12, 13, 14, 15, 16, 61, 62, 63] [901, 921, 941, 961, 0, 1, 2, 6]] (k' := [.code (.loop (cAt Try.f81 [1, 1, 1, 1, 1, 1, 1, 0, 1, 0, 0, 1, 0, 0, 1, 1, 0, 1, 0, 0])), .blk 4, .code (cAt Try.f81 [1, 1, 1, 1, 1, 1, 1, 0, 1, 0, 0, 1, 0, 0, 1, 1, 1]), .blk 3, .code (cAt Try.f81 [1, 1, 1, 1, 1, 1, 1, 0, 1, 0, 0, 1, 1]), .inv (Jr R (impl_arrivals_at1fn94_L2_S a0 a1 a4 v1 v3) (Mk (impl_arrivals_at1fn94_L2 a0 a1 a4 v1 v3) (impl_arrivals_at1fn94_L2_k) r) (m2 + 1)), .blk 2, .code (cAt Try.f81 [1, 1, 1, 1, 1, 1, 1, 1])]) (S' := impl_arrivals_at1fn94_L3_S a0 a1 a4 v1 v3 s13 s14 (v17, false, 0)) (And.intro h16 (And.intro (ap_ok encI h18) (And.intro (lenm Leg.enc a0.Legs) True.intro))) (by kernel_rfl) ?_
            refine lq (impl_arrivals_at1fn94_L3_S a0 a1 a4 v1 v3 s13 s14) (body := impl_arrivals_at1fn94_L3 a0 a1 v1 v3 s13) (k := impl_arrivals_at1fn94_L3_k s14) hM fun m3 s c3 hM hK3 => ?_
            obtain ⟨s19, s20, s21⟩ := s
            have hM : impl_arrivals_at1fn94_L3_b a0 a1 v1 v3 s13 s19 s20 s21 = some c3 := hM
            unfold impl_arrivals_at1fn94_L3_b at hM
            rcases cond_cases hM with ⟨h25, hM⟩ | ⟨h25, hM⟩
            · obtain ⟨v26, h27, hM⟩ := bind_some hM
              obtain ⟨v28, h29, hM⟩ := bind_some hM
              obtain ⟨v30, h31, hM⟩ := bind_some hM
              obtain ⟨v32, h33, hM⟩ := bind_some hM
              rcases cond_cases hM with ⟨h34, hM⟩ | ⟨h34, hM⟩
              · have hE : some (Ctl.next (s19, s20, w64 (s21 + 1))) = some c3 := hM
                have hE := Option.some.inj hE
                subst hE
                exact pc R 9999 [.as 64 true, .ix (Leg.enc v26), .new 7, .call false [] (.o (.c (.v (.int .i64 v28)))) [] [], .call false [] (.o (.c (.v (.int .i64 v30)))) [] [], .ix (encI v32), .as 80 true] [.keep [1, 4, 5, 11, 12, 13, 14, 15, 16, 61, 62, 63] [901, 921, 941, 961, 0, 1, 2, 6]] (And.intro h25 (And.intro (gi_map Leg.enc h27) (And.intro (impl_placeAt_ok v1 v26.From v28 h29) (And.intro (impl_placeAt_ok v1 v26.To v30 h31) (And.intro (gi_lt encI h33) (And.intro ((gi_map encI h33).2) (And.intro h34 True.intro))))))) (by kernel_rfl) (li (Sf := impl_arrivals_at1fn94_L3_S a0 a1 a4 v1 v3 s13 s14) (M := Mk (impl_arrivals_at1fn94_L3 a0 a1 v1 v3 s13) (impl_arrivals_at1fn94_L3_k s14) c2) (k := [.blk 4, .code (cAt Try.f81 [1, 1, 1, 1, 1, 1, 1, 0, 1, 0, 0, 1, 0, 0, 1, 1, 1]), .blk 3, .code (cAt Try.f81 [1, 1, 1, 1, 1, 1, 1, 0, 1, 0, 0, 1, 1]), .inv (Jr R (impl_arrivals_at1fn94_L2_S a0 a1 a4 v1 v3) (Mk (impl_arrivals_at1fn94_L2 a0 a1 a4 v1 v3) (impl_arrivals_at1fn94_L2_k) r) (m2 + 1)), .blk 2, .code (cAt Try.f81 [1, 1, 1, 1, 1, 1, 1, 1])]) (Nat.lt_succ_self m3) hK3)
              · obtain ⟨v35, h36, hM⟩ := bind_some hM
                obtain ⟨v37, h38, hM⟩ := bind_some hM
                obtain ⟨v39, h40, hM⟩ := bind_some hM
                have J1 : ∀ (_ : Unit), impl_arrivals_at1fn94_j1 a0 s19 s20 s21 v30 v39 = some c3 → Gr R [.code (cAt Try.f81 [1, 1, 1, 1, 1, 1, 1, 0, 1, 0, 0, 1, 0, 0, 1, 1, 0, 1, 0, 0, 1, 1, 0, 0, 1, 1, 1, 1, 1]), .blk 5, .code (cAt Try.f81 [1, 1, 1, 1, 1, 1, 1, 0, 1, 0, 0, 1, 0, 0, 1, 1, 0, 1, 0, 0, 1, 1, 1]), .inv (Jr R (impl_arrivals_at1fn94_L3_S a0 a1 a4 v1 v3 s13 s14) (Mk (impl_arrivals_at1fn94_L3 a0 a1 v1 v3 s13) (impl_arrivals_at1fn94_L3_k s14) c2) (m3 + 1)), .blk 4, .code (cAt Try.f81 [1, 1, 1, 1, 1, 1, 1, 0, 1, 0, 0, 1, 0, 0, 1, 1, 1]), .blk 3, .code (cAt Try.f81 [1, 1, 1, 1, 1, 1, 1, 0, 1, 0, 0, 1, 1]), .inv (Jr R (impl_arrivals_at1fn94_L2_S a0 a1 a4 v1 v3) (Mk (impl_arrivals_at1fn94_L2 a0 a1 a4 v1 v3) (impl_arrivals_at1fn94_L2_k) r) (m2 + 1)), .blk 2, .code (cAt Try.f81 [1, 1, 1, 1, 1, 1, 1, 1])] (impl_arrivals_at1fn94_x16 a0 a1 a4 v1 v3 s13 s14 s19 s20 s21 v30 v39) := by
                  intro _ hM
                  unfold impl_arrivals_at1fn94_j1 at hM
                  rcases cond_cases hM with ⟨h41, hM⟩ | ⟨h41, hM⟩
                  · obtain ⟨v42, h43, hM⟩ := bind_some hM
                    rcases cond_cases hM with ⟨h44, hM⟩ | ⟨h44, hM⟩
                    · obtain ⟨v45, h46, hM⟩ := bind_some hM
                      obtain ⟨v47, h48, hM⟩ := bind_some hM
                      have hE : some (Ctl.next (List.set s19 (Int.toNat v30) v45, true, w64 (s21 + 1))) = some c3 := hM
                      have hE := Option.some.inj hE
                      subst hE
                      exact pc R 9999 [.as 97 true, .ix (encI v42), .as 103 true, .call false [] (.o (.c (.v (.int .i64 v45)))) [] [], .ix (encI v47), .nm ((List.set s19 (Int.toNat v30) v45).map encI)] [.keep [1, 4, 5, 11, 12, 13, 14, 15, 16, 61, 62, 63] [901, 921, 941, 961, 0, 1, 2, 6]] (And.intro h41 (And.intro (gi_lt encI h43) (And.intro ((gi_map encI h43).2) (And.intro h44 (And.intro (impl_ends_ok a0 v39.1 v45 h46) (And.intro (gi_lt encI h48) (And.intro (And.intro (gi_map encI h48).2 (set_map encI s19 (Int.toNat v30) v45)) True.intro))))))) (by kernel_rfl) (li (Sf := impl_arrivals_at1fn94_L3_S a0 a1 a4 v1 v3 s13 s14) (M := Mk (impl_arrivals_at1fn94_L3 a0 a1 v1 v3 s13) (impl_arrivals_at1fn94_L3_k s14) c2) (k := [.blk 4, .code (cAt Try.f81 [1, 1, 1, 1, 1, 1, 1, 0, 1, 0, 0, 1, 0, 0, 1, 1, 1]), .blk 3, .code (cAt Try.f81 [1, 1, 1, 1, 1, 1, 1, 0, 1, 0, 0, 1, 1]), .inv (Jr R (impl_arrivals_at1fn94_L2_S a0 a1 a4 v1 v3) (Mk (impl_arrivals_at1fn94_L2 a0 a1 a4 v1 v3) (impl_arrivals_at1fn94_L2_k) r) (m2 + 1)), .blk 2, .code (cAt Try.f81 [1, 1, 1, 1, 1, 1, 1, 1])]) (Nat.lt_succ_self m3) hK3)
                    · obtain ⟨v49, h50, hM⟩ := bind_some hM
                      obtain ⟨v51, h52, hM⟩ := bind_some hM
                      rcases cond_cases hM with ⟨h53, hM⟩ | ⟨h53, hM⟩
                      · obtain ⟨v54, h55, hM⟩ := bind_some hM
                        obtain ⟨v56, h57, hM⟩ := bind_some hM
                        have hE : some (Ctl.next (List.set s19 (Int.toNat v30) v54, true, w64 (s21 + 1))) = some c3 := hM
                        have hE := Option.some.inj hE
                        subst hE
                        exact pc R 9999 [.as 97 true, .ix (encI v42), .as 103 false, .call false [] (.o (.c (.v (.int .i64 v49)))) [] [], .ix (encI v51), .as 113 true, .call false [] (.o (.c (.v (.int .i64 v54)))) [] [], .ix (encI v56), .nm ((List.set s19 (Int.toNat v30) v54).map encI)] [.keep [1, 4, 5, 11, 12, 13, 14, 15, 16, 61, 62, 63] [901, 921, 941, 961, 0, 1, 2, 6]] (And.intro h41 (And.intro (gi_lt encI h43) (And.intro ((gi_map encI h43).2) (And.intro h44 (And.intro (impl_ends_ok a0 v39.1 v49 h50) (And.intro (gi_lt encI h52) (And.intro ((gi_map encI h52).2) (And.intro h53 (And.intro (impl_ends_ok a0 v39.1 v54 h55) (And.intro (gi_lt encI h57) (And.intro (And.intro (gi_map encI h57).2 (set_map encI s19 (Int.toNat v30) v54)) True.intro))))))))))) (by kernel_rfl) (li (Sf := impl_arrivals_at1fn94_L3_S a0 a1 a4 v1 v3 s13 s14) (M := Mk (impl_arrivals_at1fn94_L3 a0 a1 v1 v3 s13) (impl_arrivals_at1fn94_L3_k s14) c2) (k := [.blk 4, .code (cAt Try.f81 [1, 1, 1, 1, 1, 1, 1, 0, 1, 0, 0, 1, 0, 0, 1, 1, 1]), .blk 3, .code (cAt Try.f81 [1, 1, 1, 1, 1, 1, 1, 0, 1, 0, 0, 1, 1]), .inv (Jr R (impl_arrivals_at1fn94_L2_S a0 a1 a4 v1 v3) (Mk (impl_arrivals_at1fn94_L2 a0 a1 a4 v1 v3) (impl_arrivals_at1fn94_L2_k) r) (m2 + 1)), .blk 2, .code (cAt Try.f81 [1, 1, 1, 1, 1, 1, 1, 1])]) (Nat.lt_succ_self m3) hK3)
                      · have hE : some (Ctl.next (s19, s20, w64 (s21 + 1))) = some c3 := hM
                        have hE := Option.some.inj hE
                        subst hE
                        exact pc R 9999 [.as 97 true, .ix (encI v42), .as 103 false, .call false [] (.o (.c (.v (.int .i64 v49)))) [] [], .ix (encI v51), .as 113 false] [.keep [1, 4, 5, 11, 12, 13, 14, 15, 16, 61, 62, 63] [901, 921, 941, 961, 0, 1, 2, 6]] (And.intro h41 (And.intro (gi_lt encI h43) (And.intro ((gi_map encI h43).2) (And.intro h44 (And.intro (impl_ends_ok a0 v39.1 v49 h50) (And.intro (gi_lt encI h52) (And.intro ((gi_map encI h52).2) (And.intro h53 True.intro)))))))) (by kernel_rfl) (li (Sf := impl_arrivals_at1fn94_L3_S a0 a1 a4 v1 v3 s13 s14) (M := Mk (impl_arrivals_at1fn94_L3 a0 a1 v1 v3 s13) (impl_arrivals_at1fn94_L3_k s14) c2) (k := [.blk 4, .code (cAt Try.f81 [1, 1, 1, 1, 1, 1, 1, 0, 1, 0, 0, 1, 0, 0, 1, 1, 1]), .blk 3, .code (cAt Try.f81 [1, 1, 1, 1, 1, 1, 1, 0, 1, 0, 0, 1, 1]), .inv (Jr R (impl_arrivals_at1fn94_L2_S a0 a1 a4 v1 v3) (Mk (impl_arrivals_at1fn94_L2 a0 a1 a4 v1 v3) (impl_arrivals_at1fn94_L2_k) r) (m2 + 1)), .blk 2, .code (cAt Try.f81 [1, 1, 1, 1, 1, 1, 1, 1])]) (Nat.lt_succ_self m3) hK3)
                  · have hE : some (Ctl.next (s19, s20, w64 (s21 + 1))) = some c3 := hM
                    have hE := Option.some.inj hE
                    subst hE
                    exact pc R 9999 [.as 97 false] [.keep [1, 4, 5, 11, 12, 13, 14, 15, 16, 61, 62, 63] [901, 921, 941, 961, 0, 1, 2, 6]] (And.intro h41 True.intro) (by kernel_rfl) (li (Sf := impl_arrivals_at1fn94_L3_S a0 a1 a4 v1 v3 s13 s14) (M := Mk (impl_arrivals_at1fn94_L3 a0 a1 v1 v3 s13) (impl_arrivals_at1fn94_L3_k s14) c2) (k := [.blk 4, .code (cAt Try.f81 [1, 1, 1, 1, 1, 1, 1, 0, 1, 0, 0, 1, 0, 0, 1, 1, 1]), .blk 3, .code (cAt Try.f81 [1, 1, 1, 1, 1, 1, 1, 0, 1, 0, 0, 1, 1]), .inv (Jr R (impl_arrivals_at1fn94_L2_S a0 a1 a4 v1 v3) (Mk (impl_arrivals_at1fn94_L2 a0 a1 a4 v1 v3) (impl_arrivals_at1fn94_L2_k) r) (m2 + 1)), .blk 2, .code (cAt Try.f81 [1, 1, 1, 1, 1, 1, 1, 1])]) (Nat.lt_succ_self m3) hK3)
                exact pc R 20 [.as 64 true, .ix (Leg.enc v26), .new 7, .call false [] (.o (.c (.v (.int .i64 v28)))) [] [], .call false [] (.o (.c (.v (.int .i64 v30)))) [] [], .ix (encI v32), .as 80 false, .xg (impl_arrivals_at1fn94_o16 a1 v35 v37 v39) [.keep [1, 4, 5, 11, 12, 13, 14, 15, 16, 17, 19, 20, 61, 62, 63] [901, 921, 941, 961, 0, 1, 2, 6]] [.keep [1, 4, 5, 11, 12, 13, 14, 15, 16, 20, 21, 22, 61, 62, 63] [901, 921, 941, 961, 0, 1, 2, 6, 8]] (impl_arrivals_at1fn94_x16 a0 a1 a4 v1 v3 s13 s14 s19 s20 s21 v30 v39) [[0, 1, 3, 4, 5, 7, 8, 9], [0, 1, 2, 3, 4, 5, 7, 8, 9], [0, 1, 3, 4, 5, 6, 7, 8, 9], [0, 1, 3, 4, 5, 7, 8, 9, 15], [0, 1, 2, 3, 4, 5, 6, 7, 8, 9], [0, 1, 2, 3, 4, 5, 7, 8, 9, 15], [0, 1, 3, 4, 5, 6, 7, 8, 9, 15], [0, 1, 2, 3, 4, 5, 6, 7, 8, 9, 10], [0, 1, 2, 3, 4, 5, 6, 7, 8, 9, 15], [0, 1, 2, 3, 4, 5, 6, 7, 8, 9, 10, 11, 12, 13, 14], [0, 1, 2, 3, 4, 5, 6, 7, 8, 9, 10, 15], [0, 1, 2, 3, 4, 5, 6, 7, 8, 9, 10, 11, 12, 13, 14, 15]]] [] (And.intro h25 (And.intro (gi_map Leg.enc h27) (And.intro (impl_placeAt_ok v1 v26.From v28 h29) (And.intro (impl_placeAt_ok v1 v26.To v30 h31) (And.intro (gi_lt encI h33) (And.intro ((gi_map encI h33).2) (And.intro h34 (And.intro (gi_lt encI h36) (And.intro (impl_arrivals_at1fn94_y16 a0 a1 a4 v1 v3 s13 s14 s19 s20 s21 v28 v30 v35 v37 v39 [0, 1, 3, 4, 5, 7, 8, 9]) (And.intro (impl_arrivals_at1fn94_y16 a0 a1 a4 v1 v3 s13 s14 s19 s20 s21 v28 v30 v35 v37 v39 [0, 1, 2, 3, 4, 5, 7, 8, 9]) (And.intro ((gi_map encI h36).2) (And.intro (impl_arrivals_at1fn94_y16 a0 a1 a4 v1 v3 s13 s14 s19 s20 s21 v28 v30 v35 v37 v39 [0, 1, 3, 4, 5, 6, 7, 8, 9]) (And.intro (impl_arrivals_at1fn94_y16 a0 a1 a4 v1 v3 s13 s14 s19 s20 s21 v28 v30 v35 v37 v39 [0, 1, 3, 4, 5, 7, 8, 9, 15]) (And.intro ((gi_map encI h36).2) (And.intro (impl_arrivals_at1fn94_y16 a0 a1 a4 v1 v3 s13 s14 s19 s20 s21 v28 v30 v35 v37 v39 [0, 1, 2, 3, 4, 5, 6, 7, 8, 9]) (And.intro (impl_arrivals_at1fn94_y16 a0 a1 a4 v1 v3 s13 s14 s19 s20 s21 v28 v30 v35 v37 v39 [0, 1, 2, 3, 4, 5, 7, 8, 9, 15]) (And.intro (impl_arrivals_at1fn94_y16 a0 a1 a4 v1 v3 s13 s14 s19 s20 s21 v28 v30 v35 v37 v39 [0, 1, 2, 3, 4, 5, 6, 7, 8, 9]) (And.intro (impl_arrivals_at1fn94_y16 a0 a1 a4 v1 v3 s13 s14 s19 s20 s21 v28 v30 v35 v37 v39 [0, 1, 3, 4, 5, 6, 7, 8, 9, 15]) (And.intro (impl_arrivals_at1fn94_y16 a0 a1 a4 v1 v3 s13 s14 s19 s20 s21 v28 v30 v35 v37 v39 [0, 1, 2, 3, 4, 5, 7, 8, 9, 15]) (And.intro ((gi_map encI h36).2) (And.intro (impl_arrivals_at1fn94_y16 a0 a1 a4 v1 v3 s13 s14 s19 s20 s21 v28 v30 v35 v37 v39 [0, 1, 3, 4, 5, 6, 7, 8, 9, 15]) (And.intro (impl_readyAt_ok a0 v35 (v28 == v3) v37 h38) (And.intro (impl_arrivals_at1fn94_y16 a0 a1 a4 v1 v3 s13 s14 s19 s20 s21 v28 v30 v35 v37 v39 [0, 1, 2, 3, 4, 5, 6, 7, 8, 9, 10]) (And.intro (impl_arrivals_at1fn94_y16 a0 a1 a4 v1 v3 s13 s14 s19 s20 s21 v28 v30 v35 v37 v39 [0, 1, 2, 3, 4, 5, 6, 7, 8, 9, 15]) (And.intro ((gi_map encI h36).2) (And.intro (impl_arrivals_at1fn94_y16 a0 a1 a4 v1 v3 s13 s14 s19 s20 s21 v28 v30 v35 v37 v39 [0, 1, 2, 3, 4, 5, 6, 7, 8, 9, 15]) (And.intro (impl_arrivals_at1fn94_y16 a0 a1 a4 v1 v3 s13 s14 s19 s20 s21 v28 v30 v35 v37 v39 [0, 1, 2, 3, 4, 5, 6, 7, 8, 9, 15]) (And.intro (And.intro (con_sw 905 961 (con_sw 904 941 (con_sw 903 921 (con_sw 902 901 (impl_freeOf_c1_ok s21 v37 a1.1 a1.2.1 a1.2.2.1 a1.2.2.2 v39 h40))))) (rfl : ([901, 921, 941, 961] : List Nat) = [901, 921, 941, 961])) (And.intro (impl_arrivals_at1fn94_y16 a0 a1 a4 v1 v3 s13 s14 s19 s20 s21 v28 v30 v35 v37 v39 [0, 1, 2, 3, 4, 5, 6, 7, 8, 9, 10, 11, 12, 13, 14]) (And.intro (impl_arrivals_at1fn94_y16 a0 a1 a4 v1 v3 s13 s14 s19 s20 s21 v28 v30 v35 v37 v39 [0, 1, 2, 3, 4, 5, 6, 7, 8, 9, 10, 15]) (And.intro (impl_readyAt_ok a0 v35 (v28 == v3) v37 h38) (And.intro (impl_arrivals_at1fn94_y16 a0 a1 a4 v1 v3 s13 s14 s19 s20 s21 v28 v30 v35 v37 v39 [0, 1, 2, 3, 4, 5, 6, 7, 8, 9, 10, 15]) (And.intro (impl_arrivals_at1fn94_y16 a0 a1 a4 v1 v3 s13 s14 s19 s20 s21 v28 v30 v35 v37 v39 [0, 1, 2, 3, 4, 5, 6, 7, 8, 9, 10, 11, 12, 13, 14, 15]) (And.intro (And.intro (con_sw 905 961 (con_sw 904 941 (con_sw 903 921 (con_sw 902 901 (impl_freeOf_c1_ok s21 v37 a1.1 a1.2.1 a1.2.2.1 a1.2.2.2 v39 h40))))) (rfl : ([901, 921, 941, 961] : List Nat) = [901, 921, 941, 961])) (And.intro (impl_arrivals_at1fn94_y16 a0 a1 a4 v1 v3 s13 s14 s19 s20 s21 v28 v30 v35 v37 v39 [0, 1, 2, 3, 4, 5, 6, 7, 8, 9, 10, 11, 12, 13, 14, 15]) (And.intro (rfl : (impl_arrivals_at1fn94_x16 a0 a1 a4 v1 v3 s13 s14 s19 s20 s21 v30 v39) = (impl_arrivals_at1fn94_x16 a0 a1 a4 v1 v3 s13 s14 s19 s20 s21 v30 v39)) True.intro)))))))))))))))))))))))))))))))))))) (by kernel_rfl) (J1 () hM)
            · have hE : some (Ctl.brk (s19, s20)) = some c3 := hM
              have hE := Option.some.inj hE
              subst hE
              exact pc R 5 [.as 64 false] [.keep [1, 4, 5, 11, 12, 14, 15, 16] [901, 921, 941, 961, 0, 1, 6]] (And.intro h25 True.intro) (by kernel_rfl) (K3 s19 s20 hK3)
          · have hE : some (Ctl.brk s13) = some c2 := hM
            have hE := Option.some.inj hE
            subst hE
            exact pc R 5 [.as 54 false] [.sw 2 4, .keep [1, 13] [901, 921, 941, 961, 4]] (And.intro h16 True.intro) (by kernel_rfl) (K2 s13 hK2)
        refine pc R 9999 [.new 0, .call false [] (.o (.c (.sl 1))) [] [(1, .row 9 1 (v1.map encS))], .call false [] (.o (.c (.v (.int .i64 v3)))) [] [], .as 30 false, .as 34 false, .as 37 false, .new 2, .ln (v1.length)] [.keep [1, 3, 4, 5, 11, 12, 13, 40, 41] [901, 921, 941, 961, 0, 1, 2]] (k' := [.code (.loop (cAt Try.f81 [1, 1, 1, 1, 1, 0, 1, 0, 0])), .blk 0, .code (cAt Try.f81 [1, 1, 1, 1, 1, 1])]) (S' := impl_arrivals_at1fn94_L1_S a0 a1 a3 a4 v1 v3 (([] : List Int), 0)) (And.intro (And.intro (con_sw 1000 1 (impl_PlacesOf_ok a0 v1 h2)) (rfl : ([] : List Nat) = [])) (And.intro (impl_placeAt_ok v1 a2 v3 h4) (And.intro h5 (And.intro h6 (And.intro h7 (And.intro (lenm encS v1) True.intro)))))) (by kernel_rfl) ?_
        refine lq (impl_arrivals_at1fn94_L1_S a0 a1 a3 a4 v1 v3) (body := impl_arrivals_at1fn94_L1 v1) (k := impl_arrivals_at1fn94_L1_k a0 a1 a3 a4 v1 v3) hM fun m1 s c1 hM hK1 => ?_
        obtain ⟨s8, s9⟩ := s
        have hM : impl_arrivals_at1fn94_L1_b v1 s8 s9 = some c1 := hM
        unfold impl_arrivals_at1fn94_L1_b at hM
        rcases cond_cases hM with ⟨h58, hM⟩ | ⟨h58, hM⟩
        · obtain ⟨v59, h60, hM⟩ := bind_some hM
          have hE : some (Ctl.next (v59, w64 (s9 + 1))) = some c1 := hM
          have hE := Option.some.inj hE
          subst hE
          exact pc R 9999 [.as 42 true, .new 9, .new 10, .nm (v59.map encI)] [.sw 10 2, .keep [1, 3, 4, 5, 11, 12, 13, 40, 41] [901, 921, 941, 961, 0, 1, 2]] (And.intro h58 (And.intro (ap_ok encI h60) True.intro)) (by kernel_rfl) (li (Sf := impl_arrivals_at1fn94_L1_S a0 a1 a3 a4 v1 v3) (M := Mk (impl_arrivals_at1fn94_L1 v1) (impl_arrivals_at1fn94_L1_k a0 a1 a3 a4 v1 v3) r) (k := [.blk 0, .code (cAt Try.f81 [1, 1, 1, 1, 1, 1])]) (Nat.lt_succ_self m1) hK1)
        · have hE : some (Ctl.brk s8) = some c1 := hM
          have hE := Option.some.inj hE
          subst hE
          exact pc R 5 [.as 42 false] [.keep [1, 3, 4, 5, 11, 12, 13] [901, 921, 941, 961, 0, 1, 2]] (And.intro h58 True.intro) (by kernel_rfl) (K1 s8 hK1)

-- loop.example/g03014/impl.lastLeg
def impl_lastLeg_at1fn94_x4 (a0 : Network) (a1 : (Network × (List Trip) × (List Booking) × Int)) (a2 : (List ByteArray)) (a3 : (List Int)) (a4 : ByteArray) (a5 : Int) (a6 : Int) (s1 : Int) (v17 : (Trip × Bool)) : St := ⟨[(1, .o (.c (.fn 94 [901, 921, 941, 961]))), (2, .o (.c (.rs 1 (a2.map encS)))), (3, .o (.c (.rs 1 (a3.map encI)))), (4, .o (.c (.v (.string a4)))), (5, .o (.c (.v (.int .i64 a5)))), (6, .o (.c (.v (.int .i64 a6)))), (7, .o (.c (.ptr 0 0))), (14, .o (.c (.ptr 1 0))), (19, .o (.c (.ptr 3 0))), (20, .o (.c (.v (.bool v17.2)))), (22, .o (.c (.rs 6 (a0.Legs.map Leg.enc)))), (23, .o (.c (.v (.int .i64 (a0.Legs.length : Int))))), (24, .o (.c (.v (.int .i64 s1))))], [(901, .box 32 [.rs 6 (a1.1.Legs.map Leg.enc), .rs 1 (a1.1.Off.map encI), .v (.int .i64 a1.1.Change)]), (921, .box 27 [.rs 2 (a1.2.1.map Trip.enc)]), (941, .box 41 [.rs 4 (a1.2.2.1.map Booking.enc)]), (961, .box 3 [.v (.int .i64 a1.2.2.2)]), (0, .box 32 [.rs 6 (a0.Legs.map Leg.enc), .rs 1 (a0.Off.map encI), .v (.int .i64 a0.Change)]), (1, .box 46 [.v (.int .i64 0), .v (.int .i64 0)]), (3, .box 46 [.v (.int .i64 v17.1.Leg), .v (.int .i64 v17.1.Day)])]⟩
def impl_lastLeg_at1fn94_s4 (a0 : Network) (a1 : (Network × (List Trip) × (List Booking) × Int)) (a2 : (List ByteArray)) (a3 : (List Int)) (a4 : ByteArray) (a5 : Int) (a6 : Int) (s1 : Int) (v3 : Leg) (v5 : Int) : St := ⟨[(1, .o (.c (.fn 94 [901, 921, 941, 961]))), (2, .o (.c (.rs 1 (a2.map encS)))), (3, .o (.c (.rs 1 (a3.map encI)))), (4, .o (.c (.v (.string a4)))), (5, .o (.c (.v (.int .i64 a5)))), (6, .o (.c (.v (.int .i64 a6)))), (7, .o (.c (.ptr 0 0))), (14, .o (.c (.ptr 1 0))), (16, .o (.c (.v (.int .i64 s1)))), (17, .o (.c (.ptr 2 0))), (18, .o (.c (.v (.int .i64 v5)))), (22, .o (.c (.rs 6 (a0.Legs.map Leg.enc)))), (23, .o (.c (.v (.int .i64 (a0.Legs.length : Int))))), (24, .o (.c (.v (.int .i64 s1))))], [(901, .box 32 [.rs 6 (a1.1.Legs.map Leg.enc), .rs 1 (a1.1.Off.map encI), .v (.int .i64 a1.1.Change)]), (921, .box 27 [.rs 2 (a1.2.1.map Trip.enc)]), (941, .box 41 [.rs 4 (a1.2.2.1.map Booking.enc)]), (961, .box 3 [.v (.int .i64 a1.2.2.2)]), (0, .box 32 [.rs 6 (a0.Legs.map Leg.enc), .rs 1 (a0.Off.map encI), .v (.int .i64 a0.Change)]), (1, .box 46 [.v (.int .i64 0), .v (.int .i64 0)]), (2, .box 66 [.v (.string v3.From), .v (.string v3.To), .v (.int .i64 v3.Start), .v (.int .i64 v3.Takes), .v (.int .i64 v3.Days), .v (.int .i64 v3.Room)])]⟩
def impl_lastLeg_at1fn94_o4 (a1 : (Network × (List Trip) × (List Booking) × Int)) (v13 : Int) (v15 : Int) (v17 : (Trip × Bool)) : List (List Orc) := [[], [], [], [], [], [.ix (encI v13)], [], [], [], [], [], [.call false [] (.o (.c (.v (.int .i64 v15)))) [] []], [.ad (.keep [1, 2, 3, 4, 5, 6, 7, 14, 16, 17, 18, 19, 20, 22, 23, 24, 25, 26, 27, 28, 29, 30, 31, 32, 33, 34, 35, 36, 37, 38, 39, 40, 41, 42, 43, 44, 45, 46, 47, 48, 49, 50, 51, 52, 53, 54, 55, 56, 57, 58, 59, 60, 61, 62] [901, 921, 941, 961, 0, 1, 2, 3, 4, 5, 6, 7, 8, 9, 10, 11, 12, 13, 14, 15, 16, 17, 18, 19, 20, 21, 22, 23, 24, 25, 26, 27, 28, 29, 30, 31, 32, 33, 34, 35, 36, 37, 38, 39, 40, 41, 42]), .call true [901, 921, 941, 961] (.tup [.c (.v (.agg (Trip.enc v17.1).toArray)), .c (.v (.bool v17.2))]) [(901, .box 32 [.rs 6 (a1.1.Legs.map Leg.enc), .rs 1 (a1.1.Off.map encI), .v (.int .i64 a1.1.Change)]), (921, .box 27 [.rs 2 (a1.2.1.map Trip.enc)]), (941, .box 41 [.rs 4 (a1.2.2.1.map Booking.enc)]), (961, .box 3 [.v (.int .i64 a1.2.2.2)])] []], [], [], [], [.new 3], [], []]
theorem impl_lastLeg_at1fn94_y4 (a0 : Network) (a1 : (Network × (List Trip) × (List Booking) × Int)) (a2 : (List ByteArray)) (a3 : (List Int)) (a4 : ByteArray) (a5 : Int) (a6 : Int) (s1 : Int) (v3 : Leg) (v5 : Int) (v13 : Int) (v15 : Int) (v17 : (Trip × Bool)) (L : List Nat) : subX Try.prog [901, 921, 941, 961] 74 (opsOf (cAt Try.f82 [1, 0, 1, 0, 0, 1, 1, 0, 0, 1, 1, 1, 0])) (impl_lastLeg_at1fn94_o4 a1 v13 v15 v17) L (impl_lastLeg_at1fn94_s4 a0 a1 a2 a3 a4 a5 a6 s1 v3 v5) = subX Try.prog [901, 921, 941, 961] 74 (opsOf (cAt Try.f82 [1, 0, 1, 0, 0, 1, 1, 0, 0, 1, 1, 1, 0])) (impl_lastLeg_at1fn94_o4 a1 v13 v15 v17) L (impl_lastLeg_at1fn94_s4 a0 a1 a2 a3 a4 a5 a6 s1 v3 v5) := rfl
def impl_lastLeg_at1fn94_j1 (a0 : Network) (a6 : Int) (s1 : Int) (v17 : (Trip × Bool)) : Option (Ctl Int Unit (Trip × Bool)) :=
  bif v17.2 then
  (impl_ends a0 v17.1).bind fun v20 =>
  bif (v20 == a6) then
  some (.ret (v17.1, true))
  else
  some (.next (w64 (s1 + 1)))
  else
  some (.next (w64 (s1 + 1)))
def impl_lastLeg_at1fn94_L1_b (a0 : Network) (a1 : (Network × (List Trip) × (List Booking) × Int)) (a2 : (List ByteArray)) (a3 : (List Int)) (a4 : ByteArray) (a5 : Int) (a6 : Int) (s1 : Int) : Option (Ctl Int Unit (Trip × Bool)) :=
  bif (decide (s1 < (a0.Legs.length : Int))) then
  (gi a0.Legs s1).bind fun v3 =>
  (impl_placeAt a2 v3.From).bind fun v5 =>
  (gi a2 a5).bind fun v7 =>
  bif (!(v3.To.toList == v7.toList)) then
  some (.next (w64 (s1 + 1)))
  else
  (gi a3 v5).bind fun v10 =>
  bif (decide (v10 < 0)) then
  some (.next (w64 (s1 + 1)))
  else
  (gi a3 v5).bind fun v13 =>
  (impl_readyAt a0 v13 (v3.From.toList == a4.toList)).bind fun v15 =>
  (impl_freeOf_c1 s1 v15 a1.1 a1.2.1 a1.2.2.1 a1.2.2.2).bind fun v17 =>
  impl_lastLeg_at1fn94_j1 a0 a6 s1 v17
  else
  some (.brk ())
def impl_lastLeg_at1fn94_L1 (a0 : Network) (a1 : (Network × (List Trip) × (List Booking) × Int)) (a2 : (List ByteArray)) (a3 : (List Int)) (a4 : ByteArray) (a5 : Int) (a6 : Int) (s : Int) : Option (Ctl Int Unit (Trip × Bool)) := impl_lastLeg_at1fn94_L1_b a0 a1 a2 a3 a4 a5 a6 s
def impl_lastLeg_at1fn94_L1_s (a0 : Network) (a1 : (Network × (List Trip) × (List Booking) × Int)) (a2 : (List ByteArray)) (a3 : (List Int)) (a4 : ByteArray) (a5 : Int) (a6 : Int) (s1 : Int) : St := ⟨[(1, .o (.c (.fn 94 [901, 921, 941, 961]))), (2, .o (.c (.rs 1 (a2.map encS)))), (3, .o (.c (.rs 1 (a3.map encI)))), (4, .o (.c (.v (.string a4)))), (5, .o (.c (.v (.int .i64 a5)))), (6, .o (.c (.v (.int .i64 a6)))), (7, .o (.c (.ptr 0 0))), (14, .o (.c (.ptr 1 0))), (22, .o (.c (.rs 6 (a0.Legs.map Leg.enc)))), (23, .o (.c (.v (.int .i64 (a0.Legs.length : Int))))), (24, .o (.c (.v (.int .i64 s1))))], [(901, .box 32 [.rs 6 (a1.1.Legs.map Leg.enc), .rs 1 (a1.1.Off.map encI), .v (.int .i64 a1.1.Change)]), (921, .box 27 [.rs 2 (a1.2.1.map Trip.enc)]), (941, .box 41 [.rs 4 (a1.2.2.1.map Booking.enc)]), (961, .box 3 [.v (.int .i64 a1.2.2.2)]), (0, .box 32 [.rs 6 (a0.Legs.map Leg.enc), .rs 1 (a0.Off.map encI), .v (.int .i64 a0.Change)]), (1, .box 46 [.v (.int .i64 0), .v (.int .i64 0)])]⟩
def impl_lastLeg_at1fn94_L1_S (a0 : Network) (a1 : (Network × (List Trip) × (List Booking) × Int)) (a2 : (List ByteArray)) (a3 : (List Int)) (a4 : ByteArray) (a5 : Int) (a6 : Int) (s : Int) : St := impl_lastLeg_at1fn94_L1_s a0 a1 a2 a3 a4 a5 a6 s
def impl_lastLeg_at1fn94_L1_a : Option (Trip × Bool) :=
  some ((Trip.mk ((Trip.mk 0 0).Leg) ((Trip.mk 0 0).Day)), false)
def impl_lastLeg_at1fn94_L1_k (x : (Unit) ⊕ (Trip × Bool)) : Option (Trip × Bool) := match x with
  | .inl t => impl_lastLeg_at1fn94_L1_a
  | .inr y => some y
def impl_lastLeg_at1fn94 (a0 : Network) (a1 : (Network × (List Trip) × (List Booking) × Int)) (a2 : (List ByteArray)) (a3 : (List Int)) (a4 : ByteArray) (a5 : Int) (a6 : Int) : Option (Trip × Bool) :=
  (loopM (impl_lastLeg_at1fn94_L1 a0 a1 a2 a3 a4 a5 a6) big 0).bind (impl_lastLeg_at1fn94_L1_k)
theorem impl_lastLeg_at1fn94_ok (a0 : Network) (a1 : (Network × (List Trip) × (List Booking) × Int)) (a2 : (List ByteArray)) (a3 : (List Int)) (a4 : ByteArray) (a5 : Int) (a6 : Int) (r : Trip × Bool) (hM : impl_lastLeg_at1fn94 a0 a1 a2 a3 a4 a5 a6 = some r) :
    Con Try.prog 82 [.agg [.rs 6 (a0.Legs.map Leg.enc), .rs 1 (a0.Off.map encI), .v (.int .i64 a0.Change)], .c (.fn 94 [901, 921, 941, 961]), .c (.rs 1 (a2.map encS)), .c (.rs 1 (a3.map encI)), .c (.v (.string a4)), .c (.v (.int .i64 a5)), .c (.v (.int .i64 a6))] [(901, .box 32 [.rs 6 (a1.1.Legs.map Leg.enc), .rs 1 (a1.1.Off.map encI), .v (.int .i64 a1.1.Change)]), (921, .box 27 [.rs 2 (a1.2.1.map Trip.enc)]), (941, .box 41 [.rs 4 (a1.2.2.1.map Booking.enc)]), (961, .box 3 [.v (.int .i64 a1.2.2.2)])] (.tup [.c (.v (.agg (Trip.enc r.1).toArray)), .c (.v (.bool r.2))]) [(901, .box 32 [.rs 6 (a1.1.Legs.map Leg.enc), .rs 1 (a1.1.Off.map encI), .v (.int .i64 a1.1.Change)]), (921, .box 27 [.rs 2 (a1.2.1.map Trip.enc)]), (941, .box 41 [.rs 4 (a1.2.2.1.map Booking.enc)]), (961, .box 3 [.v (.int .i64 a1.2.2.2)])] [] := by
  unfold impl_lastLeg_at1fn94 at hM
  refine cn (N := 74) (pids := [901, 921, 941, 961]) Try_mixed Try.func82 (by kernel_rfl) (by kernel_rfl) (by kernel_rfl) rfl fun ρ g w R => ?_
  have K1 : ∀ (_ : Unit), impl_lastLeg_at1fn94_L1_a = some r → Gr R [.code (cAt Try.f82 [1, 1])] (⟨[(1, .o (.c (.fn 94 [901, 921, 941, 961]))), (14, .o (.c (.ptr 1 0)))], [(901, .box 32 [.rs 6 (a1.1.Legs.map Leg.enc), .rs 1 (a1.1.Off.map encI), .v (.int .i64 a1.1.Change)]), (921, .box 27 [.rs 2 (a1.2.1.map Trip.enc)]), (941, .box 41 [.rs 4 (a1.2.2.1.map Booking.enc)]), (961, .box 3 [.v (.int .i64 a1.2.2.2)]), (1, .box 46 [.v (.int .i64 0), .v (.int .i64 0)])]⟩) := by
    intro _ hM
    unfold impl_lastLeg_at1fn94_L1_a at hM
    have hE : some ((Trip.mk ((Trip.mk 0 0).Leg) ((Trip.mk 0 0).Day)), false) = some r := hM
    have hE := Option.some.inj hE
    subst hE
    exact pr R 9999 [] [] [901, 921, 941, 961] [] True.intro (by kernel_rfl)
  refine pc R 9999 [.new 0, .new 1, .ln (a0.Legs.length)] [.keep [1, 2, 3, 4, 5, 6, 7, 14, 22, 23, 24] [901, 921, 941, 961, 0, 1]] (k' := [.code (.loop (cAt Try.f82 [1, 0, 1, 0, 0])), .blk 0, .code (cAt Try.f82 [1, 1])]) (S' := impl_lastLeg_at1fn94_L1_S a0 a1 a2 a3 a4 a5 a6 0) (And.intro (lenm Leg.enc a0.Legs) True.intro) (by kernel_rfl) ?_
  refine lq (impl_lastLeg_at1fn94_L1_S a0 a1 a2 a3 a4 a5 a6) (body := impl_lastLeg_at1fn94_L1 a0 a1 a2 a3 a4 a5 a6) (k := impl_lastLeg_at1fn94_L1_k) hM fun m1 s c1 hM hK1 => ?_
  obtain ⟨s1, hs⟩ : ∃ z, z = s := ⟨_, rfl⟩
  subst hs
  have hM : impl_lastLeg_at1fn94_L1_b a0 a1 a2 a3 a4 a5 a6 s1 = some c1 := hM
  unfold impl_lastLeg_at1fn94_L1_b at hM
  rcases cond_cases hM with ⟨h2, hM⟩ | ⟨h2, hM⟩
  · obtain ⟨v3, h4, hM⟩ := bind_some hM
    obtain ⟨v5, h6, hM⟩ := bind_some hM
    obtain ⟨v7, h8, hM⟩ := bind_some hM
    rcases cond_cases hM with ⟨h9, hM⟩ | ⟨h9, hM⟩
    · have hE : some (Ctl.next (w64 (s1 + 1))) = some c1 := hM
      have hE := Option.some.inj hE
      subst hE
      exact pc R 9999 [.as 25 true, .ix (Leg.enc v3), .new 2, .call false [] (.o (.c (.v (.int .i64 v5)))) [] [], .ix (encS v7), .as 40 true] [.keep [1, 2, 3, 4, 5, 6, 7, 14, 22, 23, 24] [901, 921, 941, 961, 0, 1]] (And.intro h2 (And.intro (gi_map Leg.enc h4) (And.intro (impl_placeAt_ok a2 v3.From v5 h6) (And.intro (gi_map encS h8) (And.intro h9 True.intro))))) (by kernel_rfl) (li (Sf := impl_lastLeg_at1fn94_L1_S a0 a1 a2 a3 a4 a5 a6) (M := Mk (impl_lastLeg_at1fn94_L1 a0 a1 a2 a3 a4 a5 a6) (impl_lastLeg_at1fn94_L1_k) r) (k := [.blk 0, .code (cAt Try.f82 [1, 1])]) (Nat.lt_succ_self m1) hK1)
    · obtain ⟨v10, h11, hM⟩ := bind_some hM
      rcases cond_cases hM with ⟨h12, hM⟩ | ⟨h12, hM⟩
      · have hE : some (Ctl.next (w64 (s1 + 1))) = some c1 := hM
        have hE := Option.some.inj hE
        subst hE
        exact pc R 9999 [.as 25 true, .ix (Leg.enc v3), .new 2, .call false [] (.o (.c (.v (.int .i64 v5)))) [] [], .ix (encS v7), .as 40 false, .ix (encI v10), .as 46 true] [.keep [1, 2, 3, 4, 5, 6, 7, 14, 22, 23, 24] [901, 921, 941, 961, 0, 1]] (And.intro h2 (And.intro (gi_map Leg.enc h4) (And.intro (impl_placeAt_ok a2 v3.From v5 h6) (And.intro (gi_map encS h8) (And.intro h9 (And.intro (gi_map encI h11) (And.intro h12 True.intro))))))) (by kernel_rfl) (li (Sf := impl_lastLeg_at1fn94_L1_S a0 a1 a2 a3 a4 a5 a6) (M := Mk (impl_lastLeg_at1fn94_L1 a0 a1 a2 a3 a4 a5 a6) (impl_lastLeg_at1fn94_L1_k) r) (k := [.blk 0, .code (cAt Try.f82 [1, 1])]) (Nat.lt_succ_self m1) hK1)
      · obtain ⟨v13, h14, hM⟩ := bind_some hM
        obtain ⟨v15, h16, hM⟩ := bind_some hM
        obtain ⟨v17, h18, hM⟩ := bind_some hM
        have J1 : ∀ (_ : Unit), impl_lastLeg_at1fn94_j1 a0 a6 s1 v17 = some c1 → Gr R [.code (cAt Try.f82 [1, 0, 1, 0, 0, 1, 1, 0, 0, 1, 1, 1, 1]), .blk 1, .code (cAt Try.f82 [1, 0, 1, 0, 0, 1, 1, 1]), .inv (Jr R (impl_lastLeg_at1fn94_L1_S a0 a1 a2 a3 a4 a5 a6) (Mk (impl_lastLeg_at1fn94_L1 a0 a1 a2 a3 a4 a5 a6) (impl_lastLeg_at1fn94_L1_k) r) (m1 + 1)), .blk 0, .code (cAt Try.f82 [1, 1])] (impl_lastLeg_at1fn94_x4 a0 a1 a2 a3 a4 a5 a6 s1 v17) := by
          intro _ hM
          unfold impl_lastLeg_at1fn94_j1 at hM
          rcases cond_cases hM with ⟨h19, hM⟩ | ⟨h19, hM⟩
          · obtain ⟨v20, h21, hM⟩ := bind_some hM
            rcases cond_cases hM with ⟨h22, hM⟩ | ⟨h22, hM⟩
            · have hE : some (Ctl.ret (v17.1, true)) = some c1 := hM
              have hE := Option.some.inj hE
              subst hE
              have hE : some (v17.1, true) = some r := hK1
              have hE := Option.some.inj hE
              subst hE
              exact pr R 9999 [.as 64 true, .call false [] (.o (.c (.v (.int .i64 v20)))) [] [], .as 70 true] [] [901, 921, 941, 961] [] (And.intro h19 (And.intro (impl_ends_ok a0 v17.1 v20 h21) (And.intro h22 True.intro))) (by kernel_rfl)
            · have hE : some (Ctl.next (w64 (s1 + 1))) = some c1 := hM
              have hE := Option.some.inj hE
              subst hE
              exact pc R 9999 [.as 64 true, .call false [] (.o (.c (.v (.int .i64 v20)))) [] [], .as 70 false] [.keep [1, 2, 3, 4, 5, 6, 7, 14, 22, 23, 24] [901, 921, 941, 961, 0, 1]] (And.intro h19 (And.intro (impl_ends_ok a0 v17.1 v20 h21) (And.intro h22 True.intro))) (by kernel_rfl) (li (Sf := impl_lastLeg_at1fn94_L1_S a0 a1 a2 a3 a4 a5 a6) (M := Mk (impl_lastLeg_at1fn94_L1 a0 a1 a2 a3 a4 a5 a6) (impl_lastLeg_at1fn94_L1_k) r) (k := [.blk 0, .code (cAt Try.f82 [1, 1])]) (Nat.lt_succ_self m1) hK1)
          · have hE : some (Ctl.next (w64 (s1 + 1))) = some c1 := hM
            have hE := Option.some.inj hE
            subst hE
            exact pc R 9999 [.as 64 false] [.keep [1, 2, 3, 4, 5, 6, 7, 14, 22, 23, 24] [901, 921, 941, 961, 0, 1]] (And.intro h19 True.intro) (by kernel_rfl) (li (Sf := impl_lastLeg_at1fn94_L1_S a0 a1 a2 a3 a4 a5 a6) (M := Mk (impl_lastLeg_at1fn94_L1 a0 a1 a2 a3 a4 a5 a6) (impl_lastLeg_at1fn94_L1_k) r) (k := [.blk 0, .code (cAt Try.f82 [1, 1])]) (Nat.lt_succ_self m1) hK1)
        exact pc R 18 [.as 25 true, .ix (Leg.enc v3), .new 2, .call false [] (.o (.c (.v (.int .i64 v5)))) [] [], .ix (encS v7), .as 40 false, .ix (encI v10), .as 46 false, .xg (impl_lastLeg_at1fn94_o4 a1 v13 v15 v17) [.keep [1, 2, 3, 4, 5, 6, 7, 14, 16, 17, 18, 22, 23, 24] [901, 921, 941, 961, 0, 1, 2]] [.keep [1, 2, 3, 4, 5, 6, 7, 14, 19, 20, 22, 23, 24] [901, 921, 941, 961, 0, 1, 3]] (impl_lastLeg_at1fn94_x4 a0 a1 a2 a3 a4 a5 a6 s1 v17) [[0, 1, 3, 4, 5, 7, 9], [0, 1, 2, 3, 4, 5, 7, 9], [0, 1, 3, 4, 5, 6, 7, 9], [0, 1, 3, 4, 5, 7, 8, 9, 10], [0, 1, 3, 4, 5, 7, 9, 16], [0, 1, 2, 3, 4, 5, 6, 7, 9], [0, 1, 2, 3, 4, 5, 7, 8, 9, 10], [0, 1, 2, 3, 4, 5, 7, 9, 16], [0, 1, 3, 4, 5, 6, 7, 8, 9, 10], [0, 1, 3, 4, 5, 6, 7, 9, 16], [0, 1, 3, 4, 5, 7, 8, 9, 10, 16], [0, 1, 2, 3, 4, 5, 6, 7, 8, 9, 10], [0, 1, 2, 3, 4, 5, 6, 7, 9, 16], [0, 1, 2, 3, 4, 5, 7, 8, 9, 10, 16], [0, 1, 3, 4, 5, 6, 7, 8, 9, 10, 16], [0, 1, 2, 3, 4, 5, 6, 7, 8, 9, 10, 11], [0, 1, 2, 3, 4, 5, 6, 7, 8, 9, 10, 16], [0, 1, 2, 3, 4, 5, 6, 7, 8, 9, 10, 11, 12, 13, 14, 15], [0, 1, 2, 3, 4, 5, 6, 7, 8, 9, 10, 11, 16], [0, 1, 2, 3, 4, 5, 6, 7, 8, 9, 10, 11, 12, 13, 14, 15, 16]]] [] (And.intro h2 (And.intro (gi_map Leg.enc h4) (And.intro (impl_placeAt_ok a2 v3.From v5 h6) (And.intro (gi_map encS h8) (And.intro h9 (And.intro (gi_map encI h11) (And.intro h12 (And.intro (gi_map encI h14) (And.intro (impl_lastLeg_at1fn94_y4 a0 a1 a2 a3 a4 a5 a6 s1 v3 v5 v13 v15 v17 [0, 1, 3, 4, 5, 7, 9]) (And.intro (impl_lastLeg_at1fn94_y4 a0 a1 a2 a3 a4 a5 a6 s1 v3 v5 v13 v15 v17 [0, 1, 2, 3, 4, 5, 7, 9]) (And.intro (impl_lastLeg_at1fn94_y4 a0 a1 a2 a3 a4 a5 a6 s1 v3 v5 v13 v15 v17 [0, 1, 3, 4, 5, 6, 7, 9]) (And.intro (impl_lastLeg_at1fn94_y4 a0 a1 a2 a3 a4 a5 a6 s1 v3 v5 v13 v15 v17 [0, 1, 3, 4, 5, 7, 8, 9, 10]) (And.intro (impl_lastLeg_at1fn94_y4 a0 a1 a2 a3 a4 a5 a6 s1 v3 v5 v13 v15 v17 [0, 1, 3, 4, 5, 7, 9, 16]) (And.intro (impl_lastLeg_at1fn94_y4 a0 a1 a2 a3 a4 a5 a6 s1 v3 v5 v13 v15 v17 [0, 1, 2, 3, 4, 5, 6, 7, 9]) (And.intro (impl_lastLeg_at1fn94_y4 a0 a1 a2 a3 a4 a5 a6 s1 v3 v5 v13 v15 v17 [0, 1, 2, 3, 4, 5, 7, 8, 9, 10]) (And.intro (impl_lastLeg_at1fn94_y4 a0 a1 a2 a3 a4 a5 a6 s1 v3 v5 v13 v15 v17 [0, 1, 2, 3, 4, 5, 7, 9, 16]) (And.intro (impl_lastLeg_at1fn94_y4 a0 a1 a2 a3 a4 a5 a6 s1 v3 v5 v13 v15 v17 [0, 1, 2, 3, 4, 5, 6, 7, 9]) (And.intro (impl_lastLeg_at1fn94_y4 a0 a1 a2 a3 a4 a5 a6 s1 v3 v5 v13 v15 v17 [0, 1, 3, 4, 5, 6, 7, 8, 9, 10]) (And.intro (impl_lastLeg_at1fn94_y4 a0 a1 a2 a3 a4 a5 a6 s1 v3 v5 v13 v15 v17 [0, 1, 3, 4, 5, 6, 7, 9, 16]) (And.intro (impl_lastLeg_at1fn94_y4 a0 a1 a2 a3 a4 a5 a6 s1 v3 v5 v13 v15 v17 [0, 1, 2, 3, 4, 5, 7, 8, 9, 10]) (And.intro (impl_lastLeg_at1fn94_y4 a0 a1 a2 a3 a4 a5 a6 s1 v3 v5 v13 v15 v17 [0, 1, 3, 4, 5, 6, 7, 8, 9, 10]) (And.intro (impl_lastLeg_at1fn94_y4 a0 a1 a2 a3 a4 a5 a6 s1 v3 v5 v13 v15 v17 [0, 1, 3, 4, 5, 7, 8, 9, 10, 16]) (And.intro (impl_lastLeg_at1fn94_y4 a0 a1 a2 a3 a4 a5 a6 s1 v3 v5 v13 v15 v17 [0, 1, 2, 3, 4, 5, 7, 9, 16]) (And.intro (impl_lastLeg_at1fn94_y4 a0 a1 a2 a3 a4 a5 a6 s1 v3 v5 v13 v15 v17 [0, 1, 3, 4, 5, 6, 7, 9, 16]) (And.intro (impl_lastLeg_at1fn94_y4 a0 a1 a2 a3 a4 a5 a6 s1 v3 v5 v13 v15 v17 [0, 1, 3, 4, 5, 7, 8, 9, 10, 16]) (And.intro (impl_lastLeg_at1fn94_y4 a0 a1 a2 a3 a4 a5 a6 s1 v3 v5 v13 v15 v17 [0, 1, 2, 3, 4, 5, 6, 7, 8, 9, 10]) (And.intro (impl_lastLeg_at1fn94_y4 a0 a1 a2 a3 a4 a5 a6 s1 v3 v5 v13 v15 v17 [0, 1, 2, 3, 4, 5, 6, 7, 9, 16]) (And.intro (impl_lastLeg_at1fn94_y4 a0 a1 a2 a3 a4 a5 a6 s1 v3 v5 v13 v15 v17 [0, 1, 2, 3, 4, 5, 6, 7, 8, 9, 10]) (And.intro (impl_lastLeg_at1fn94_y4 a0 a1 a2 a3 a4 a5 a6 s1 v3 v5 v13 v15 v17 [0, 1, 2, 3, 4, 5, 7, 8, 9, 10, 16]) (And.intro (impl_lastLeg_at1fn94_y4 a0 a1 a2 a3 a4 a5 a6 s1 v3 v5 v13 v15 v17 [0, 1, 2, 3, 4, 5, 6, 7, 9, 16]) (And.intro (impl_lastLeg_at1fn94_y4 a0 a1 a2 a3 a4 a5 a6 s1 v3 v5 v13 v15 v17 [0, 1, 2, 3, 4, 5, 7, 8, 9, 10, 16]) (And.intro (impl_lastLeg_at1fn94_y4 a0 a1 a2 a3 a4 a5 a6 s1 v3 v5 v13 v15 v17 [0, 1, 2, 3, 4, 5, 6, 7, 8, 9, 10]) (And.intro (impl_lastLeg_at1fn94_y4 a0 a1 a2 a3 a4 a5 a6 s1 v3 v5 v13 v15 v17 [0, 1, 3, 4, 5, 6, 7, 8, 9, 10, 16]) (And.intro (impl_lastLeg_at1fn94_y4 a0 a1 a2 a3 a4 a5 a6 s1 v3 v5 v13 v15 v17 [0, 1, 2, 3, 4, 5, 6, 7, 9, 16]) (And.intro (impl_lastLeg_at1fn94_y4 a0 a1 a2 a3 a4 a5 a6 s1 v3 v5 v13 v15 v17 [0, 1, 3, 4, 5, 6, 7, 8, 9, 10, 16]) (And.intro (impl_lastLeg_at1fn94_y4 a0 a1 a2 a3 a4 a5 a6 s1 v3 v5 v13 v15 v17 [0, 1, 2, 3, 4, 5, 7, 8, 9, 10, 16]) (And.intro (impl_lastLeg_at1fn94_y4 a0 a1 a2 a3 a4 a5 a6 s1 v3 v5 v13 v15 v17 [0, 1, 3, 4, 5, 6, 7, 8, 9, 10, 16]) (And.intro (impl_readyAt_ok a0 v13 (v3.From.toList == a4.toList) v15 h16) (And.intro (impl_lastLeg_at1fn94_y4 a0 a1 a2 a3 a4 a5 a6 s1 v3 v5 v13 v15 v17 [0, 1, 2, 3, 4, 5, 6, 7, 8, 9, 10, 11]) (And.intro (impl_lastLeg_at1fn94_y4 a0 a1 a2 a3 a4 a5 a6 s1 v3 v5 v13 v15 v17 [0, 1, 2, 3, 4, 5, 6, 7, 8, 9, 10, 16]) (And.intro (impl_lastLeg_at1fn94_y4 a0 a1 a2 a3 a4 a5 a6 s1 v3 v5 v13 v15 v17 [0, 1, 2, 3, 4, 5, 6, 7, 8, 9, 10, 16]) (And.intro (impl_lastLeg_at1fn94_y4 a0 a1 a2 a3 a4 a5 a6 s1 v3 v5 v13 v15 v17 [0, 1, 2, 3, 4, 5, 6, 7, 8, 9, 10, 16]) (And.intro (impl_lastLeg_at1fn94_y4 a0 a1 a2 a3 a4 a5 a6 s1 v3 v5 v13 v15 v17 [0, 1, 2, 3, 4, 5, 6, 7, 8, 9, 10, 16]) (And.intro (And.intro (con_sw 905 961 (con_sw 904 941 (con_sw 903 921 (con_sw 902 901 (impl_freeOf_c1_ok s1 v15 a1.1 a1.2.1 a1.2.2.1 a1.2.2.2 v17 h18))))) (rfl : ([901, 921, 941, 961] : List Nat) = [901, 921, 941, 961])) (And.intro (impl_lastLeg_at1fn94_y4 a0 a1 a2 a3 a4 a5 a6 s1 v3 v5 v13 v15 v17 [0, 1, 2, 3, 4, 5, 6, 7, 8, 9, 10, 11, 12, 13, 14, 15]) (And.intro (impl_lastLeg_at1fn94_y4 a0 a1 a2 a3 a4 a5 a6 s1 v3 v5 v13 v15 v17 [0, 1, 2, 3, 4, 5, 6, 7, 8, 9, 10, 11, 16]) (And.intro (impl_readyAt_ok a0 v13 (v3.From.toList == a4.toList) v15 h16) (And.intro (impl_lastLeg_at1fn94_y4 a0 a1 a2 a3 a4 a5 a6 s1 v3 v5 v13 v15 v17 [0, 1, 2, 3, 4, 5, 6, 7, 8, 9, 10, 11, 16]) (And.intro (impl_lastLeg_at1fn94_y4 a0 a1 a2 a3 a4 a5 a6 s1 v3 v5 v13 v15 v17 [0, 1, 2, 3, 4, 5, 6, 7, 8, 9, 10, 11, 12, 13, 14, 15, 16]) (And.intro (And.intro (con_sw 905 961 (con_sw 904 941 (con_sw 903 921 (con_sw 902 901 (impl_freeOf_c1_ok s1 v15 a1.1 a1.2.1 a1.2.2.1 a1.2.2.2 v17 h18))))) (rfl : ([901, 921, 941, 961] : List Nat) = [901, 921, 941, 961])) (And.intro (impl_lastLeg_at1fn94_y4 a0 a1 a2 a3 a4 a5 a6 s1 v3 v5 v13 v15 v17 [0, 1, 2, 3, 4, 5, 6, 7, 8, 9, 10, 11, 12, 13, 14, 15, 16]) (And.intro (rfl : (impl_lastLeg_at1fn94_x4 a0 a1 a2 a3 a4 a5 a6 s1 v17) = (impl_lastLeg_at1fn94_x4 a0 a1 a2 a3 a4 a5 a6 s1 v17)) True.intro)))))))))))))))))))))))))))))))))))))))))))))))))))) (by kernel_rfl) (J1 () hM)
  · have hE : some (Ctl.brk ()) = some c1 := hM
    have hE := Option.some.inj hE
    subst hE
    exact pc R 5 [.as 25 false] [.keep [1, 14] [901, 921, 941, 961, 1]] (And.intro h2 True.intro) (by kernel_rfl) (K1 () hK1)
end Go.Sx
