/- The functions of the program as plain Lean, and that each runs so (printed by wip/gen). -/
import Derived.Test.YtpgpgangmkjhlaaGdW1
namespace Go.Sx
open Go.Proofs
set_option linter.unusedVariables false
set_option maxRecDepth 100000

-- loop.example/g03014/spec.l6Any
def spec_l6Any (a0 : l1Cur) (a1 : Network) : Option ((List Booking) × l1Cur) :=
  (spec_l6Draw a0 a1 6).bind fun v1 =>
  bif ((v1.1.length : Int) == 0) then
  some v1
  else
  (spec_l1Below v1.2 (v1.1.length : Int)).bind fun v4 =>
  (spec_l1Below v4.2 9).bind fun v6 =>
  bif (v6.1 == 0) then
  (spec_l1Int v6.2 ([0, 1, 60000, 1000001, (-1)] : List Int)).bind fun v9 =>
  (gi v1.1 v4.1).bind fun v11 =>
  some (List.set v1.1 (Int.toNat v4.1) (Booking.mk v11.Thing v11.Trip v9.1), v9.2)
  else
  bif (v6.1 == 1) then
  (spec_l1Int v6.2 ([0, 1, 9999, 10000] : List Int)).bind fun v14 =>
  (gi v1.1 v4.1).bind fun v16 =>
  some (List.set v1.1 (Int.toNat v4.1) (Booking.mk v14.1 v16.Trip v16.Weight), v14.2)
  else
  bif (v6.1 == 2) then
  (gi v1.1 v4.1).bind fun v19 =>
  (gi v1.1 v4.1).bind fun v21 =>
  some (List.set v1.1 (Int.toNat v4.1) (Booking.mk v21.Thing (Trip.mk v21.Trip.Leg (w64 (v19.Trip.Day + 1))) v21.Weight), v6.2)
  else
  bif (v6.1 == 3) then
  (gi v1.1 v4.1).bind fun v24 =>
  (ap 32 v1.1 ([v24] : List Booking)).bind fun v26 =>
  some (v26, v6.2)
  else
  bif (v6.1 == 4) then
  (spec_l1Int v6.2 ([(-1), (a1.Legs.length : Int), 0] : List Int)).bind fun v29 =>
  (gi v1.1 v4.1).bind fun v31 =>
  some (List.set v1.1 (Int.toNat v4.1) (Booking.mk v31.Thing (Trip.mk v29.1 v31.Trip.Day) v31.Weight), v29.2)
  else
  some (v1.1, v6.2)
theorem spec_l6Any_ok (a0 : l1Cur) (a1 : Network) (r : (List Booking) × l1Cur) (hM : spec_l6Any a0 a1 = some r) :
    Con Try.prog 53 [.c (.ptr 900 0), .agg [.sl 901, .sl 921, .v (.int .i64 a1.Change)]] [(900, .box 119 [.rs 1 (a0.b.map encU8), .v (.int .i64 a0.i), .v (.int .i64 a0.h)]), (901, .row 95 6 (a1.Legs.map Leg.enc)), (921, .row 3 1 (a1.Off.map encI))] (.o (.c (.sl 1000))) [(900, .box 119 [.rs 1 (r.2.b.map encU8), .v (.int .i64 r.2.i), .v (.int .i64 r.2.h)]), (901, .row 95 6 (a1.Legs.map Leg.enc)), (921, .row 3 1 (a1.Off.map encI))] [(1000, .row 57 4 (r.1.map Booking.enc))] := by
  unfold spec_l6Any at hM
  refine cn (N := 75) (pids := [900, 901, 921]) Try_mixed Try.func53 (by kernel_rfl) (by kernel_rfl) (by kernel_rfl) rfl fun ρ g w R => ?_
  obtain ⟨v1, h2, hM⟩ := bind_some hM
  rcases cond_cases hM with ⟨h3, hM⟩ | ⟨h3, hM⟩
  · have hE : some v1 = some r := hM
    have hE := Option.some.inj hE
    subst hE
    exact pr R 9999 [.new 0, .ad (.keep [0, 1, 3, 4, 7, 8] [900, 901, 921, 0]), .call true [900, 901, 921] (.o (.c (.sl 1))) [(900, .box 119 [.rs 1 (v1.2.b.map encU8), .v (.int .i64 v1.2.i), .v (.int .i64 v1.2.h)]), (901, .row 95 6 (a1.Legs.map Leg.enc)), (921, .row 3 1 (a1.Off.map encI))] [(1, .row 57 4 (v1.1.map Booking.enc))], .ln (v1.1.length), .as 12 true] [.sw 1 1000] [900, 901, 921] [1000] (And.intro (And.intro (con_sw 921 921 (con_sw 901 901 (con_sw 900 900 (con_sw 1000 1 (spec_l6Draw_ok a0 a1 6 v1 h2))))) (rfl : ([900, 901, 921] : List Nat) = [900, 901, 921])) (And.intro (lenm Booking.enc v1.1) (And.intro h3 True.intro))) (by kernel_rfl)
  · obtain ⟨v4, h5, hM⟩ := bind_some hM
    obtain ⟨v6, h7, hM⟩ := bind_some hM
    rcases cond_cases hM with ⟨h8, hM⟩ | ⟨h8, hM⟩
    · obtain ⟨v9, h10, hM⟩ := bind_some hM
      obtain ⟨v11, h12, hM⟩ := bind_some hM
      have hE : some (List.set v1.1 (Int.toNat v4.1) (Booking.mk v11.Thing v11.Trip v9.1), v9.2) = some r := hM
      have hE := Option.some.inj hE
      subst hE
      exact pr R 9999 [.new 0, .ad (.keep [0, 1, 3, 4, 7, 8] [900, 901, 921, 0]), .call true [900, 901, 921] (.o (.c (.sl 1))) [(900, .box 119 [.rs 1 (v1.2.b.map encU8), .v (.int .i64 v1.2.i), .v (.int .i64 v1.2.h)]), (901, .row 95 6 (a1.Legs.map Leg.enc)), (921, .row 3 1 (a1.Off.map encI))] [(1, .row 57 4 (v1.1.map Booking.enc))], .ln (v1.1.length), .as 12 false, .ln (v1.1.length), .call true [900] (.o (.c (.v (.int .i64 v4.1)))) [(900, .box 119 [.rs 1 (v4.2.b.map encU8), .v (.int .i64 v4.2.i), .v (.int .i64 v4.2.h)])] [], .call true [900] (.o (.c (.v (.int .i64 v6.1)))) [(900, .box 119 [.rs 1 (v6.2.b.map encU8), .v (.int .i64 v6.2.i), .v (.int .i64 v6.2.h)])] [], .as 20 true, .new 2, .ad (.keep [0, 1, 3, 4, 5, 6, 7, 8, 9, 10, 11, 12, 14, 15, 16, 17, 18, 19, 20, 21, 22, 23, 24, 25] [900, 2, 901, 921, 0, 1]), .call true [900, 2] (.o (.c (.v (.int .i64 v9.1)))) [(900, .box 119 [.rs 1 (v9.2.b.map encU8), .v (.int .i64 v9.2.i), .v (.int .i64 v9.2.h)]), (2, .row 3 1 (([0, 1, 60000, 1000001, (-1)] : List Int).map encI))] [], .ix (Booking.enc v11), .nm ((List.set v1.1 (Int.toNat v4.1) (Booking.mk v11.Thing v11.Trip v9.1)).map Booking.enc)] [.sw 1 1000] [900, 901, 921] [1000] (And.intro (And.intro (con_sw 921 921 (con_sw 901 901 (con_sw 900 900 (con_sw 1000 1 (spec_l6Draw_ok a0 a1 6 v1 h2))))) (rfl : ([900, 901, 921] : List Nat) = [900, 901, 921])) (And.intro (lenm Booking.enc v1.1) (And.intro h3 (And.intro (lenm Booking.enc v1.1) (And.intro (And.intro (con_sw 900 900 (spec_l1Below_ok v1.2 (v1.1.length : Int) v4 h5)) (rfl : ([900] : List Nat) = [900])) (And.intro (And.intro (con_sw 900 900 (spec_l1Below_ok v4.2 9 v6 h7)) (rfl : ([900] : List Nat) = [900])) (And.intro h8 (And.intro (And.intro (con_sw 901 2 (con_sw 900 900 (spec_l1Int_ok v6.2 ([0, 1, 60000, 1000001, (-1)] : List Int) v9 h10))) (rfl : ([900, 2] : List Nat) = [900, 2])) (And.intro (gi_lt Booking.enc h12) (And.intro (And.intro (gi_map Booking.enc h12).2 (set_map Booking.enc v1.1 (Int.toNat v4.1) (Booking.mk v11.Thing v11.Trip v9.1))) True.intro)))))))))) (by kernel_rfl)
    · rcases cond_cases hM with ⟨h13, hM⟩ | ⟨h13, hM⟩
      · obtain ⟨v14, h15, hM⟩ := bind_some hM
        obtain ⟨v16, h17, hM⟩ := bind_some hM
        have hE : some (List.set v1.1 (Int.toNat v4.1) (Booking.mk v14.1 v16.Trip v16.Weight), v14.2) = some r := hM
        have hE := Option.some.inj hE
        subst hE
        exact pr R 9999 [.new 0, .ad (.keep [0, 1, 3, 4, 7, 8] [900, 901, 921, 0]), .call true [900, 901, 921] (.o (.c (.sl 1))) [(900, .box 119 [.rs 1 (v1.2.b.map encU8), .v (.int .i64 v1.2.i), .v (.int .i64 v1.2.h)]), (901, .row 95 6 (a1.Legs.map Leg.enc)), (921, .row 3 1 (a1.Off.map encI))] [(1, .row 57 4 (v1.1.map Booking.enc))], .ln (v1.1.length), .as 12 false, .ln (v1.1.length), .call true [900] (.o (.c (.v (.int .i64 v4.1)))) [(900, .box 119 [.rs 1 (v4.2.b.map encU8), .v (.int .i64 v4.2.i), .v (.int .i64 v4.2.h)])] [], .call true [900] (.o (.c (.v (.int .i64 v6.1)))) [(900, .box 119 [.rs 1 (v6.2.b.map encU8), .v (.int .i64 v6.2.i), .v (.int .i64 v6.2.h)])] [], .as 20 false, .as 29 true, .new 3, .ad (.keep [0, 1, 3, 4, 5, 6, 7, 8, 9, 10, 11, 12, 14, 15, 16, 17, 18, 19, 20, 21, 29, 30, 31, 32, 33, 34] [900, 3, 901, 921, 0, 1]), .call true [900, 3] (.o (.c (.v (.int .i64 v14.1)))) [(900, .box 119 [.rs 1 (v14.2.b.map encU8), .v (.int .i64 v14.2.i), .v (.int .i64 v14.2.h)]), (3, .row 3 1 (([0, 1, 9999, 10000] : List Int).map encI))] [], .ix (Booking.enc v16), .nm ((List.set v1.1 (Int.toNat v4.1) (Booking.mk v14.1 v16.Trip v16.Weight)).map Booking.enc)] [.sw 1 1000] [900, 901, 921] [1000] (And.intro (And.intro (con_sw 921 921 (con_sw 901 901 (con_sw 900 900 (con_sw 1000 1 (spec_l6Draw_ok a0 a1 6 v1 h2))))) (rfl : ([900, 901, 921] : List Nat) = [900, 901, 921])) (And.intro (lenm Booking.enc v1.1) (And.intro h3 (And.intro (lenm Booking.enc v1.1) (And.intro (And.intro (con_sw 900 900 (spec_l1Below_ok v1.2 (v1.1.length : Int) v4 h5)) (rfl : ([900] : List Nat) = [900])) (And.intro (And.intro (con_sw 900 900 (spec_l1Below_ok v4.2 9 v6 h7)) (rfl : ([900] : List Nat) = [900])) (And.intro h8 (And.intro h13 (And.intro (And.intro (con_sw 901 3 (con_sw 900 900 (spec_l1Int_ok v6.2 ([0, 1, 9999, 10000] : List Int) v14 h15))) (rfl : ([900, 3] : List Nat) = [900, 3])) (And.intro (gi_lt Booking.enc h17) (And.intro (And.intro (gi_map Booking.enc h17).2 (set_map Booking.enc v1.1 (Int.toNat v4.1) (Booking.mk v14.1 v16.Trip v16.Weight))) True.intro))))))))))) (by kernel_rfl)
      · rcases cond_cases hM with ⟨h18, hM⟩ | ⟨h18, hM⟩
        · obtain ⟨v19, h20, hM⟩ := bind_some hM
          obtain ⟨v21, h22, hM⟩ := bind_some hM
          have hE : some (List.set v1.1 (Int.toNat v4.1) (Booking.mk v21.Thing (Trip.mk v21.Trip.Leg (w64 (v19.Trip.Day + 1))) v21.Weight), v6.2) = some r := hM
          have hE := Option.some.inj hE
          subst hE
          exact pr R 9999 [.new 0, .ad (.keep [0, 1, 3, 4, 7, 8] [900, 901, 921, 0]), .call true [900, 901, 921] (.o (.c (.sl 1))) [(900, .box 119 [.rs 1 (v1.2.b.map encU8), .v (.int .i64 v1.2.i), .v (.int .i64 v1.2.h)]), (901, .row 95 6 (a1.Legs.map Leg.enc)), (921, .row 3 1 (a1.Off.map encI))] [(1, .row 57 4 (v1.1.map Booking.enc))], .ln (v1.1.length), .as 12 false, .ln (v1.1.length), .call true [900] (.o (.c (.v (.int .i64 v4.1)))) [(900, .box 119 [.rs 1 (v4.2.b.map encU8), .v (.int .i64 v4.2.i), .v (.int .i64 v4.2.h)])] [], .call true [900] (.o (.c (.v (.int .i64 v6.1)))) [(900, .box 119 [.rs 1 (v6.2.b.map encU8), .v (.int .i64 v6.2.i), .v (.int .i64 v6.2.h)])] [], .as 20 false, .as 29 false, .as 38 true, .ix (Booking.enc v19), .ix (Booking.enc v21), .nm ((List.set v1.1 (Int.toNat v4.1) (Booking.mk v21.Thing (Trip.mk v21.Trip.Leg (w64 (v19.Trip.Day + 1))) v21.Weight)).map Booking.enc)] [.sw 1 1000] [900, 901, 921] [1000] (And.intro (And.intro (con_sw 921 921 (con_sw 901 901 (con_sw 900 900 (con_sw 1000 1 (spec_l6Draw_ok a0 a1 6 v1 h2))))) (rfl : ([900, 901, 921] : List Nat) = [900, 901, 921])) (And.intro (lenm Booking.enc v1.1) (And.intro h3 (And.intro (lenm Booking.enc v1.1) (And.intro (And.intro (con_sw 900 900 (spec_l1Below_ok v1.2 (v1.1.length : Int) v4 h5)) (rfl : ([900] : List Nat) = [900])) (And.intro (And.intro (con_sw 900 900 (spec_l1Below_ok v4.2 9 v6 h7)) (rfl : ([900] : List Nat) = [900])) (And.intro h8 (And.intro h13 (And.intro h18 (And.intro (gi_lt Booking.enc h20) (And.intro ((gi_map Booking.enc h20).2) (And.intro (gi_lt Booking.enc h22) (And.intro (And.intro (gi_map Booking.enc h22).2 (set_map Booking.enc v1.1 (Int.toNat v4.1) (Booking.mk v21.Thing (Trip.mk v21.Trip.Leg (w64 (v19.Trip.Day + 1))) v21.Weight))) True.intro))))))))))))) (by kernel_rfl)
        · rcases cond_cases hM with ⟨h23, hM⟩ | ⟨h23, hM⟩
          · obtain ⟨v24, h25, hM⟩ := bind_some hM
            obtain ⟨v26, h27, hM⟩ := bind_some hM
            have hE : some (v26, v6.2) = some r := hM
            have hE := Option.some.inj hE
            subst hE
            exact pr R 9999 [.new 0, .ad (.keep [0, 1, 3, 4, 7, 8] [900, 901, 921, 0]), .call true [900, 901, 921] (.o (.c (.sl 1))) [(900, .box 119 [.rs 1 (v1.2.b.map encU8), .v (.int .i64 v1.2.i), .v (.int .i64 v1.2.h)]), (901, .row 95 6 (a1.Legs.map Leg.enc)), (921, .row 3 1 (a1.Off.map encI))] [(1, .row 57 4 (v1.1.map Booking.enc))], .ln (v1.1.length), .as 12 false, .ln (v1.1.length), .call true [900] (.o (.c (.v (.int .i64 v4.1)))) [(900, .box 119 [.rs 1 (v4.2.b.map encU8), .v (.int .i64 v4.2.i), .v (.int .i64 v4.2.h)])] [], .call true [900] (.o (.c (.v (.int .i64 v6.1)))) [(900, .box 119 [.rs 1 (v6.2.b.map encU8), .v (.int .i64 v6.2.i), .v (.int .i64 v6.2.h)])] [], .as 20 false, .as 29 false, .as 38 false, .as 52 true, .ix (Booking.enc v24), .new 4, .new 5, .nm (v26.map Booking.enc)] [.sw 5 1000] [900, 901, 921] [1000] (And.intro (And.intro (con_sw 921 921 (con_sw 901 901 (con_sw 900 900 (con_sw 1000 1 (spec_l6Draw_ok a0 a1 6 v1 h2))))) (rfl : ([900, 901, 921] : List Nat) = [900, 901, 921])) (And.intro (lenm Booking.enc v1.1) (And.intro h3 (And.intro (lenm Booking.enc v1.1) (And.intro (And.intro (con_sw 900 900 (spec_l1Below_ok v1.2 (v1.1.length : Int) v4 h5)) (rfl : ([900] : List Nat) = [900])) (And.intro (And.intro (con_sw 900 900 (spec_l1Below_ok v4.2 9 v6 h7)) (rfl : ([900] : List Nat) = [900])) (And.intro h8 (And.intro h13 (And.intro h18 (And.intro h23 (And.intro (gi_lt Booking.enc h25) (And.intro ((gi_map Booking.enc h25).2) (And.intro (ap_ok Booking.enc h27) True.intro))))))))))))) (by kernel_rfl)
          · rcases cond_cases hM with ⟨h28, hM⟩ | ⟨h28, hM⟩
            · obtain ⟨v29, h30, hM⟩ := bind_some hM
              obtain ⟨v31, h32, hM⟩ := bind_some hM
              have hE : some (List.set v1.1 (Int.toNat v4.1) (Booking.mk v31.Thing (Trip.mk v29.1 v31.Trip.Day) v31.Weight), v29.2) = some r := hM
              have hE := Option.some.inj hE
              subst hE
              exact pr R 9999 [.new 0, .ad (.keep [0, 1, 3, 4, 7, 8] [900, 901, 921, 0]), .call true [900, 901, 921] (.o (.c (.sl 1))) [(900, .box 119 [.rs 1 (v1.2.b.map encU8), .v (.int .i64 v1.2.i), .v (.int .i64 v1.2.h)]), (901, .row 95 6 (a1.Legs.map Leg.enc)), (921, .row 3 1 (a1.Off.map encI))] [(1, .row 57 4 (v1.1.map Booking.enc))], .ln (v1.1.length), .as 12 false, .ln (v1.1.length), .call true [900] (.o (.c (.v (.int .i64 v4.1)))) [(900, .box 119 [.rs 1 (v4.2.b.map encU8), .v (.int .i64 v4.2.i), .v (.int .i64 v4.2.h)])] [], .call true [900] (.o (.c (.v (.int .i64 v6.1)))) [(900, .box 119 [.rs 1 (v6.2.b.map encU8), .v (.int .i64 v6.2.i), .v (.int .i64 v6.2.h)])] [], .as 20 false, .as 29 false, .as 38 false, .as 52 false, .as 61 true, .ln (a1.Legs.length), .new 6, .ad (.keep [0, 1, 3, 4, 5, 6, 7, 8, 9, 10, 11, 12, 14, 15, 16, 17, 18, 19, 20, 21, 29, 30, 38, 39, 52, 53, 61, 62, 63, 64, 65, 66, 67, 68, 69] [900, 6, 901, 921, 0, 1]), .call true [900, 6] (.o (.c (.v (.int .i64 v29.1)))) [(900, .box 119 [.rs 1 (v29.2.b.map encU8), .v (.int .i64 v29.2.i), .v (.int .i64 v29.2.h)]), (6, .row 3 1 (([(-1), (a1.Legs.length : Int), 0] : List Int).map encI))] [], .ix (Booking.enc v31), .nm ((List.set v1.1 (Int.toNat v4.1) (Booking.mk v31.Thing (Trip.mk v29.1 v31.Trip.Day) v31.Weight)).map Booking.enc)] [.sw 1 1000] [900, 901, 921] [1000] (And.intro (And.intro (con_sw 921 921 (con_sw 901 901 (con_sw 900 900 (con_sw 1000 1 (spec_l6Draw_ok a0 a1 6 v1 h2))))) (rfl : ([900, 901, 921] : List Nat) = [900, 901, 921])) (And.intro (lenm Booking.enc v1.1) (And.intro h3 (And.intro (lenm Booking.enc v1.1) (And.intro (And.intro (con_sw 900 900 (spec_l1Below_ok v1.2 (v1.1.length : Int) v4 h5)) (rfl : ([900] : List Nat) = [900])) (And.intro (And.intro (con_sw 900 900 (spec_l1Below_ok v4.2 9 v6 h7)) (rfl : ([900] : List Nat) = [900])) (And.intro h8 (And.intro h13 (And.intro h18 (And.intro h23 (And.intro h28 (And.intro (lenm Leg.enc a1.Legs) (And.intro (And.intro (con_sw 901 6 (con_sw 900 900 (spec_l1Int_ok v6.2 ([(-1), (a1.Legs.length : Int), 0] : List Int) v29 h30))) (rfl : ([900, 6] : List Nat) = [900, 6])) (And.intro (gi_lt Booking.enc h32) (And.intro (And.intro (gi_map Booking.enc h32).2 (set_map Booking.enc v1.1 (Int.toNat v4.1) (Booking.mk v31.Thing (Trip.mk v29.1 v31.Trip.Day) v31.Weight))) True.intro))))))))))))))) (by kernel_rfl)
            · have hE : some (v1.1, v6.2) = some r := hM
              have hE := Option.some.inj hE
              subst hE
              exact pr R 9999 [.new 0, .ad (.keep [0, 1, 3, 4, 7, 8] [900, 901, 921, 0]), .call true [900, 901, 921] (.o (.c (.sl 1))) [(900, .box 119 [.rs 1 (v1.2.b.map encU8), .v (.int .i64 v1.2.i), .v (.int .i64 v1.2.h)]), (901, .row 95 6 (a1.Legs.map Leg.enc)), (921, .row 3 1 (a1.Off.map encI))] [(1, .row 57 4 (v1.1.map Booking.enc))], .ln (v1.1.length), .as 12 false, .ln (v1.1.length), .call true [900] (.o (.c (.v (.int .i64 v4.1)))) [(900, .box 119 [.rs 1 (v4.2.b.map encU8), .v (.int .i64 v4.2.i), .v (.int .i64 v4.2.h)])] [], .call true [900] (.o (.c (.v (.int .i64 v6.1)))) [(900, .box 119 [.rs 1 (v6.2.b.map encU8), .v (.int .i64 v6.2.i), .v (.int .i64 v6.2.h)])] [], .as 20 false, .as 29 false, .as 38 false, .as 52 false, .as 61 false] [.sw 1 1000] [900, 901, 921] [1000] (And.intro (And.intro (con_sw 921 921 (con_sw 901 901 (con_sw 900 900 (con_sw 1000 1 (spec_l6Draw_ok a0 a1 6 v1 h2))))) (rfl : ([900, 901, 921] : List Nat) = [900, 901, 921])) (And.intro (lenm Booking.enc v1.1) (And.intro h3 (And.intro (lenm Booking.enc v1.1) (And.intro (And.intro (con_sw 900 900 (spec_l1Below_ok v1.2 (v1.1.length : Int) v4 h5)) (rfl : ([900] : List Nat) = [900])) (And.intro (And.intro (con_sw 900 900 (spec_l1Below_ok v4.2 9 v6 h7)) (rfl : ([900] : List Nat) = [900])) (And.intro h8 (And.intro h13 (And.intro h18 (And.intro h23 (And.intro h28 True.intro))))))))))) (by kernel_rfl)

-- loop.example/g03014/spec.l3Next
def spec_l3Next_L1_b (a0 : Network) (a1 : Int) (a2 : Int) (s1 : Int) : Option (Ctl Int Unit Int) :=
  bif (decide (s1 ≤ 60)) then
  (spec_l3Runs a0 a1 s1).bind fun v3 =>
  bif v3 then
  (spec_l3Starts a0 (Trip.mk a1 s1)).bind fun v6 =>
  bif (decide (v6 ≥ a2)) then
  some (.ret s1)
  else
  some (.next (w64 (s1 + 1)))
  else
  some (.next (w64 (s1 + 1)))
  else
  some (.brk ())
def spec_l3Next_L1 (a0 : Network) (a1 : Int) (a2 : Int) (s : Int) : Option (Ctl Int Unit Int) := spec_l3Next_L1_b a0 a1 a2 s
def spec_l3Next_L1_s (a0 : Network) (a1 : Int) (a2 : Int) (s1 : Int) : St := ⟨[(1, .o (.c (.v (.int .i64 a1)))), (2, .o (.c (.v (.int .i64 a2)))), (3, .o (.c (.ptr 0 0))), (7, .o (.c (.v (.int .i64 s1))))], [(0, .box 36 [.rs 6 (a0.Legs.map Leg.enc), .rs 1 (a0.Off.map encI), .v (.int .i64 a0.Change)])]⟩
def spec_l3Next_L1_S (a0 : Network) (a1 : Int) (a2 : Int) (s : Int) : St := spec_l3Next_L1_s a0 a1 a2 s
def spec_l3Next_L1_a : Option Int :=
  some (-1)
def spec_l3Next_L1_k (x : (Unit) ⊕ (Int)) : Option Int := match x with
  | .inl t => spec_l3Next_L1_a
  | .inr y => some y
def spec_l3Next (a0 : Network) (a1 : Int) (a2 : Int) : Option Int :=
  (loopM (spec_l3Next_L1 a0 a1 a2) big 0).bind (spec_l3Next_L1_k)
theorem spec_l3Next_ok (a0 : Network) (a1 : Int) (a2 : Int) (r : Int) (hM : spec_l3Next a0 a1 a2 = some r) :
    Con Try.prog 109 [.agg [.rs 6 (a0.Legs.map Leg.enc), .rs 1 (a0.Off.map encI), .v (.int .i64 a0.Change)], .c (.v (.int .i64 a1)), .c (.v (.int .i64 a2))] [] (.o (.c (.v (.int .i64 r)))) [] [] := by
  unfold spec_l3Next at hM
  refine cn (N := 26) (pids := []) Try_mixed Try.func109 (by kernel_rfl) (by kernel_rfl) (by kernel_rfl) rfl fun ρ g w R => ?_
  have K1 : ∀ (_ : Unit), spec_l3Next_L1_a = some r → Gr R [.code (cAt Try.f109 [1, 1])] (⟨[], []⟩) := by
    intro _ hM
    unfold spec_l3Next_L1_a at hM
    have hE : some (-1) = some r := hM
    have hE := Option.some.inj hE
    subst hE
    exact pr R 9999 [] [] [] [] True.intro (by kernel_rfl)
  refine pc R 9999 [.new 0] [.keep [1, 2, 3, 7] [0]] (k' := [.code (.loop (cAt Try.f109 [1, 0, 1, 0, 0])), .blk 0, .code (cAt Try.f109 [1, 1])]) (S' := spec_l3Next_L1_S a0 a1 a2 0) True.intro (by kernel_rfl) ?_
  refine lq (spec_l3Next_L1_S a0 a1 a2) (body := spec_l3Next_L1 a0 a1 a2) (k := spec_l3Next_L1_k) hM fun m1 s c1 hM hK1 => ?_
  obtain ⟨s1, hs⟩ : ∃ z, z = s := ⟨_, rfl⟩
  subst hs
  have hM : spec_l3Next_L1_b a0 a1 a2 s1 = some c1 := hM
  unfold spec_l3Next_L1_b at hM
  rcases cond_cases hM with ⟨h2, hM⟩ | ⟨h2, hM⟩
  · obtain ⟨v3, h4, hM⟩ := bind_some hM
    rcases cond_cases hM with ⟨h5, hM⟩ | ⟨h5, hM⟩
    · obtain ⟨v6, h7, hM⟩ := bind_some hM
      rcases cond_cases hM with ⟨h8, hM⟩ | ⟨h8, hM⟩
      · have hE : some (Ctl.ret s1) = some c1 := hM
        have hE := Option.some.inj hE
        subst hE
        have hE : some s1 = some r := hK1
        have hE := Option.some.inj hE
        subst hE
        exact pr R 9999 [.as 9 true, .call false [] (.o (.c (.v (.bool v3)))) [] [], .as 16 true, .call false [] (.o (.c (.v (.int .i64 v6)))) [] [], .as 24 true] [] [] [] (And.intro h2 (And.intro (spec_l3Runs_ok a0 a1 s1 v3 h4) (And.intro h5 (And.intro (spec_l3Starts_ok a0 (Trip.mk a1 s1) v6 h7) (And.intro h8 True.intro))))) (by kernel_rfl)
      · have hE : some (Ctl.next (w64 (s1 + 1))) = some c1 := hM
        have hE := Option.some.inj hE
        subst hE
        exact pc R 9999 [.as 9 true, .call false [] (.o (.c (.v (.bool v3)))) [] [], .as 16 true, .call false [] (.o (.c (.v (.int .i64 v6)))) [] [], .as 24 false] [.keep [1, 2, 3, 7] [0]] (And.intro h2 (And.intro (spec_l3Runs_ok a0 a1 s1 v3 h4) (And.intro h5 (And.intro (spec_l3Starts_ok a0 (Trip.mk a1 s1) v6 h7) (And.intro h8 True.intro))))) (by kernel_rfl) (li (Sf := spec_l3Next_L1_S a0 a1 a2) (M := Mk (spec_l3Next_L1 a0 a1 a2) (spec_l3Next_L1_k) r) (k := [.blk 0, .code (cAt Try.f109 [1, 1])]) (Nat.lt_succ_self m1) hK1)
    · have hE : some (Ctl.next (w64 (s1 + 1))) = some c1 := hM
      have hE := Option.some.inj hE
      subst hE
      exact pc R 9999 [.as 9 true, .call false [] (.o (.c (.v (.bool v3)))) [] [], .as 16 false] [.keep [1, 2, 3, 7] [0]] (And.intro h2 (And.intro (spec_l3Runs_ok a0 a1 s1 v3 h4) (And.intro h5 True.intro))) (by kernel_rfl) (li (Sf := spec_l3Next_L1_S a0 a1 a2) (M := Mk (spec_l3Next_L1 a0 a1 a2) (spec_l3Next_L1_k) r) (k := [.blk 0, .code (cAt Try.f109 [1, 1])]) (Nat.lt_succ_self m1) hK1)
  · have hE : some (Ctl.brk ()) = some c1 := hM
    have hE := Option.some.inj hE
    subst hE
    exact pc R 5 [.as 9 false] [.keep [] []] (And.intro h2 True.intro) (by kernel_rfl) (K1 () hK1)

-- loop.example/g03014/spec.l4Round
def spec_l4Round_L1_b (a0 : Network) (a1 : (List ByteArray)) (a2 : (List Int)) (a3 : Int) (s3 : (List Int)) (s4 : Int) : Option (Ctl ((List Int) × Int) (List Int) (List Int)) :=
  bif (decide (s4 < (a0.Legs.length : Int))) then
  (gi a0.Legs s4).bind fun v7 =>
  (spec_l4Index a1 v7.From).bind fun v9 =>
  (gi a0.Legs s4).bind fun v11 =>
  (spec_l4Index a1 v11.To).bind fun v13 =>
  (gi a2 v9).bind fun v15 =>
  bif (decide (v15 < 0)) then
  some (.next (s3, w64 (s4 + 1)))
  else
  (gi a2 v9).bind fun v18 =>
  (spec_l4Ready a0 v18 (v9 == a3)).bind fun v20 =>
  (spec_l3Next a0 s4 v20).bind fun v22 =>
  bif (decide (v22 < 0)) then
  some (.next (s3, w64 (s4 + 1)))
  else
  (spec_l3Ends a0 (Trip.mk s4 v22)).bind fun v25 =>
  (gi s3 v13).bind fun v27 =>
  bif (decide (v27 < 0)) then
  (gi s3 v13).bind fun v30 =>
  some (.next (List.set s3 (Int.toNat v13) v25, w64 (s4 + 1)))
  else
  (gi s3 v13).bind fun v32 =>
  bif (decide (v25 < v32)) then
  (gi s3 v13).bind fun v35 =>
  some (.next (List.set s3 (Int.toNat v13) v25, w64 (s4 + 1)))
  else
  some (.next (s3, w64 (s4 + 1)))
  else
  some (.brk s3)
def spec_l4Round_L1 (a0 : Network) (a1 : (List ByteArray)) (a2 : (List Int)) (a3 : Int) (s : (List Int) × Int) : Option (Ctl ((List Int) × Int) (List Int) (List Int)) := spec_l4Round_L1_b a0 a1 a2 a3 s.1 s.2
def spec_l4Round_L1_s (a0 : Network) (a1 : (List ByteArray)) (a2 : (List Int)) (a3 : Int) (s3 : (List Int)) (s4 : Int) : St := ⟨[(1, .o (.c (.rs 1 (a1.map encS)))), (2, .o (.c (.rs 1 (a2.map encI)))), (3, .o (.c (.v (.int .i64 a3)))), (4, .o (.c (.ptr 0 0))), (9, .o (.c (.sl 1))), (10, .o (.c (.v (.int .i64 s4))))], [(0, .box 36 [.rs 6 (a0.Legs.map Leg.enc), .rs 1 (a0.Off.map encI), .v (.int .i64 a0.Change)]), (1, .row 3 1 (s3.map encI))]⟩
def spec_l4Round_L1_S (a0 : Network) (a1 : (List ByteArray)) (a2 : (List Int)) (a3 : Int) (s : (List Int) × Int) : St := spec_l4Round_L1_s a0 a1 a2 a3 s.1 s.2
def spec_l4Round_L1_a (s5 : (List Int)) : Option (List Int) :=
  some s5
def spec_l4Round_L1_k (x : ((List Int)) ⊕ ((List Int))) : Option (List Int) := match x with
  | .inl t => spec_l4Round_L1_a t
  | .inr y => some y
def spec_l4Round (a0 : Network) (a1 : (List ByteArray)) (a2 : (List Int)) (a3 : Int) : Option (List Int) :=
  (spec_l1Ints a2).bind fun v1 =>
  (loopM (spec_l4Round_L1 a0 a1 a2 a3) big (v1, 0)).bind (spec_l4Round_L1_k)
theorem spec_l4Round_ok (a0 : Network) (a1 : (List ByteArray)) (a2 : (List Int)) (a3 : Int) (r : (List Int)) (hM : spec_l4Round a0 a1 a2 a3 = some r) :
    Con Try.prog 119 [.agg [.rs 6 (a0.Legs.map Leg.enc), .rs 1 (a0.Off.map encI), .v (.int .i64 a0.Change)], .c (.rs 1 (a1.map encS)), .c (.rs 1 (a2.map encI)), .c (.v (.int .i64 a3))] [] (.o (.c (.sl 1000))) [] [(1000, .row 3 1 (r.map encI))] := by
  unfold spec_l4Round at hM
  refine cn (N := 82) (pids := []) Try_mixed Try.func119 (by kernel_rfl) (by kernel_rfl) (by kernel_rfl) rfl fun ρ g w R => ?_
  obtain ⟨v1, h2, hM⟩ := bind_some hM
  have K1 : ∀ (s5 : (List Int)), spec_l4Round_L1_a s5 = some r → Gr R [.code (cAt Try.f119 [1, 1, 1])] (⟨[(9, .o (.c (.sl 1)))], [(1, .row 3 1 (s5.map encI))]⟩) := by
    intro s5 hM
    unfold spec_l4Round_L1_a at hM
    have hE : some s5 = some r := hM
    have hE := Option.some.inj hE
    subst hE
    exact pr R 9999 [] [.sw 1 1000] [] [1000] True.intro (by kernel_rfl)
  refine pc R 9999 [.new 0, .call false [] (.o (.c (.sl 1))) [] [(1, .row 3 1 (v1.map encI))]] [.keep [1, 2, 3, 4, 9, 10] [0, 1]] (k' := [.code (.loop (cAt Try.f119 [1, 1, 0, 1, 0, 0])), .blk 0, .code (cAt Try.f119 [1, 1, 1])]) (S' := spec_l4Round_L1_S a0 a1 a2 a3 (v1, 0)) (And.intro (And.intro (con_sw 1000 1 (spec_l1Ints_ok a2 v1 h2)) (rfl : ([] : List Nat) = [])) True.intro) (by kernel_rfl) ?_
  refine lq (spec_l4Round_L1_S a0 a1 a2 a3) (body := spec_l4Round_L1 a0 a1 a2 a3) (k := spec_l4Round_L1_k) hM fun m1 s c1 hM hK1 => ?_
  obtain ⟨s3, s4⟩ := s
  have hM : spec_l4Round_L1_b a0 a1 a2 a3 s3 s4 = some c1 := hM
  unfold spec_l4Round_L1_b at hM
  rcases cond_cases hM with ⟨h6, hM⟩ | ⟨h6, hM⟩
  · obtain ⟨v7, h8, hM⟩ := bind_some hM
    obtain ⟨v9, h10, hM⟩ := bind_some hM
    obtain ⟨v11, h12, hM⟩ := bind_some hM
    obtain ⟨v13, h14, hM⟩ := bind_some hM
    obtain ⟨v15, h16, hM⟩ := bind_some hM
    rcases cond_cases hM with ⟨h17, hM⟩ | ⟨h17, hM⟩
    · have hE : some (Ctl.next (s3, w64 (s4 + 1))) = some c1 := hM
      have hE := Option.some.inj hE
      subst hE
      exact pc R 9999 [.ln (a0.Legs.length), .as 21 true, .ix (Leg.enc v7), .call false [] (.o (.c (.v (.int .i64 v9)))) [] [], .ix (Leg.enc v11), .call false [] (.o (.c (.v (.int .i64 v13)))) [] [], .ix (encI v15), .as 44 true] [.keep [1, 2, 3, 4, 9, 10] [0, 1]] (And.intro (lenm Leg.enc a0.Legs) (And.intro h6 (And.intro (gi_map Leg.enc h8) (And.intro (spec_l4Index_ok a1 v7.From v9 h10) (And.intro (gi_map Leg.enc h12) (And.intro (spec_l4Index_ok a1 v11.To v13 h14) (And.intro (gi_map encI h16) (And.intro h17 True.intro)))))))) (by kernel_rfl) (li (Sf := spec_l4Round_L1_S a0 a1 a2 a3) (M := Mk (spec_l4Round_L1 a0 a1 a2 a3) (spec_l4Round_L1_k) r) (k := [.blk 0, .code (cAt Try.f119 [1, 1, 1])]) (Nat.lt_succ_self m1) hK1)
    · obtain ⟨v18, h19, hM⟩ := bind_some hM
      obtain ⟨v20, h21, hM⟩ := bind_some hM
      obtain ⟨v22, h23, hM⟩ := bind_some hM
      rcases cond_cases hM with ⟨h24, hM⟩ | ⟨h24, hM⟩
      · have hE : some (Ctl.next (s3, w64 (s4 + 1))) = some c1 := hM
        have hE := Option.some.inj hE
        subst hE
        exact pc R 9999 [.ln (a0.Legs.length), .as 21 true, .ix (Leg.enc v7), .call false [] (.o (.c (.v (.int .i64 v9)))) [] [], .ix (Leg.enc v11), .call false [] (.o (.c (.v (.int .i64 v13)))) [] [], .ix (encI v15), .as 44 false, .ix (encI v18), .call false [] (.o (.c (.v (.int .i64 v20)))) [] [], .call false [] (.o (.c (.v (.int .i64 v22)))) [] [], .as 58 true] [.keep [1, 2, 3, 4, 9, 10] [0, 1]] (And.intro (lenm Leg.enc a0.Legs) (And.intro h6 (And.intro (gi_map Leg.enc h8) (And.intro (spec_l4Index_ok a1 v7.From v9 h10) (And.intro (gi_map Leg.enc h12) (And.intro (spec_l4Index_ok a1 v11.To v13 h14) (And.intro (gi_map encI h16) (And.intro h17 (And.intro (gi_map encI h19) (And.intro (spec_l4Ready_ok a0 v18 (v9 == a3) v20 h21) (And.intro (spec_l3Next_ok a0 s4 v20 v22 h23) (And.intro h24 True.intro)))))))))))) (by kernel_rfl) (li (Sf := spec_l4Round_L1_S a0 a1 a2 a3) (M := Mk (spec_l4Round_L1 a0 a1 a2 a3) (spec_l4Round_L1_k) r) (k := [.blk 0, .code (cAt Try.f119 [1, 1, 1])]) (Nat.lt_succ_self m1) hK1)
      · obtain ⟨v25, h26, hM⟩ := bind_some hM
        obtain ⟨v27, h28, hM⟩ := bind_some hM
        rcases cond_cases hM with ⟨h29, hM⟩ | ⟨h29, hM⟩
        · obtain ⟨v30, h31, hM⟩ := bind_some hM
          have hE : some (Ctl.next (List.set s3 (Int.toNat v13) v25, w64 (s4 + 1))) = some c1 := hM
          have hE := Option.some.inj hE
          subst hE
          exact pc R 9999 [.ln (a0.Legs.length), .as 21 true, .ix (Leg.enc v7), .call false [] (.o (.c (.v (.int .i64 v9)))) [] [], .ix (Leg.enc v11), .call false [] (.o (.c (.v (.int .i64 v13)))) [] [], .ix (encI v15), .as 44 false, .ix (encI v18), .call false [] (.o (.c (.v (.int .i64 v20)))) [] [], .call false [] (.o (.c (.v (.int .i64 v22)))) [] [], .as 58 false, .call false [] (.o (.c (.v (.int .i64 v25)))) [] [], .ix (encI v27), .as 69 true, .ix (encI v30), .nm ((List.set s3 (Int.toNat v13) v25).map encI)] [.keep [1, 2, 3, 4, 9, 10] [0, 1]] (And.intro (lenm Leg.enc a0.Legs) (And.intro h6 (And.intro (gi_map Leg.enc h8) (And.intro (spec_l4Index_ok a1 v7.From v9 h10) (And.intro (gi_map Leg.enc h12) (And.intro (spec_l4Index_ok a1 v11.To v13 h14) (And.intro (gi_map encI h16) (And.intro h17 (And.intro (gi_map encI h19) (And.intro (spec_l4Ready_ok a0 v18 (v9 == a3) v20 h21) (And.intro (spec_l3Next_ok a0 s4 v20 v22 h23) (And.intro h24 (And.intro (spec_l3Ends_ok a0 (Trip.mk s4 v22) v25 h26) (And.intro (gi_lt encI h28) (And.intro ((gi_map encI h28).2) (And.intro h29 (And.intro (gi_lt encI h31) (And.intro (And.intro (gi_map encI h31).2 (set_map encI s3 (Int.toNat v13) v25)) True.intro)))))))))))))))))) (by kernel_rfl) (li (Sf := spec_l4Round_L1_S a0 a1 a2 a3) (M := Mk (spec_l4Round_L1 a0 a1 a2 a3) (spec_l4Round_L1_k) r) (k := [.blk 0, .code (cAt Try.f119 [1, 1, 1])]) (Nat.lt_succ_self m1) hK1)
        · obtain ⟨v32, h33, hM⟩ := bind_some hM
          rcases cond_cases hM with ⟨h34, hM⟩ | ⟨h34, hM⟩
          · obtain ⟨v35, h36, hM⟩ := bind_some hM
            have hE : some (Ctl.next (List.set s3 (Int.toNat v13) v25, w64 (s4 + 1))) = some c1 := hM
            have hE := Option.some.inj hE
            subst hE
            exact pc R 9999 [.ln (a0.Legs.length), .as 21 true, .ix (Leg.enc v7), .call false [] (.o (.c (.v (.int .i64 v9)))) [] [], .ix (Leg.enc v11), .call false [] (.o (.c (.v (.int .i64 v13)))) [] [], .ix (encI v15), .as 44 false, .ix (encI v18), .call false [] (.o (.c (.v (.int .i64 v20)))) [] [], .call false [] (.o (.c (.v (.int .i64 v22)))) [] [], .as 58 false, .call false [] (.o (.c (.v (.int .i64 v25)))) [] [], .ix (encI v27), .as 69 false, .ix (encI v32), .as 76 true, .ix (encI v35), .nm ((List.set s3 (Int.toNat v13) v25).map encI)] [.keep [1, 2, 3, 4, 9, 10] [0, 1]] (And.intro (lenm Leg.enc a0.Legs) (And.intro h6 (And.intro (gi_map Leg.enc h8) (And.intro (spec_l4Index_ok a1 v7.From v9 h10) (And.intro (gi_map Leg.enc h12) (And.intro (spec_l4Index_ok a1 v11.To v13 h14) (And.intro (gi_map encI h16) (And.intro h17 (And.intro (gi_map encI h19) (And.intro (spec_l4Ready_ok a0 v18 (v9 == a3) v20 h21) (And.intro (spec_l3Next_ok a0 s4 v20 v22 h23) (And.intro h24 (And.intro (spec_l3Ends_ok a0 (Trip.mk s4 v22) v25 h26) (And.intro (gi_lt encI h28) (And.intro ((gi_map encI h28).2) (And.intro h29 (And.intro (gi_lt encI h33) (And.intro ((gi_map encI h33).2) (And.intro h34 (And.intro (gi_lt encI h36) (And.intro (And.intro (gi_map encI h36).2 (set_map encI s3 (Int.toNat v13) v25)) True.intro))))))))))))))))))))) (by kernel_rfl) (li (Sf := spec_l4Round_L1_S a0 a1 a2 a3) (M := Mk (spec_l4Round_L1 a0 a1 a2 a3) (spec_l4Round_L1_k) r) (k := [.blk 0, .code (cAt Try.f119 [1, 1, 1])]) (Nat.lt_succ_self m1) hK1)
          · have hE : some (Ctl.next (s3, w64 (s4 + 1))) = some c1 := hM
            have hE := Option.some.inj hE
            subst hE
            exact pc R 9999 [.ln (a0.Legs.length), .as 21 true, .ix (Leg.enc v7), .call false [] (.o (.c (.v (.int .i64 v9)))) [] [], .ix (Leg.enc v11), .call false [] (.o (.c (.v (.int .i64 v13)))) [] [], .ix (encI v15), .as 44 false, .ix (encI v18), .call false [] (.o (.c (.v (.int .i64 v20)))) [] [], .call false [] (.o (.c (.v (.int .i64 v22)))) [] [], .as 58 false, .call false [] (.o (.c (.v (.int .i64 v25)))) [] [], .ix (encI v27), .as 69 false, .ix (encI v32), .as 76 false] [.keep [1, 2, 3, 4, 9, 10] [0, 1]] (And.intro (lenm Leg.enc a0.Legs) (And.intro h6 (And.intro (gi_map Leg.enc h8) (And.intro (spec_l4Index_ok a1 v7.From v9 h10) (And.intro (gi_map Leg.enc h12) (And.intro (spec_l4Index_ok a1 v11.To v13 h14) (And.intro (gi_map encI h16) (And.intro h17 (And.intro (gi_map encI h19) (And.intro (spec_l4Ready_ok a0 v18 (v9 == a3) v20 h21) (And.intro (spec_l3Next_ok a0 s4 v20 v22 h23) (And.intro h24 (And.intro (spec_l3Ends_ok a0 (Trip.mk s4 v22) v25 h26) (And.intro (gi_lt encI h28) (And.intro ((gi_map encI h28).2) (And.intro h29 (And.intro (gi_lt encI h33) (And.intro ((gi_map encI h33).2) (And.intro h34 True.intro))))))))))))))))))) (by kernel_rfl) (li (Sf := spec_l4Round_L1_S a0 a1 a2 a3) (M := Mk (spec_l4Round_L1 a0 a1 a2 a3) (spec_l4Round_L1_k) r) (k := [.blk 0, .code (cAt Try.f119 [1, 1, 1])]) (Nat.lt_succ_self m1) hK1)
  · have hE : some (Ctl.brk s3) = some c1 := hM
    have hE := Option.some.inj hE
    subst hE
    exact pc R 5 [.ln (a0.Legs.length), .as 21 false] [.keep [9] [1]] (And.intro (lenm Leg.enc a0.Legs) (And.intro h6 True.intro)) (by kernel_rfl) (K1 s3 hK1)

-- loop.example/g03014/spec.BestArrivals
def spec_BestArrivals_L1_b (a0 : Network) (a3 : Int) (v1 : (List ByteArray)) (v3 : Int) (s13 : (List Int)) (s14 : Int) : Option (Ctl ((List Int) × Int) (List Int) (List Int)) :=
  bif (decide (s14 < a3)) then
  bif (decide (s14 < (v1.length : Int))) then
  (spec_l4Round a0 v1 s13 v3).bind fun v18 =>
  some (.next (v18, w64 (s14 + 1)))
  else
  some (.brk s13)
  else
  some (.brk s13)
def spec_BestArrivals_L1 (a0 : Network) (a3 : Int) (v1 : (List ByteArray)) (v3 : Int) (s : (List Int) × Int) : Option (Ctl ((List Int) × Int) (List Int) (List Int)) := spec_BestArrivals_L1_b a0 a3 v1 v3 s.1 s.2
def spec_BestArrivals_L1_s (a0 : Network) (a3 : Int) (v1 : (List ByteArray)) (v3 : Int) (s13 : (List Int)) (s14 : Int) : St := ⟨[(3, .o (.c (.v (.int .i64 a3)))), (4, .o (.c (.ptr 0 0))), (9, .o (.c (.sl 1))), (10, .o (.c (.v (.int .i64 v3)))), (11, .o (.c (.sl 6))), (12, .o (.c (.v (.int .i64 s14))))], [(0, .box 36 [.rs 6 (a0.Legs.map Leg.enc), .rs 1 (a0.Off.map encI), .v (.int .i64 a0.Change)]), (1, .row 9 1 (v1.map encS)), (6, .row 3 1 (s13.map encI))]⟩
def spec_BestArrivals_L1_S (a0 : Network) (a3 : Int) (v1 : (List ByteArray)) (v3 : Int) (s : (List Int) × Int) : St := spec_BestArrivals_L1_s a0 a3 v1 v3 s.1 s.2
def spec_BestArrivals_L1_a (s15 : (List Int)) : Option (List Int) :=
  some s15
def spec_BestArrivals_L1_k (x : ((List Int)) ⊕ ((List Int))) : Option (List Int) := match x with
  | .inl t => spec_BestArrivals_L1_a t
  | .inr y => some y
def spec_BestArrivals (a0 : Network) (a1 : ByteArray) (a2 : Int) (a3 : Int) : Option (List Int) :=
  (spec_PlacesOf a0).bind fun v1 =>
  (spec_l4Index v1 a1).bind fun v3 =>
  (spec_IsNetwork a0).bind fun v5 =>
  bif (!v5) then
  some ([] : List Int)
  else
  bif (decide (v3 < 0)) then
  some ([] : List Int)
  else
  bif (decide (a2 > 100000)) then
  some ([] : List Int)
  else
  bif (decide (a3 < 0)) then
  some ([] : List Int)
  else
  (spec_l4First v1 v3 a2).bind fun v11 =>
  (loopM (spec_BestArrivals_L1 a0 a3 v1 v3) big (v11, 0)).bind (spec_BestArrivals_L1_k)
theorem spec_BestArrivals_ok (a0 : Network) (a1 : ByteArray) (a2 : Int) (a3 : Int) (r : (List Int)) (hM : spec_BestArrivals a0 a1 a2 a3 = some r) :
    Con Try.prog 107 [.agg [.rs 6 (a0.Legs.map Leg.enc), .rs 1 (a0.Off.map encI), .v (.int .i64 a0.Change)], .c (.v (.string a1)), .c (.v (.int .i64 a2)), .c (.v (.int .i64 a3))] [] (.o (.c (.sl 1000))) [] [(1000, .row 3 1 (r.map encI))] := by
  unfold spec_BestArrivals at hM
  refine cn (N := 55) (pids := []) Try_mixed Try.func107 (by kernel_rfl) (by kernel_rfl) (by kernel_rfl) rfl fun ρ g w R => ?_
  obtain ⟨v1, h2, hM⟩ := bind_some hM
  obtain ⟨v3, h4, hM⟩ := bind_some hM
  obtain ⟨v5, h6, hM⟩ := bind_some hM
  rcases cond_cases hM with ⟨h7, hM⟩ | ⟨h7, hM⟩
  · have hE : some ([] : List Int) = some r := hM
    have hE := Option.some.inj hE
    subst hE
    exact pr R 9999 [.new 0, .call false [] (.o (.c (.sl 1))) [] [(1, .row 9 1 (v1.map encS))], .call false [] (.o (.c (.v (.int .i64 v3)))) [] [], .call false [] (.o (.c (.v (.bool v5)))) [] [], .as 21 true, .new 2] [.sw 2 1000] [] [1000] (And.intro (And.intro (con_sw 1000 1 (spec_PlacesOf_ok a0 v1 h2)) (rfl : ([] : List Nat) = [])) (And.intro (spec_l4Index_ok v1 a1 v3 h4) (And.intro (spec_IsNetwork_ok a0 v5 h6) (And.intro h7 True.intro)))) (by kernel_rfl)
  · rcases cond_cases hM with ⟨h8, hM⟩ | ⟨h8, hM⟩
    · have hE : some ([] : List Int) = some r := hM
      have hE := Option.some.inj hE
      subst hE
      exact pr R 9999 [.new 0, .call false [] (.o (.c (.sl 1))) [] [(1, .row 9 1 (v1.map encS))], .call false [] (.o (.c (.v (.int .i64 v3)))) [] [], .call false [] (.o (.c (.v (.bool v5)))) [] [], .as 21 false, .as 25 true, .new 3] [.sw 3 1000] [] [1000] (And.intro (And.intro (con_sw 1000 1 (spec_PlacesOf_ok a0 v1 h2)) (rfl : ([] : List Nat) = [])) (And.intro (spec_l4Index_ok v1 a1 v3 h4) (And.intro (spec_IsNetwork_ok a0 v5 h6) (And.intro h7 (And.intro h8 True.intro))))) (by kernel_rfl)
    · rcases cond_cases hM with ⟨h9, hM⟩ | ⟨h9, hM⟩
      · have hE : some ([] : List Int) = some r := hM
        have hE := Option.some.inj hE
        subst hE
        exact pr R 9999 [.new 0, .call false [] (.o (.c (.sl 1))) [] [(1, .row 9 1 (v1.map encS))], .call false [] (.o (.c (.v (.int .i64 v3)))) [] [], .call false [] (.o (.c (.v (.bool v5)))) [] [], .as 21 false, .as 25 false, .as 29 true, .new 4] [.sw 4 1000] [] [1000] (And.intro (And.intro (con_sw 1000 1 (spec_PlacesOf_ok a0 v1 h2)) (rfl : ([] : List Nat) = [])) (And.intro (spec_l4Index_ok v1 a1 v3 h4) (And.intro (spec_IsNetwork_ok a0 v5 h6) (And.intro h7 (And.intro h8 (And.intro h9 True.intro)))))) (by kernel_rfl)
      · rcases cond_cases hM with ⟨h10, hM⟩ | ⟨h10, hM⟩
        · have hE : some ([] : List Int) = some r := hM
          have hE := Option.some.inj hE
          subst hE
          exact pr R 9999 [.new 0, .call false [] (.o (.c (.sl 1))) [] [(1, .row 9 1 (v1.map encS))], .call false [] (.o (.c (.v (.int .i64 v3)))) [] [], .call false [] (.o (.c (.v (.bool v5)))) [] [], .as 21 false, .as 25 false, .as 29 false, .as 32 true, .new 5] [.sw 5 1000] [] [1000] (And.intro (And.intro (con_sw 1000 1 (spec_PlacesOf_ok a0 v1 h2)) (rfl : ([] : List Nat) = [])) (And.intro (spec_l4Index_ok v1 a1 v3 h4) (And.intro (spec_IsNetwork_ok a0 v5 h6) (And.intro h7 (And.intro h8 (And.intro h9 (And.intro h10 True.intro))))))) (by kernel_rfl)
        · obtain ⟨v11, h12, hM⟩ := bind_some hM
          have K1 : ∀ (s15 : (List Int)), spec_BestArrivals_L1_a s15 = some r → Gr R [.code (cAt Try.f107 [1, 1, 1, 1, 1, 1])] (⟨[(11, .o (.c (.sl 6)))], [(6, .row 3 1 (s15.map encI))]⟩) := by
            intro s15 hM
            unfold spec_BestArrivals_L1_a at hM
            have hE : some s15 = some r := hM
            have hE := Option.some.inj hE
            subst hE
            exact pr R 9999 [] [.sw 6 1000] [] [1000] True.intro (by kernel_rfl)
          refine pc R 9999 [.new 0, .call false [] (.o (.c (.sl 1))) [] [(1, .row 9 1 (v1.map encS))], .call false [] (.o (.c (.v (.int .i64 v3)))) [] [], .call false [] (.o (.c (.v (.bool v5)))) [] [], .as 21 false, .as 25 false, .as 29 false, .as 32 false, .call false [] (.o (.c (.sl 6))) [] [(6, .row 3 1 (v11.map encI))]] [.keep [3, 4, 9, 10, 11, 12] [0, 1, 6]] (k' := [.code (.loop (cAt Try.f107 [1, 1, 1, 1, 1, 0, 1, 0, 0])), .blk 0, .code (cAt Try.f107 [1, 1, 1, 1, 1, 1])]) (S' := spec_BestArrivals_L1_S a0 a3 v1 v3 (v11, 0)) (And.intro (And.intro (con_sw 1000 1 (spec_PlacesOf_ok a0 v1 h2)) (rfl : ([] : List Nat) = [])) (And.intro (spec_l4Index_ok v1 a1 v3 h4) (And.intro (spec_IsNetwork_ok a0 v5 h6) (And.intro h7 (And.intro h8 (And.intro h9 (And.intro h10 (And.intro (And.intro (con_sw 1000 6 (spec_l4First_ok v1 v3 a2 v11 h12)) (rfl : ([] : List Nat) = [])) True.intro)))))))) (by kernel_rfl) ?_
          refine lq (spec_BestArrivals_L1_S a0 a3 v1 v3) (body := spec_BestArrivals_L1 a0 a3 v1 v3) (k := spec_BestArrivals_L1_k) hM fun m1 s c1 hM hK1 => ?_
          obtain ⟨s13, s14⟩ := s
          have hM : spec_BestArrivals_L1_b a0 a3 v1 v3 s13 s14 = some c1 := hM
          unfold spec_BestArrivals_L1_b at hM
          rcases cond_cases hM with ⟨h16, hM⟩ | ⟨h16, hM⟩
          · rcases cond_cases hM with ⟨h17, hM⟩ | ⟨h17, hM⟩
            · obtain ⟨v18, h19, hM⟩ := bind_some hM
              have hE : some (Ctl.next (v18, w64 (s14 + 1))) = some c1 := hM
              have hE := Option.some.inj hE
              subst hE
              exact pc R 9999 [.as 41 true, .ln (v1.length), .as 46 true, .call false [] (.o (.c (.sl 7))) [] [(7, .row 3 1 (v18.map encI))]] [.sw 7 6, .keep [3, 4, 9, 10, 11, 12] [0, 1, 6]] (And.intro h16 (And.intro (lenm encS v1) (And.intro h17 (And.intro (And.intro (con_sw 1000 7 (spec_l4Round_ok a0 v1 s13 v3 v18 h19)) (rfl : ([] : List Nat) = [])) True.intro)))) (by kernel_rfl) (li (Sf := spec_BestArrivals_L1_S a0 a3 v1 v3) (M := Mk (spec_BestArrivals_L1 a0 a3 v1 v3) (spec_BestArrivals_L1_k) r) (k := [.blk 0, .code (cAt Try.f107 [1, 1, 1, 1, 1, 1])]) (Nat.lt_succ_self m1) hK1)
            · have hE : some (Ctl.brk s13) = some c1 := hM
              have hE := Option.some.inj hE
              subst hE
              exact pc R 5 [.as 41 true, .ln (v1.length), .as 46 false] [.keep [11] [6]] (And.intro h16 (And.intro (lenm encS v1) (And.intro h17 True.intro))) (by kernel_rfl) (K1 s13 hK1)
          · have hE : some (Ctl.brk s13) = some c1 := hM
            have hE := Option.some.inj hE
            subst hE
            exact pc R 5 [.as 41 false] [.keep [11] [6]] (And.intro h16 True.intro) (by kernel_rfl) (K1 s13 hK1)

-- loop.example/g03014/spec.EarliestAt
def spec_EarliestAt (a0 : Network) (a1 : ByteArray) (a2 : ByteArray) (a3 : Int) : Option Int :=
  (spec_PlacesOf a0).bind fun v1 =>
  (spec_l4Index v1 a2).bind fun v3 =>
  (spec_BestArrivals a0 a1 a3 (v1.length : Int)).bind fun v5 =>
  bif (decide (v3 < 0)) then
  some (-1)
  else
  bif ((v5.length : Int) == 0) then
  some (-1)
  else
  (gi v5 v3).bind fun v9 =>
  some v9
theorem spec_EarliestAt_ok (a0 : Network) (a1 : ByteArray) (a2 : ByteArray) (a3 : Int) (r : Int) (hM : spec_EarliestAt a0 a1 a2 a3 = some r) :
    Con Try.prog 106 [.agg [.rs 6 (a0.Legs.map Leg.enc), .rs 1 (a0.Off.map encI), .v (.int .i64 a0.Change)], .c (.v (.string a1)), .c (.v (.string a2)), .c (.v (.int .i64 a3))] [] (.o (.c (.v (.int .i64 r)))) [] [] := by
  unfold spec_EarliestAt at hM
  refine cn (N := 34) (pids := []) Try_mixed Try.func106 (by kernel_rfl) (by kernel_rfl) (by kernel_rfl) rfl fun ρ g w R => ?_
  obtain ⟨v1, h2, hM⟩ := bind_some hM
  obtain ⟨v3, h4, hM⟩ := bind_some hM
  obtain ⟨v5, h6, hM⟩ := bind_some hM
  rcases cond_cases hM with ⟨h7, hM⟩ | ⟨h7, hM⟩
  · have hE : some (-1) = some r := hM
    have hE := Option.some.inj hE
    subst hE
    exact pr R 9999 [.new 0, .call false [] (.o (.c (.sl 1))) [] [(1, .row 9 1 (v1.map encS))], .call false [] (.o (.c (.v (.int .i64 v3)))) [] [], .ln (v1.length), .call false [] (.o (.c (.sl 2))) [] [(2, .row 3 1 (v5.map encI))], .as 25 true] [] [] [] (And.intro (And.intro (con_sw 1000 1 (spec_PlacesOf_ok a0 v1 h2)) (rfl : ([] : List Nat) = [])) (And.intro (spec_l4Index_ok v1 a2 v3 h4) (And.intro (lenm encS v1) (And.intro (And.intro (con_sw 1000 2 (spec_BestArrivals_ok a0 a1 a3 (v1.length : Int) v5 h6)) (rfl : ([] : List Nat) = [])) (And.intro h7 True.intro))))) (by kernel_rfl)
  · rcases cond_cases hM with ⟨h8, hM⟩ | ⟨h8, hM⟩
    · have hE : some (-1) = some r := hM
      have hE := Option.some.inj hE
      subst hE
      exact pr R 9999 [.new 0, .call false [] (.o (.c (.sl 1))) [] [(1, .row 9 1 (v1.map encS))], .call false [] (.o (.c (.v (.int .i64 v3)))) [] [], .ln (v1.length), .call false [] (.o (.c (.sl 2))) [] [(2, .row 3 1 (v5.map encI))], .as 25 false, .ln (v5.length), .as 29 true] [] [] [] (And.intro (And.intro (con_sw 1000 1 (spec_PlacesOf_ok a0 v1 h2)) (rfl : ([] : List Nat) = [])) (And.intro (spec_l4Index_ok v1 a2 v3 h4) (And.intro (lenm encS v1) (And.intro (And.intro (con_sw 1000 2 (spec_BestArrivals_ok a0 a1 a3 (v1.length : Int) v5 h6)) (rfl : ([] : List Nat) = [])) (And.intro h7 (And.intro (lenm encI v5) (And.intro h8 True.intro))))))) (by kernel_rfl)
    · obtain ⟨v9, h10, hM⟩ := bind_some hM
      have hE : some v9 = some r := hM
      have hE := Option.some.inj hE
      subst hE
      exact pr R 9999 [.new 0, .call false [] (.o (.c (.sl 1))) [] [(1, .row 9 1 (v1.map encS))], .call false [] (.o (.c (.v (.int .i64 v3)))) [] [], .ln (v1.length), .call false [] (.o (.c (.sl 2))) [] [(2, .row 3 1 (v5.map encI))], .as 25 false, .ln (v5.length), .as 29 false, .ix (encI v9)] [] [] [] (And.intro (And.intro (con_sw 1000 1 (spec_PlacesOf_ok a0 v1 h2)) (rfl : ([] : List Nat) = [])) (And.intro (spec_l4Index_ok v1 a2 v3 h4) (And.intro (lenm encS v1) (And.intro (And.intro (con_sw 1000 2 (spec_BestArrivals_ok a0 a1 a3 (v1.length : Int) v5 h6)) (rfl : ([] : List Nat) = [])) (And.intro h7 (And.intro (lenm encI v5) (And.intro h8 (And.intro (gi_lt encI h10) (And.intro ((gi_map encI h10).2) True.intro))))))))) (by kernel_rfl)

-- loop.example/g03014/spec.l4Step
def spec_l4Step_x4 (a0 : Network) (a1 : (List ByteArray)) (a2 : (List Int)) (a3 : Int) (a4 : Int) (a5 : Int) (s1 : Int) (v19 : Int) : St := ⟨[(1, .o (.c (.rs 1 (a1.map encS)))), (2, .o (.c (.rs 1 (a2.map encI)))), (3, .o (.c (.v (.int .i64 a3)))), (4, .o (.c (.v (.int .i64 a4)))), (5, .o (.c (.v (.int .i64 a5)))), (6, .o (.c (.ptr 0 0))), (12, .o (.c (.ptr 1 0))), (13, .o (.c (.v (.int .i64 s1)))), (15, .o (.c (.ptr 2 0)))], [(0, .box 36 [.rs 6 (a0.Legs.map Leg.enc), .rs 1 (a0.Off.map encI), .v (.int .i64 a0.Change)]), (1, .box 55 [.v (.int .i64 0), .v (.int .i64 0)]), (2, .box 55 [.v (.int .i64 ((Trip.mk s1 v19).Leg)), .v (.int .i64 ((Trip.mk s1 v19).Day))])]⟩
def spec_l4Step_s4 (a0 : Network) (a1 : (List ByteArray)) (a2 : (List Int)) (a3 : Int) (a4 : Int) (a5 : Int) (s1 : Int) (v5 : Int) : St := ⟨[(1, .o (.c (.rs 1 (a1.map encS)))), (2, .o (.c (.rs 1 (a2.map encI)))), (3, .o (.c (.v (.int .i64 a3)))), (4, .o (.c (.v (.int .i64 a4)))), (5, .o (.c (.v (.int .i64 a5)))), (6, .o (.c (.ptr 0 0))), (12, .o (.c (.ptr 1 0))), (13, .o (.c (.v (.int .i64 s1)))), (14, .o (.c (.v (.int .i64 v5))))], [(0, .box 36 [.rs 6 (a0.Legs.map Leg.enc), .rs 1 (a0.Off.map encI), .v (.int .i64 a0.Change)]), (1, .box 55 [.v (.int .i64 0), .v (.int .i64 0)])]⟩
def spec_l4Step_o4 (v15 : Int) (v17 : Int) (v19 : Int) : List (List Orc) := [[], [], [], [], [], [], [.ix (encI v15)], [], [], [], [], [.call false [] (.o (.c (.v (.int .i64 v17)))) [] []], [.call false [] (.o (.c (.v (.int .i64 v19)))) [] []], [], [.new 2], []]
theorem spec_l4Step_y4 (a0 : Network) (a1 : (List ByteArray)) (a2 : (List Int)) (a3 : Int) (a4 : Int) (a5 : Int) (s1 : Int) (v5 : Int) (v15 : Int) (v17 : Int) (v19 : Int) (L : List Nat) : subX Try.prog [] 75 (opsOf (cAt Try.f108 [1, 0, 1, 0, 0, 1, 0, 0, 1, 1, 0])) (spec_l4Step_o4 v15 v17 v19) L (spec_l4Step_s4 a0 a1 a2 a3 a4 a5 s1 v5) = subX Try.prog [] 75 (opsOf (cAt Try.f108 [1, 0, 1, 0, 0, 1, 0, 0, 1, 1, 0])) (spec_l4Step_o4 v15 v17 v19) L (spec_l4Step_s4 a0 a1 a2 a3 a4 a5 s1 v5) := rfl
def spec_l4Step_j1 (a0 : Network) (a5 : Int) (s1 : Int) (v19 : Int) : Option (Ctl Int Unit Trip) :=
  bif (decide (((Trip.mk s1 v19).Day) ≥ 0)) then
  (spec_l3Ends a0 (Trip.mk ((Trip.mk s1 v19).Leg) ((Trip.mk s1 v19).Day))).bind fun v22 =>
  bif (v22 == a5) then
  some (.ret (Trip.mk ((Trip.mk ((Trip.mk s1 v19).Leg) ((Trip.mk s1 v19).Day)).Leg) ((Trip.mk ((Trip.mk s1 v19).Leg) ((Trip.mk s1 v19).Day)).Day)))
  else
  some (.next (w64 (s1 + 1)))
  else
  some (.next (w64 (s1 + 1)))
def spec_l4Step_L1_b (a0 : Network) (a1 : (List ByteArray)) (a2 : (List Int)) (a3 : Int) (a4 : Int) (a5 : Int) (s1 : Int) : Option (Ctl Int Unit Trip) :=
  bif (decide (s1 < (a0.Legs.length : Int))) then
  (gi a0.Legs s1).bind fun v3 =>
  (spec_l4Index a1 v3.From).bind fun v5 =>
  (gi a0.Legs s1).bind fun v7 =>
  (gi a1 a4).bind fun v9 =>
  bif (!(v7.To.toList == v9.toList)) then
  some (.next (w64 (s1 + 1)))
  else
  (gi a2 v5).bind fun v12 =>
  bif (decide (v12 < 0)) then
  some (.next (w64 (s1 + 1)))
  else
  (gi a2 v5).bind fun v15 =>
  (spec_l4Ready a0 v15 (v5 == a3)).bind fun v17 =>
  (spec_l3Next a0 s1 v17).bind fun v19 =>
  spec_l4Step_j1 a0 a5 s1 v19
  else
  some (.brk ())
def spec_l4Step_L1 (a0 : Network) (a1 : (List ByteArray)) (a2 : (List Int)) (a3 : Int) (a4 : Int) (a5 : Int) (s : Int) : Option (Ctl Int Unit Trip) := spec_l4Step_L1_b a0 a1 a2 a3 a4 a5 s
def spec_l4Step_L1_s (a0 : Network) (a1 : (List ByteArray)) (a2 : (List Int)) (a3 : Int) (a4 : Int) (a5 : Int) (s1 : Int) : St := ⟨[(1, .o (.c (.rs 1 (a1.map encS)))), (2, .o (.c (.rs 1 (a2.map encI)))), (3, .o (.c (.v (.int .i64 a3)))), (4, .o (.c (.v (.int .i64 a4)))), (5, .o (.c (.v (.int .i64 a5)))), (6, .o (.c (.ptr 0 0))), (12, .o (.c (.ptr 1 0))), (13, .o (.c (.v (.int .i64 s1))))], [(0, .box 36 [.rs 6 (a0.Legs.map Leg.enc), .rs 1 (a0.Off.map encI), .v (.int .i64 a0.Change)]), (1, .box 55 [.v (.int .i64 0), .v (.int .i64 0)])]⟩
def spec_l4Step_L1_S (a0 : Network) (a1 : (List ByteArray)) (a2 : (List Int)) (a3 : Int) (a4 : Int) (a5 : Int) (s : Int) : St := spec_l4Step_L1_s a0 a1 a2 a3 a4 a5 s
def spec_l4Step_L1_a : Option Trip :=
  some (Trip.mk ((Trip.mk 0 0).Leg) ((Trip.mk 0 0).Day))
def spec_l4Step_L1_k (x : (Unit) ⊕ (Trip)) : Option Trip := match x with
  | .inl t => spec_l4Step_L1_a
  | .inr y => some y
def spec_l4Step (a0 : Network) (a1 : (List ByteArray)) (a2 : (List Int)) (a3 : Int) (a4 : Int) (a5 : Int) : Option Trip :=
  (loopM (spec_l4Step_L1 a0 a1 a2 a3 a4 a5) big 0).bind (spec_l4Step_L1_k)
theorem spec_l4Step_ok (a0 : Network) (a1 : (List ByteArray)) (a2 : (List Int)) (a3 : Int) (a4 : Int) (a5 : Int) (r : Trip) (hM : spec_l4Step a0 a1 a2 a3 a4 a5 = some r) :
    Con Try.prog 108 [.agg [.rs 6 (a0.Legs.map Leg.enc), .rs 1 (a0.Off.map encI), .v (.int .i64 a0.Change)], .c (.rs 1 (a1.map encS)), .c (.rs 1 (a2.map encI)), .c (.v (.int .i64 a3)), .c (.v (.int .i64 a4)), .c (.v (.int .i64 a5))] [] (.o (.c (.v (.agg (Trip.enc r).toArray)))) [] [] := by
  unfold spec_l4Step at hM
  refine cn (N := 75) (pids := []) Try_mixed Try.func108 (by kernel_rfl) (by kernel_rfl) (by kernel_rfl) rfl fun ρ g w R => ?_
  have K1 : ∀ (_ : Unit), spec_l4Step_L1_a = some r → Gr R [.code (cAt Try.f108 [1, 1])] (⟨[(12, .o (.c (.ptr 1 0)))], [(1, .box 55 [.v (.int .i64 0), .v (.int .i64 0)])]⟩) := by
    intro _ hM
    unfold spec_l4Step_L1_a at hM
    have hE : some (Trip.mk ((Trip.mk 0 0).Leg) ((Trip.mk 0 0).Day)) = some r := hM
    have hE := Option.some.inj hE
    subst hE
    exact pr R 9999 [] [] [] [] True.intro (by kernel_rfl)
  refine pc R 9999 [.new 0, .new 1] [.keep [1, 2, 3, 4, 5, 6, 12, 13] [0, 1]] (k' := [.code (.loop (cAt Try.f108 [1, 0, 1, 0, 0])), .blk 0, .code (cAt Try.f108 [1, 1])]) (S' := spec_l4Step_L1_S a0 a1 a2 a3 a4 a5 0) True.intro (by kernel_rfl) ?_
  refine lq (spec_l4Step_L1_S a0 a1 a2 a3 a4 a5) (body := spec_l4Step_L1 a0 a1 a2 a3 a4 a5) (k := spec_l4Step_L1_k) hM fun m1 s c1 hM hK1 => ?_
  obtain ⟨s1, hs⟩ : ∃ z, z = s := ⟨_, rfl⟩
  subst hs
  have hM : spec_l4Step_L1_b a0 a1 a2 a3 a4 a5 s1 = some c1 := hM
  unfold spec_l4Step_L1_b at hM
  rcases cond_cases hM with ⟨h2, hM⟩ | ⟨h2, hM⟩
  · obtain ⟨v3, h4, hM⟩ := bind_some hM
    obtain ⟨v5, h6, hM⟩ := bind_some hM
    obtain ⟨v7, h8, hM⟩ := bind_some hM
    obtain ⟨v9, h10, hM⟩ := bind_some hM
    rcases cond_cases hM with ⟨h11, hM⟩ | ⟨h11, hM⟩
    · have hE : some (Ctl.next (w64 (s1 + 1))) = some c1 := hM
      have hE := Option.some.inj hE
      subst hE
      exact pc R 9999 [.ln (a0.Legs.length), .as 20 true, .ix (Leg.enc v3), .call false [] (.o (.c (.v (.int .i64 v5)))) [] [], .ix (Leg.enc v7), .ix (encS v9), .as 42 true] [.keep [1, 2, 3, 4, 5, 6, 12, 13] [0, 1]] (And.intro (lenm Leg.enc a0.Legs) (And.intro h2 (And.intro (gi_map Leg.enc h4) (And.intro (spec_l4Index_ok a1 v3.From v5 h6) (And.intro (gi_map Leg.enc h8) (And.intro (gi_map encS h10) (And.intro h11 True.intro))))))) (by kernel_rfl) (li (Sf := spec_l4Step_L1_S a0 a1 a2 a3 a4 a5) (M := Mk (spec_l4Step_L1 a0 a1 a2 a3 a4 a5) (spec_l4Step_L1_k) r) (k := [.blk 0, .code (cAt Try.f108 [1, 1])]) (Nat.lt_succ_self m1) hK1)
    · obtain ⟨v12, h13, hM⟩ := bind_some hM
      rcases cond_cases hM with ⟨h14, hM⟩ | ⟨h14, hM⟩
      · have hE : some (Ctl.next (w64 (s1 + 1))) = some c1 := hM
        have hE := Option.some.inj hE
        subst hE
        exact pc R 9999 [.ln (a0.Legs.length), .as 20 true, .ix (Leg.enc v3), .call false [] (.o (.c (.v (.int .i64 v5)))) [] [], .ix (Leg.enc v7), .ix (encS v9), .as 42 false, .ix (encI v12), .as 48 true] [.keep [1, 2, 3, 4, 5, 6, 12, 13] [0, 1]] (And.intro (lenm Leg.enc a0.Legs) (And.intro h2 (And.intro (gi_map Leg.enc h4) (And.intro (spec_l4Index_ok a1 v3.From v5 h6) (And.intro (gi_map Leg.enc h8) (And.intro (gi_map encS h10) (And.intro h11 (And.intro (gi_map encI h13) (And.intro h14 True.intro))))))))) (by kernel_rfl) (li (Sf := spec_l4Step_L1_S a0 a1 a2 a3 a4 a5) (M := Mk (spec_l4Step_L1 a0 a1 a2 a3 a4 a5) (spec_l4Step_L1_k) r) (k := [.blk 0, .code (cAt Try.f108 [1, 1])]) (Nat.lt_succ_self m1) hK1)
      · obtain ⟨v15, h16, hM⟩ := bind_some hM
        obtain ⟨v17, h18, hM⟩ := bind_some hM
        obtain ⟨v19, h20, hM⟩ := bind_some hM
        have J1 : ∀ (_ : Unit), spec_l4Step_j1 a0 a5 s1 v19 = some c1 → Gr R [.code (cAt Try.f108 [1, 0, 1, 0, 0, 1, 0, 0, 1, 1, 1]), .blk 1, .code (cAt Try.f108 [1, 0, 1, 0, 0, 1, 1]), .inv (Jr R (spec_l4Step_L1_S a0 a1 a2 a3 a4 a5) (Mk (spec_l4Step_L1 a0 a1 a2 a3 a4 a5) (spec_l4Step_L1_k) r) (m1 + 1)), .blk 0, .code (cAt Try.f108 [1, 1])] (spec_l4Step_x4 a0 a1 a2 a3 a4 a5 s1 v19) := by
          intro _ hM
          unfold spec_l4Step_j1 at hM
          rcases cond_cases hM with ⟨h21, hM⟩ | ⟨h21, hM⟩
          · obtain ⟨v22, h23, hM⟩ := bind_some hM
            rcases cond_cases hM with ⟨h24, hM⟩ | ⟨h24, hM⟩
            · have hE : some (Ctl.ret (Trip.mk ((Trip.mk ((Trip.mk s1 v19).Leg) ((Trip.mk s1 v19).Day)).Leg) ((Trip.mk ((Trip.mk s1 v19).Leg) ((Trip.mk s1 v19).Day)).Day))) = some c1 := hM
              have hE := Option.some.inj hE
              subst hE
              have hE : some (Trip.mk ((Trip.mk ((Trip.mk s1 v19).Leg) ((Trip.mk s1 v19).Day)).Leg) ((Trip.mk ((Trip.mk s1 v19).Leg) ((Trip.mk s1 v19).Day)).Day)) = some r := hK1
              have hE := Option.some.inj hE
              subst hE
              exact pr R 9999 [.as 66 true, .call false [] (.o (.c (.v (.int .i64 v22)))) [] [], .as 72 true] [] [] [] (And.intro h21 (And.intro (spec_l3Ends_ok a0 (Trip.mk ((Trip.mk s1 v19).Leg) ((Trip.mk s1 v19).Day)) v22 h23) (And.intro h24 True.intro))) (by kernel_rfl)
            · have hE : some (Ctl.next (w64 (s1 + 1))) = some c1 := hM
              have hE := Option.some.inj hE
              subst hE
              exact pc R 9999 [.as 66 true, .call false [] (.o (.c (.v (.int .i64 v22)))) [] [], .as 72 false] [.keep [1, 2, 3, 4, 5, 6, 12, 13] [0, 1]] (And.intro h21 (And.intro (spec_l3Ends_ok a0 (Trip.mk ((Trip.mk s1 v19).Leg) ((Trip.mk s1 v19).Day)) v22 h23) (And.intro h24 True.intro))) (by kernel_rfl) (li (Sf := spec_l4Step_L1_S a0 a1 a2 a3 a4 a5) (M := Mk (spec_l4Step_L1 a0 a1 a2 a3 a4 a5) (spec_l4Step_L1_k) r) (k := [.blk 0, .code (cAt Try.f108 [1, 1])]) (Nat.lt_succ_self m1) hK1)
          · have hE : some (Ctl.next (w64 (s1 + 1))) = some c1 := hM
            have hE := Option.some.inj hE
            subst hE
            exact pc R 9999 [.as 66 false] [.keep [1, 2, 3, 4, 5, 6, 12, 13] [0, 1]] (And.intro h21 True.intro) (by kernel_rfl) (li (Sf := spec_l4Step_L1_S a0 a1 a2 a3 a4 a5) (M := Mk (spec_l4Step_L1 a0 a1 a2 a3 a4 a5) (spec_l4Step_L1_k) r) (k := [.blk 0, .code (cAt Try.f108 [1, 1])]) (Nat.lt_succ_self m1) hK1)
        exact pc R 16 [.ln (a0.Legs.length), .as 20 true, .ix (Leg.enc v3), .call false [] (.o (.c (.v (.int .i64 v5)))) [] [], .ix (Leg.enc v7), .ix (encS v9), .as 42 false, .ix (encI v12), .as 48 false, .xg (spec_l4Step_o4 v15 v17 v19) [.keep [1, 2, 3, 4, 5, 6, 12, 13, 14] [0, 1]] [.keep [1, 2, 3, 4, 5, 6, 12, 13, 15] [0, 1, 2]] (spec_l4Step_x4 a0 a1 a2 a3 a4 a5 s1 v19) [[0, 2, 4, 5, 6, 8, 9, 10], [0, 1, 2, 4, 5, 6, 8, 9, 10], [0, 2, 3, 4, 5, 6, 8, 9, 10], [0, 2, 4, 5, 6, 7, 8, 9, 10], [0, 2, 4, 5, 6, 8, 9, 10, 14], [0, 1, 2, 3, 4, 5, 6, 8, 9, 10], [0, 1, 2, 4, 5, 6, 7, 8, 9, 10], [0, 1, 2, 4, 5, 6, 8, 9, 10, 14], [0, 2, 3, 4, 5, 6, 7, 8, 9, 10], [0, 2, 3, 4, 5, 6, 8, 9, 10, 14], [0, 2, 4, 5, 6, 7, 8, 9, 10, 14], [0, 1, 2, 3, 4, 5, 6, 7, 8, 9, 10], [0, 1, 2, 3, 4, 5, 6, 8, 9, 10, 14], [0, 1, 2, 4, 5, 6, 7, 8, 9, 10, 14], [0, 2, 3, 4, 5, 6, 7, 8, 9, 10, 11], [0, 2, 3, 4, 5, 6, 7, 8, 9, 10, 14], [0, 1, 2, 3, 4, 5, 6, 7, 8, 9, 10, 11], [0, 1, 2, 3, 4, 5, 6, 7, 8, 9, 10, 14], [0, 2, 3, 4, 5, 6, 7, 8, 9, 10, 11, 14], [0, 1, 2, 3, 4, 5, 6, 7, 8, 9, 10, 11, 12], [0, 1, 2, 3, 4, 5, 6, 7, 8, 9, 10, 11, 14], [0, 1, 2, 3, 4, 5, 6, 7, 8, 9, 10, 11, 12, 13], [0, 1, 2, 3, 4, 5, 6, 7, 8, 9, 10, 11, 12, 14], [0, 1, 2, 3, 4, 5, 6, 7, 8, 9, 10, 11, 12, 13, 14]]] [] (And.intro (lenm Leg.enc a0.Legs) (And.intro h2 (And.intro (gi_map Leg.enc h4) (And.intro (spec_l4Index_ok a1 v3.From v5 h6) (And.intro (gi_map Leg.enc h8) (And.intro (gi_map encS h10) (And.intro h11 (And.intro (gi_map encI h13) (And.intro h14 (And.intro (gi_map encI h16) (And.intro (spec_l4Step_y4 a0 a1 a2 a3 a4 a5 s1 v5 v15 v17 v19 [0, 2, 4, 5, 6, 8, 9, 10]) (And.intro (spec_l4Step_y4 a0 a1 a2 a3 a4 a5 s1 v5 v15 v17 v19 [0, 1, 2, 4, 5, 6, 8, 9, 10]) (And.intro (spec_l4Step_y4 a0 a1 a2 a3 a4 a5 s1 v5 v15 v17 v19 [0, 2, 3, 4, 5, 6, 8, 9, 10]) (And.intro (spec_l4Step_y4 a0 a1 a2 a3 a4 a5 s1 v5 v15 v17 v19 [0, 2, 4, 5, 6, 7, 8, 9, 10]) (And.intro (spec_l4Step_y4 a0 a1 a2 a3 a4 a5 s1 v5 v15 v17 v19 [0, 2, 4, 5, 6, 8, 9, 10, 14]) (And.intro (spec_l4Step_y4 a0 a1 a2 a3 a4 a5 s1 v5 v15 v17 v19 [0, 1, 2, 3, 4, 5, 6, 8, 9, 10]) (And.intro (spec_l4Step_y4 a0 a1 a2 a3 a4 a5 s1 v5 v15 v17 v19 [0, 1, 2, 4, 5, 6, 7, 8, 9, 10]) (And.intro (spec_l4Step_y4 a0 a1 a2 a3 a4 a5 s1 v5 v15 v17 v19 [0, 1, 2, 4, 5, 6, 8, 9, 10, 14]) (And.intro (spec_l4Step_y4 a0 a1 a2 a3 a4 a5 s1 v5 v15 v17 v19 [0, 1, 2, 3, 4, 5, 6, 8, 9, 10]) (And.intro (spec_l4Step_y4 a0 a1 a2 a3 a4 a5 s1 v5 v15 v17 v19 [0, 2, 3, 4, 5, 6, 7, 8, 9, 10]) (And.intro (spec_l4Step_y4 a0 a1 a2 a3 a4 a5 s1 v5 v15 v17 v19 [0, 2, 3, 4, 5, 6, 8, 9, 10, 14]) (And.intro (spec_l4Step_y4 a0 a1 a2 a3 a4 a5 s1 v5 v15 v17 v19 [0, 1, 2, 4, 5, 6, 7, 8, 9, 10]) (And.intro (spec_l4Step_y4 a0 a1 a2 a3 a4 a5 s1 v5 v15 v17 v19 [0, 2, 3, 4, 5, 6, 7, 8, 9, 10]) (And.intro (spec_l4Step_y4 a0 a1 a2 a3 a4 a5 s1 v5 v15 v17 v19 [0, 2, 4, 5, 6, 7, 8, 9, 10, 14]) (And.intro (spec_l4Step_y4 a0 a1 a2 a3 a4 a5 s1 v5 v15 v17 v19 [0, 1, 2, 4, 5, 6, 8, 9, 10, 14]) (And.intro (spec_l4Step_y4 a0 a1 a2 a3 a4 a5 s1 v5 v15 v17 v19 [0, 2, 3, 4, 5, 6, 8, 9, 10, 14]) (And.intro (spec_l4Step_y4 a0 a1 a2 a3 a4 a5 s1 v5 v15 v17 v19 [0, 2, 4, 5, 6, 7, 8, 9, 10, 14]) (And.intro (spec_l4Step_y4 a0 a1 a2 a3 a4 a5 s1 v5 v15 v17 v19 [0, 1, 2, 3, 4, 5, 6, 7, 8, 9, 10]) (And.intro (spec_l4Step_y4 a0 a1 a2 a3 a4 a5 s1 v5 v15 v17 v19 [0, 1, 2, 3, 4, 5, 6, 8, 9, 10, 14]) (And.intro (spec_l4Step_y4 a0 a1 a2 a3 a4 a5 s1 v5 v15 v17 v19 [0, 1, 2, 3, 4, 5, 6, 7, 8, 9, 10]) (And.intro (spec_l4Step_y4 a0 a1 a2 a3 a4 a5 s1 v5 v15 v17 v19 [0, 1, 2, 4, 5, 6, 7, 8, 9, 10, 14]) (And.intro (spec_l4Step_y4 a0 a1 a2 a3 a4 a5 s1 v5 v15 v17 v19 [0, 1, 2, 3, 4, 5, 6, 8, 9, 10, 14]) (And.intro (spec_l4Step_y4 a0 a1 a2 a3 a4 a5 s1 v5 v15 v17 v19 [0, 1, 2, 4, 5, 6, 7, 8, 9, 10, 14]) (And.intro (spec_l4Step_y4 a0 a1 a2 a3 a4 a5 s1 v5 v15 v17 v19 [0, 1, 2, 3, 4, 5, 6, 7, 8, 9, 10]) (And.intro (spec_l4Ready_ok a0 v15 (v5 == a3) v17 h18) (And.intro (spec_l4Step_y4 a0 a1 a2 a3 a4 a5 s1 v5 v15 v17 v19 [0, 2, 3, 4, 5, 6, 7, 8, 9, 10, 11]) (And.intro (spec_l4Step_y4 a0 a1 a2 a3 a4 a5 s1 v5 v15 v17 v19 [0, 2, 3, 4, 5, 6, 7, 8, 9, 10, 14]) (And.intro (spec_l4Step_y4 a0 a1 a2 a3 a4 a5 s1 v5 v15 v17 v19 [0, 1, 2, 3, 4, 5, 6, 8, 9, 10, 14]) (And.intro (spec_l4Step_y4 a0 a1 a2 a3 a4 a5 s1 v5 v15 v17 v19 [0, 2, 3, 4, 5, 6, 7, 8, 9, 10, 14]) (And.intro (spec_l4Step_y4 a0 a1 a2 a3 a4 a5 s1 v5 v15 v17 v19 [0, 1, 2, 4, 5, 6, 7, 8, 9, 10, 14]) (And.intro (spec_l4Step_y4 a0 a1 a2 a3 a4 a5 s1 v5 v15 v17 v19 [0, 2, 3, 4, 5, 6, 7, 8, 9, 10, 14]) (And.intro (spec_l4Ready_ok a0 v15 (v5 == a3) v17 h18) (And.intro (spec_l4Step_y4 a0 a1 a2 a3 a4 a5 s1 v5 v15 v17 v19 [0, 1, 2, 3, 4, 5, 6, 7, 8, 9, 10, 11]) (And.intro (spec_l4Step_y4 a0 a1 a2 a3 a4 a5 s1 v5 v15 v17 v19 [0, 1, 2, 3, 4, 5, 6, 7, 8, 9, 10, 14]) (And.intro (spec_l4Step_y4 a0 a1 a2 a3 a4 a5 s1 v5 v15 v17 v19 [0, 1, 2, 3, 4, 5, 6, 7, 8, 9, 10, 14]) (And.intro (spec_l4Step_y4 a0 a1 a2 a3 a4 a5 s1 v5 v15 v17 v19 [0, 1, 2, 3, 4, 5, 6, 7, 8, 9, 10, 14]) (And.intro (spec_l4Step_y4 a0 a1 a2 a3 a4 a5 s1 v5 v15 v17 v19 [0, 1, 2, 3, 4, 5, 6, 7, 8, 9, 10, 11]) (And.intro (spec_l4Step_y4 a0 a1 a2 a3 a4 a5 s1 v5 v15 v17 v19 [0, 2, 3, 4, 5, 6, 7, 8, 9, 10, 11, 14]) (And.intro (spec_l4Step_y4 a0 a1 a2 a3 a4 a5 s1 v5 v15 v17 v19 [0, 1, 2, 3, 4, 5, 6, 7, 8, 9, 10, 14]) (And.intro (spec_l4Ready_ok a0 v15 (v5 == a3) v17 h18) (And.intro (spec_l4Step_y4 a0 a1 a2 a3 a4 a5 s1 v5 v15 v17 v19 [0, 2, 3, 4, 5, 6, 7, 8, 9, 10, 11, 14]) (And.intro (spec_l3Next_ok a0 s1 v17 v19 h20) (And.intro (spec_l4Step_y4 a0 a1 a2 a3 a4 a5 s1 v5 v15 v17 v19 [0, 1, 2, 3, 4, 5, 6, 7, 8, 9, 10, 11, 12]) (And.intro (spec_l4Step_y4 a0 a1 a2 a3 a4 a5 s1 v5 v15 v17 v19 [0, 1, 2, 3, 4, 5, 6, 7, 8, 9, 10, 11, 14]) (And.intro (spec_l4Ready_ok a0 v15 (v5 == a3) v17 h18) (And.intro (spec_l4Step_y4 a0 a1 a2 a3 a4 a5 s1 v5 v15 v17 v19 [0, 1, 2, 3, 4, 5, 6, 7, 8, 9, 10, 11, 14]) (And.intro (spec_l4Step_y4 a0 a1 a2 a3 a4 a5 s1 v5 v15 v17 v19 [0, 1, 2, 3, 4, 5, 6, 7, 8, 9, 10, 11, 14]) (And.intro (spec_l4Step_y4 a0 a1 a2 a3 a4 a5 s1 v5 v15 v17 v19 [0, 1, 2, 3, 4, 5, 6, 7, 8, 9, 10, 11, 12, 13]) (And.intro (spec_l4Step_y4 a0 a1 a2 a3 a4 a5 s1 v5 v15 v17 v19 [0, 1, 2, 3, 4, 5, 6, 7, 8, 9, 10, 11, 12, 14]) (And.intro (spec_l3Next_ok a0 s1 v17 v19 h20) (And.intro (spec_l4Step_y4 a0 a1 a2 a3 a4 a5 s1 v5 v15 v17 v19 [0, 1, 2, 3, 4, 5, 6, 7, 8, 9, 10, 11, 12, 14]) (And.intro (spec_l4Step_y4 a0 a1 a2 a3 a4 a5 s1 v5 v15 v17 v19 [0, 1, 2, 3, 4, 5, 6, 7, 8, 9, 10, 11, 12, 13, 14]) (And.intro (spec_l4Step_y4 a0 a1 a2 a3 a4 a5 s1 v5 v15 v17 v19 [0, 1, 2, 3, 4, 5, 6, 7, 8, 9, 10, 11, 12, 13, 14]) (And.intro (rfl : (spec_l4Step_x4 a0 a1 a2 a3 a4 a5 s1 v19) = (spec_l4Step_x4 a0 a1 a2 a3 a4 a5 s1 v19)) True.intro)))))))))))))))))))))))))))))))))))))))))))))))))))))))))))))))) (by kernel_rfl) (J1 () hM)
  · have hE : some (Ctl.brk ()) = some c1 := hM
    have hE := Option.some.inj hE
    subst hE
    exact pc R 5 [.ln (a0.Legs.length), .as 20 false] [.keep [12] [1]] (And.intro (lenm Leg.enc a0.Legs) (And.intro h2 True.intro)) (by kernel_rfl) (K1 () hK1)

-- loop.example/g03014/spec.FindWay
def spec_FindWay_L2_b (a0 : Network) (a1 : ByteArray) (a3 : Int) (v4 : (List ByteArray)) (v6 : Int) (s12 : Int) (s13 : Int) (s14 : (List Trip)) (s15 : Int) : Option (Ctl (Int × Int × (List Trip) × Int) (List Trip) ((List Trip) × Bool)) :=
  bif (decide (s15 > 0)) then
  (spec_BestArrivals a0 a1 a3 (w64 (s15 - 1))).bind fun v18 =>
  (spec_l4Step a0 v4 v18 v6 s13 s12).bind fun v20 =>
  (ap 16 ([v20] : List Trip) s14).bind fun v22 =>
  (gi a0.Legs v20.Leg).bind fun v24 =>
  (spec_l4Index v4 v24.From).bind fun v26 =>
  (gi v18 v26).bind fun v28 =>
  some (.next (v28, v26, v22, w64 (s15 - 1)))
  else
  some (.brk s14)
def spec_FindWay_L2 (a0 : Network) (a1 : ByteArray) (a3 : Int) (v4 : (List ByteArray)) (v6 : Int) (s : Int × Int × (List Trip) × Int) : Option (Ctl (Int × Int × (List Trip) × Int) (List Trip) ((List Trip) × Bool)) := spec_FindWay_L2_b a0 a1 a3 v4 v6 s.1 s.2.1 s.2.2.1 s.2.2.2
def spec_FindWay_L2_s (a0 : Network) (a1 : ByteArray) (a3 : Int) (v4 : (List ByteArray)) (v6 : Int) (s12 : Int) (s13 : Int) (s14 : (List Trip)) (s15 : Int) : St := ⟨[(1, .o (.c (.v (.string a1)))), (3, .o (.c (.v (.int .i64 a3)))), (4, .o (.c (.ptr 0 0))), (10, .o (.c (.v (.int .i64 s12)))), (11, .o (.c (.sl 2))), (12, .o (.c (.v (.int .i64 v6)))), (13, .o (.c (.v (.int .i64 s13)))), (15, .o (.c (.sl 3))), (16, .o (.c (.v (.int .i64 s15))))], [(0, .box 36 [.rs 6 (a0.Legs.map Leg.enc), .rs 1 (a0.Off.map encI), .v (.int .i64 a0.Change)]), (2, .row 9 1 (v4.map encS)), (3, .row 55 2 (s14.map Trip.enc))]⟩
def spec_FindWay_L2_S (a0 : Network) (a1 : ByteArray) (a3 : Int) (v4 : (List ByteArray)) (v6 : Int) (s : Int × Int × (List Trip) × Int) : St := spec_FindWay_L2_s a0 a1 a3 v4 v6 s.1 s.2.1 s.2.2.1 s.2.2.2
def spec_FindWay_L2_a (s16 : (List Trip)) : Option ((List Trip) × Bool) :=
  some (s16, true)
def spec_FindWay_L2_k (x : ((List Trip)) ⊕ ((List Trip) × Bool)) : Option ((List Trip) × Bool) := match x with
  | .inl t => spec_FindWay_L2_a t
  | .inr y => some y
def spec_FindWay_L1_b (a0 : Network) (a1 : ByteArray) (a3 : Int) (v1 : Int) (v8 : Int) (s10 : Int) : Option (Ctl Int Int ((List Trip) × Bool)) :=
  (spec_BestArrivals a0 a1 a3 s10).bind fun v30 =>
  (gi v30 v8).bind fun v32 =>
  bif (v32 != v1) then
  some (.next (w64 (s10 + 1)))
  else
  some (.brk s10)
def spec_FindWay_L1 (a0 : Network) (a1 : ByteArray) (a3 : Int) (v1 : Int) (v8 : Int) (s : Int) : Option (Ctl Int Int ((List Trip) × Bool)) := spec_FindWay_L1_b a0 a1 a3 v1 v8 s
def spec_FindWay_L1_s (a0 : Network) (a1 : ByteArray) (a3 : Int) (v1 : Int) (v4 : (List ByteArray)) (v6 : Int) (v8 : Int) (s10 : Int) : St := ⟨[(1, .o (.c (.v (.string a1)))), (3, .o (.c (.v (.int .i64 a3)))), (4, .o (.c (.ptr 0 0))), (10, .o (.c (.v (.int .i64 v1)))), (11, .o (.c (.sl 2))), (12, .o (.c (.v (.int .i64 v6)))), (13, .o (.c (.v (.int .i64 v8)))), (14, .o (.c (.v (.int .i64 s10))))], [(0, .box 36 [.rs 6 (a0.Legs.map Leg.enc), .rs 1 (a0.Off.map encI), .v (.int .i64 a0.Change)]), (2, .row 9 1 (v4.map encS))]⟩
def spec_FindWay_L1_S (a0 : Network) (a1 : ByteArray) (a3 : Int) (v1 : Int) (v4 : (List ByteArray)) (v6 : Int) (v8 : Int) (s : Int) : St := spec_FindWay_L1_s a0 a1 a3 v1 v4 v6 v8 s
def spec_FindWay_L1_a (a0 : Network) (a1 : ByteArray) (a3 : Int) (v1 : Int) (v4 : (List ByteArray)) (v6 : Int) (v8 : Int) (s11 : Int) : Option ((List Trip) × Bool) :=
  (loopM (spec_FindWay_L2 a0 a1 a3 v4 v6) big (v1, v8, ([] : List Trip), s11)).bind (spec_FindWay_L2_k)
def spec_FindWay_L1_k (a0 : Network) (a1 : ByteArray) (a3 : Int) (v1 : Int) (v4 : (List ByteArray)) (v6 : Int) (v8 : Int) (x : (Int) ⊕ ((List Trip) × Bool)) : Option ((List Trip) × Bool) := match x with
  | .inl t => spec_FindWay_L1_a a0 a1 a3 v1 v4 v6 v8 t
  | .inr y => some y
def spec_FindWay (a0 : Network) (a1 : ByteArray) (a2 : ByteArray) (a3 : Int) : Option ((List Trip) × Bool) :=
  (spec_EarliestAt a0 a1 a2 a3).bind fun v1 =>
  bif (decide (v1 < 0)) then
  some (([] : List Trip), false)
  else
  (spec_PlacesOf a0).bind fun v4 =>
  (spec_l4Index v4 a1).bind fun v6 =>
  (spec_l4Index v4 a2).bind fun v8 =>
  (loopM (spec_FindWay_L1 a0 a1 a3 v1 v8) big 0).bind (spec_FindWay_L1_k a0 a1 a3 v1 v4 v6 v8)
theorem spec_FindWay_ok (a0 : Network) (a1 : ByteArray) (a2 : ByteArray) (a3 : Int) (r : (List Trip) × Bool) (hM : spec_FindWay a0 a1 a2 a3 = some r) :
    Con Try.prog 83 [.agg [.rs 6 (a0.Legs.map Leg.enc), .rs 1 (a0.Off.map encI), .v (.int .i64 a0.Change)], .c (.v (.string a1)), .c (.v (.string a2)), .c (.v (.int .i64 a3))] [] (.tup [.c (.sl 1000), .c (.v (.bool r.2))]) [] [(1000, .row 55 2 (r.1.map Trip.enc))] := by
  unfold spec_FindWay at hM
  refine cn (N := 84) (pids := []) Try_mixed Try.func83 (by kernel_rfl) (by kernel_rfl) (by kernel_rfl) rfl fun ρ g w R => ?_
  obtain ⟨v1, h2, hM⟩ := bind_some hM
  rcases cond_cases hM with ⟨h3, hM⟩ | ⟨h3, hM⟩
  · have hE : some (([] : List Trip), false) = some r := hM
    have hE := Option.some.inj hE
    subst hE
    exact pr R 9999 [.new 0, .call false [] (.o (.c (.v (.int .i64 v1)))) [] [], .as 25 true, .new 1] [.sw 1 1000] [] [1000] (And.intro (spec_EarliestAt_ok a0 a1 a2 a3 v1 h2) (And.intro h3 True.intro)) (by kernel_rfl)
  · obtain ⟨v4, h5, hM⟩ := bind_some hM
    obtain ⟨v6, h7, hM⟩ := bind_some hM
    obtain ⟨v8, h9, hM⟩ := bind_some hM
    have K1 : ∀ (s11 : Int), spec_FindWay_L1_a a0 a1 a3 v1 v4 v6 v8 s11 = some r → Gr R [.code (cAt Try.f83 [1, 1, 1, 1, 1, 1, 1, 1])] (⟨[(1, .o (.c (.v (.string a1)))), (3, .o (.c (.v (.int .i64 a3)))), (4, .o (.c (.ptr 0 0))), (10, .o (.c (.v (.int .i64 v1)))), (11, .o (.c (.sl 2))), (12, .o (.c (.v (.int .i64 v6)))), (13, .o (.c (.v (.int .i64 v8)))), (14, .o (.c (.v (.int .i64 s11))))], [(0, .box 36 [.rs 6 (a0.Legs.map Leg.enc), .rs 1 (a0.Off.map encI), .v (.int .i64 a0.Change)]), (2, .row 9 1 (v4.map encS))]⟩) := by
      intro s11 hM
      unfold spec_FindWay_L1_a at hM
      have K2 : ∀ (s16 : (List Trip)), spec_FindWay_L2_a s16 = some r → Gr R [.code (cAt Try.f83 [1, 1, 1, 1, 1, 1, 1, 1, 1, 1])] (⟨[(15, .o (.c (.sl 3)))], [(3, .row 55 2 (s16.map Trip.enc))]⟩) := by
        intro s16 hM
        unfold spec_FindWay_L2_a at hM
        have hE : some (s16, true) = some r := hM
        have hE := Option.some.inj hE
        subst hE
        exact pr R 9999 [] [.sw 3 1000] [] [1000] True.intro (by kernel_rfl)
      refine pc R 9999 [.new 3] [.keep [1, 3, 4, 10, 11, 12, 13, 15, 16] [0, 2, 3]] (k' := [.code (.loop (cAt Try.f83 [1, 1, 1, 1, 1, 1, 1, 1, 1, 0, 1, 0, 0])), .blk 2, .code (cAt Try.f83 [1, 1, 1, 1, 1, 1, 1, 1, 1, 1])]) (S' := spec_FindWay_L2_S a0 a1 a3 v4 v6 (v1, v8, ([] : List Trip), s11)) True.intro (by kernel_rfl) ?_
      refine lq (spec_FindWay_L2_S a0 a1 a3 v4 v6) (body := spec_FindWay_L2 a0 a1 a3 v4 v6) (k := spec_FindWay_L2_k) hM fun m2 s c2 hM hK2 => ?_
      obtain ⟨s12, s13, s14, s15⟩ := s
      have hM : spec_FindWay_L2_b a0 a1 a3 v4 v6 s12 s13 s14 s15 = some c2 := hM
      unfold spec_FindWay_L2_b at hM
      rcases cond_cases hM with ⟨h17, hM⟩ | ⟨h17, hM⟩
      · obtain ⟨v18, h19, hM⟩ := bind_some hM
        obtain ⟨v20, h21, hM⟩ := bind_some hM
        obtain ⟨v22, h23, hM⟩ := bind_some hM
        obtain ⟨v24, h25, hM⟩ := bind_some hM
        obtain ⟨v26, h27, hM⟩ := bind_some hM
        obtain ⟨v28, h29, hM⟩ := bind_some hM
        have hE : some (Ctl.next (v28, v26, v22, w64 (s15 - 1))) = some c2 := hM
        have hE := Option.some.inj hE
        subst hE
        exact pc R 9999 [.as 50 true, .call false [] (.o (.c (.sl 4))) [] [(4, .row 3 1 (v18.map encI))], .call false [] (.o (.c (.v (.agg (Trip.enc v20).toArray)))) [] [], .new 5, .new 6, .new 7, .nm (v22.map Trip.enc), .ix (Leg.enc v24), .call false [] (.o (.c (.v (.int .i64 v26)))) [] [], .ix (encI v28)] [.sw 7 3, .keep [1, 3, 4, 10, 11, 12, 13, 15, 16] [0, 2, 3]] (And.intro h17 (And.intro (And.intro (con_sw 1000 4 (spec_BestArrivals_ok a0 a1 a3 (w64 (s15 - 1)) v18 h19)) (rfl : ([] : List Nat) = [])) (And.intro (spec_l4Step_ok a0 v4 v18 v6 s13 s12 v20 h21) (And.intro (ap_ok Trip.enc h23) (And.intro (gi_map Leg.enc h25) (And.intro (spec_l4Index_ok v4 v24.From v26 h27) (And.intro (gi_lt encI h29) (And.intro ((gi_map encI h29).2) True.intro)))))))) (by kernel_rfl) (li (Sf := spec_FindWay_L2_S a0 a1 a3 v4 v6) (M := Mk (spec_FindWay_L2 a0 a1 a3 v4 v6) (spec_FindWay_L2_k) r) (k := [.blk 2, .code (cAt Try.f83 [1, 1, 1, 1, 1, 1, 1, 1, 1, 1])]) (Nat.lt_succ_self m2) hK2)
      · have hE : some (Ctl.brk s14) = some c2 := hM
        have hE := Option.some.inj hE
        subst hE
        exact pc R 5 [.as 50 false] [.keep [15] [3]] (And.intro h17 True.intro) (by kernel_rfl) (K2 s14 hK2)
    refine pc R 9999 [.new 0, .call false [] (.o (.c (.v (.int .i64 v1)))) [] [], .as 25 false, .call false [] (.o (.c (.sl 2))) [] [(2, .row 9 1 (v4.map encS))], .call false [] (.o (.c (.v (.int .i64 v6)))) [] [], .call false [] (.o (.c (.v (.int .i64 v8)))) [] []] [.keep [1, 3, 4, 10, 11, 12, 13, 14] [0, 2]] (k' := [.code (.loop (cAt Try.f83 [1, 1, 1, 1, 1, 1, 1, 0, 0, 0])), .blk 0, .code (cAt Try.f83 [1, 1, 1, 1, 1, 1, 1, 1])]) (S' := spec_FindWay_L1_S a0 a1 a3 v1 v4 v6 v8 0) (And.intro (spec_EarliestAt_ok a0 a1 a2 a3 v1 h2) (And.intro h3 (And.intro (And.intro (con_sw 1000 2 (spec_PlacesOf_ok a0 v4 h5)) (rfl : ([] : List Nat) = [])) (And.intro (spec_l4Index_ok v4 a1 v6 h7) (And.intro (spec_l4Index_ok v4 a2 v8 h9) True.intro))))) (by kernel_rfl) ?_
    refine lq (spec_FindWay_L1_S a0 a1 a3 v1 v4 v6 v8) (body := spec_FindWay_L1 a0 a1 a3 v1 v8) (k := spec_FindWay_L1_k a0 a1 a3 v1 v4 v6 v8) hM fun m1 s c1 hM hK1 => ?_
    obtain ⟨s10, hs⟩ : ∃ z, z = s := ⟨_, rfl⟩
    subst hs
    have hM : spec_FindWay_L1_b a0 a1 a3 v1 v8 s10 = some c1 := hM
    unfold spec_FindWay_L1_b at hM
    obtain ⟨v30, h31, hM⟩ := bind_some hM
    obtain ⟨v32, h33, hM⟩ := bind_some hM
    rcases cond_cases hM with ⟨h34, hM⟩ | ⟨h34, hM⟩
    · have hE : some (Ctl.next (w64 (s10 + 1))) = some c1 := hM
      have hE := Option.some.inj hE
      subst hE
      exact pc R 9999 [.call false [] (.o (.c (.sl 8))) [] [(8, .row 3 1 (v30.map encI))], .ix (encI v32), .as 44 true] [.keep [1, 3, 4, 10, 11, 12, 13, 14] [0, 2]] (And.intro (And.intro (con_sw 1000 8 (spec_BestArrivals_ok a0 a1 a3 s10 v30 h31)) (rfl : ([] : List Nat) = [])) (And.intro (gi_lt encI h33) (And.intro ((gi_map encI h33).2) (And.intro h34 True.intro)))) (by kernel_rfl) (li (Sf := spec_FindWay_L1_S a0 a1 a3 v1 v4 v6 v8) (M := Mk (spec_FindWay_L1 a0 a1 a3 v1 v8) (spec_FindWay_L1_k a0 a1 a3 v1 v4 v6 v8) r) (k := [.blk 0, .code (cAt Try.f83 [1, 1, 1, 1, 1, 1, 1, 1])]) (Nat.lt_succ_self m1) hK1)
    · have hE : some (Ctl.brk s10) = some c1 := hM
      have hE := Option.some.inj hE
      subst hE
      exact pc R 5 [.call false [] (.o (.c (.sl 8))) [] [(8, .row 3 1 (v30.map encI))], .ix (encI v32), .as 44 false] [.keep [1, 3, 4, 10, 11, 12, 13, 14] [0, 2]] (And.intro (And.intro (con_sw 1000 8 (spec_BestArrivals_ok a0 a1 a3 s10 v30 h31)) (rfl : ([] : List Nat) = [])) (And.intro (gi_lt encI h33) (And.intro ((gi_map encI h33).2) (And.intro h34 True.intro)))) (by kernel_rfl) (K1 s10 hK1)

-- loop.example/g03014/spec.l4Way
def spec_l4Way_x1 (a1 : Network) (v1 : ((List Trip) × Bool)) (v7 : (Int × l1Cur)) (v12 : Trip) (v14 : (Int × l1Cur)) (v16 : Trip) : St := ⟨[(0, .o (.c (.ptr 900 0))), (1, .o (.agg [.sl 901, .sl 921, .v (.int .i64 a1.Change)])), (11, .o (.c (.sl 1)))], [(900, .box 119 [.rs 1 (v14.2.b.map encU8), .v (.int .i64 v14.2.i), .v (.int .i64 v14.2.h)]), (901, .row 95 6 (a1.Legs.map Leg.enc)), (921, .row 3 1 (a1.Off.map encI)), (1, .row 55 2 ((List.set v1.1 (Int.toNat v7.1) (Trip.mk v16.Leg (w64 ((w64 (v12.Day + 1)) + v14.1)))).map Trip.enc))]⟩
def spec_l4Way (a0 : l1Cur) (a1 : Network) (a2 : ByteArray) (a3 : ByteArray) (a4 : Int) : Option ((List Trip) × l1Cur) :=
  (spec_FindWay a1 a2 a3 a4).bind fun v1 =>
  bif (decide ((v1.1.length : Int) > 0)) then
  (spec_l1Once a0 3).bind fun v4 =>
  bif v4.1 then
  (spec_l1Below v4.2 (v1.1.length : Int)).bind fun v7 =>
  (spec_l1Below v7.2 4).bind fun v9 =>
  bif (v9.1 == 0) then
  (gi v1.1 v7.1).bind fun v12 =>
  (spec_l1Below v9.2 3).bind fun v14 =>
  (gi v1.1 v7.1).bind fun v16 =>
  some (List.set v1.1 (Int.toNat v7.1) (Trip.mk v16.Leg (w64 ((w64 (v12.Day + 1)) + v14.1))), v14.2)
  else
  bif (v9.1 == 1) then
  (gi v1.1 v7.1).bind fun v19 =>
  (gi v1.1 v7.1).bind fun v21 =>
  some (List.set v1.1 (Int.toNat v7.1) (Trip.mk v21.Leg (w64 (v19.Day - 1))), v9.2)
  else
  bif (v9.1 == 2) then
  (spec_l1Below v9.2 (w64 ((a1.Legs.length : Int) + 1))).bind fun v24 =>
  (gi v1.1 v7.1).bind fun v26 =>
  some (List.set v1.1 (Int.toNat v7.1) (Trip.mk v24.1 v26.Day), v24.2)
  else
  (inM v1.1 v7.1).bind fun v28 =>
  (inM v1.1 (w64 (v7.1 + 1))).bind fun v30 =>
  (dlM 16 v1.1 (Int.toNat v7.1) (Int.toNat (w64 (v7.1 + 1)))).bind fun v32 =>
  some (v32, v9.2)
  else
  some (v1.1, v4.2)
  else
  some (v1.1, a0)
theorem spec_l4Way_ok (a0 : l1Cur) (a1 : Network) (a2 : ByteArray) (a3 : ByteArray) (a4 : Int) (r : (List Trip) × l1Cur) (hM : spec_l4Way a0 a1 a2 a3 a4 = some r) :
    Con Try.prog 55 [.c (.ptr 900 0), .agg [.sl 901, .sl 921, .v (.int .i64 a1.Change)], .c (.v (.string a2)), .c (.v (.string a3)), .c (.v (.int .i64 a4))] [(900, .box 119 [.rs 1 (a0.b.map encU8), .v (.int .i64 a0.i), .v (.int .i64 a0.h)]), (901, .row 95 6 (a1.Legs.map Leg.enc)), (921, .row 3 1 (a1.Off.map encI))] (.o (.c (.sl 1000))) [(900, .box 119 [.rs 1 (r.2.b.map encU8), .v (.int .i64 r.2.i), .v (.int .i64 r.2.h)]), (901, .row 95 6 (a1.Legs.map Leg.enc)), (921, .row 3 1 (a1.Off.map encI))] [(1000, .row 55 2 (r.1.map Trip.enc))] := by
  unfold spec_l4Way at hM
  refine cn (N := 83) (pids := [900, 901, 921]) Try_mixed Try.func55 (by kernel_rfl) (by kernel_rfl) (by kernel_rfl) rfl fun ρ g w R => ?_
  obtain ⟨v1, h2, hM⟩ := bind_some hM
  rcases cond_cases hM with ⟨h3, hM⟩ | ⟨h3, hM⟩
  · obtain ⟨v4, h5, hM⟩ := bind_some hM
    rcases cond_cases hM with ⟨h6, hM⟩ | ⟨h6, hM⟩
    · obtain ⟨v7, h8, hM⟩ := bind_some hM
      obtain ⟨v9, h10, hM⟩ := bind_some hM
      rcases cond_cases hM with ⟨h11, hM⟩ | ⟨h11, hM⟩
      · obtain ⟨v12, h13, hM⟩ := bind_some hM
        obtain ⟨v14, h15, hM⟩ := bind_some hM
        obtain ⟨v16, h17, hM⟩ := bind_some hM
        have hE : some (List.set v1.1 (Int.toNat v7.1) (Trip.mk v16.Leg (w64 ((w64 (v12.Day + 1)) + v14.1))), v14.2) = some r := hM
        have hE := Option.some.inj hE
        subst hE
        exact pr R 9999 [.new 0, .call false [] (.tup [.c (.sl 1), .c (.v (.bool v1.2))]) [] [(1, .row 55 2 (v1.1.map Trip.enc))], .ln (v1.1.length), .as 25 true, .call true [900] (.o (.c (.v (.bool v4.1)))) [(900, .box 119 [.rs 1 (v4.2.b.map encU8), .v (.int .i64 v4.2.i), .v (.int .i64 v4.2.h)])] [], .as 28 true, .ln (v1.1.length), .call true [900] (.o (.c (.v (.int .i64 v7.1)))) [(900, .box 119 [.rs 1 (v7.2.b.map encU8), .v (.int .i64 v7.2.i), .v (.int .i64 v7.2.h)])] [], .call true [900] (.o (.c (.v (.int .i64 v9.1)))) [(900, .box 119 [.rs 1 (v9.2.b.map encU8), .v (.int .i64 v9.2.i), .v (.int .i64 v9.2.h)])] [], .as 43 true, .xo [[], [], [], [], [], [], [.ix (Trip.enc v12)], [], [], [.call true [900] (.o (.c (.v (.int .i64 v14.1)))) [(900, .box 119 [.rs 1 (v14.2.b.map encU8), .v (.int .i64 v14.2.i), .v (.int .i64 v14.2.h)])] []], [], [], [], [.ix (Trip.enc v16), .nm ((List.set v1.1 (Int.toNat v7.1) (Trip.mk v16.Leg (w64 ((w64 (v12.Day + 1)) + v14.1)))).map Trip.enc)]] [.keep [0, 1, 11] [900, 901, 921, 1]] (spec_l4Way_x1 a1 v1 v7 v12 v14 v16)] [.sw 1 1000] [900, 901, 921] [1000] (And.intro (And.intro (con_sw 1000 1 (spec_FindWay_ok a1 a2 a3 a4 v1 h2)) (rfl : ([] : List Nat) = [])) (And.intro (lenm Trip.enc v1.1) (And.intro h3 (And.intro (And.intro (con_sw 900 900 (spec_l1Once_ok a0 3 v4 h5)) (rfl : ([900] : List Nat) = [900])) (And.intro h6 (And.intro (lenm Trip.enc v1.1) (And.intro (And.intro (con_sw 900 900 (spec_l1Below_ok v4.2 (v1.1.length : Int) v7 h8)) (rfl : ([900] : List Nat) = [900])) (And.intro (And.intro (con_sw 900 900 (spec_l1Below_ok v7.2 4 v9 h10)) (rfl : ([900] : List Nat) = [900])) (And.intro h11 (And.intro (gi_lt Trip.enc h13) (And.intro ((gi_map Trip.enc h13).2) (And.intro (And.intro (con_sw 900 900 (spec_l1Below_ok v9.2 3 v14 h15)) (rfl : ([900] : List Nat) = [900])) (And.intro (gi_lt Trip.enc h17) (And.intro (And.intro (gi_map Trip.enc h17).2 (set_map Trip.enc v1.1 (Int.toNat v7.1) (Trip.mk v16.Leg (w64 ((w64 (v12.Day + 1)) + v14.1))))) (And.intro (rfl : (spec_l4Way_x1 a1 v1 v7 v12 v14 v16) = (spec_l4Way_x1 a1 v1 v7 v12 v14 v16)) (And.intro (And.intro (con_sw 900 900 (spec_l1Below_ok v9.2 3 v14 h15)) (rfl : ([900] : List Nat) = [900])) (And.intro ((gi_map Trip.enc h13).2) (And.intro (gi_lt Trip.enc h17) (And.intro (And.intro (gi_map Trip.enc h17).2 (set_map Trip.enc v1.1 (Int.toNat v7.1) (Trip.mk v16.Leg (w64 ((w64 (v12.Day + 1)) + v14.1))))) (And.intro (rfl : (spec_l4Way_x1 a1 v1 v7 v12 v14 v16) = (spec_l4Way_x1 a1 v1 v7 v12 v14 v16)) True.intro)))))))))))))))))))) (by kernel_rfl)
      · rcases cond_cases hM with ⟨h18, hM⟩ | ⟨h18, hM⟩
        · obtain ⟨v19, h20, hM⟩ := bind_some hM
          obtain ⟨v21, h22, hM⟩ := bind_some hM
          have hE : some (List.set v1.1 (Int.toNat v7.1) (Trip.mk v21.Leg (w64 (v19.Day - 1))), v9.2) = some r := hM
          have hE := Option.some.inj hE
          subst hE
          exact pr R 9999 [.new 0, .call false [] (.tup [.c (.sl 1), .c (.v (.bool v1.2))]) [] [(1, .row 55 2 (v1.1.map Trip.enc))], .ln (v1.1.length), .as 25 true, .call true [900] (.o (.c (.v (.bool v4.1)))) [(900, .box 119 [.rs 1 (v4.2.b.map encU8), .v (.int .i64 v4.2.i), .v (.int .i64 v4.2.h)])] [], .as 28 true, .ln (v1.1.length), .call true [900] (.o (.c (.v (.int .i64 v7.1)))) [(900, .box 119 [.rs 1 (v7.2.b.map encU8), .v (.int .i64 v7.2.i), .v (.int .i64 v7.2.h)])] [], .call true [900] (.o (.c (.v (.int .i64 v9.1)))) [(900, .box 119 [.rs 1 (v9.2.b.map encU8), .v (.int .i64 v9.2.i), .v (.int .i64 v9.2.h)])] [], .as 43 false, .as 58 true, .ix (Trip.enc v19), .ix (Trip.enc v21), .nm ((List.set v1.1 (Int.toNat v7.1) (Trip.mk v21.Leg (w64 (v19.Day - 1)))).map Trip.enc)] [.sw 1 1000] [900, 901, 921] [1000] (And.intro (And.intro (con_sw 1000 1 (spec_FindWay_ok a1 a2 a3 a4 v1 h2)) (rfl : ([] : List Nat) = [])) (And.intro (lenm Trip.enc v1.1) (And.intro h3 (And.intro (And.intro (con_sw 900 900 (spec_l1Once_ok a0 3 v4 h5)) (rfl : ([900] : List Nat) = [900])) (And.intro h6 (And.intro (lenm Trip.enc v1.1) (And.intro (And.intro (con_sw 900 900 (spec_l1Below_ok v4.2 (v1.1.length : Int) v7 h8)) (rfl : ([900] : List Nat) = [900])) (And.intro (And.intro (con_sw 900 900 (spec_l1Below_ok v7.2 4 v9 h10)) (rfl : ([900] : List Nat) = [900])) (And.intro h11 (And.intro h18 (And.intro (gi_lt Trip.enc h20) (And.intro ((gi_map Trip.enc h20).2) (And.intro (gi_lt Trip.enc h22) (And.intro (And.intro (gi_map Trip.enc h22).2 (set_map Trip.enc v1.1 (Int.toNat v7.1) (Trip.mk v21.Leg (w64 (v19.Day - 1))))) True.intro)))))))))))))) (by kernel_rfl)
        · rcases cond_cases hM with ⟨h23, hM⟩ | ⟨h23, hM⟩
          · obtain ⟨v24, h25, hM⟩ := bind_some hM
            obtain ⟨v26, h27, hM⟩ := bind_some hM
            have hE : some (List.set v1.1 (Int.toNat v7.1) (Trip.mk v24.1 v26.Day), v24.2) = some r := hM
            have hE := Option.some.inj hE
            subst hE
            exact pr R 9999 [.new 0, .call false [] (.tup [.c (.sl 1), .c (.v (.bool v1.2))]) [] [(1, .row 55 2 (v1.1.map Trip.enc))], .ln (v1.1.length), .as 25 true, .call true [900] (.o (.c (.v (.bool v4.1)))) [(900, .box 119 [.rs 1 (v4.2.b.map encU8), .v (.int .i64 v4.2.i), .v (.int .i64 v4.2.h)])] [], .as 28 true, .ln (v1.1.length), .call true [900] (.o (.c (.v (.int .i64 v7.1)))) [(900, .box 119 [.rs 1 (v7.2.b.map encU8), .v (.int .i64 v7.2.i), .v (.int .i64 v7.2.h)])] [], .call true [900] (.o (.c (.v (.int .i64 v9.1)))) [(900, .box 119 [.rs 1 (v9.2.b.map encU8), .v (.int .i64 v9.2.i), .v (.int .i64 v9.2.h)])] [], .as 43 false, .as 58 false, .as 70 true, .ln (a1.Legs.length), .call true [900] (.o (.c (.v (.int .i64 v24.1)))) [(900, .box 119 [.rs 1 (v24.2.b.map encU8), .v (.int .i64 v24.2.i), .v (.int .i64 v24.2.h)])] [], .ix (Trip.enc v26), .nm ((List.set v1.1 (Int.toNat v7.1) (Trip.mk v24.1 v26.Day)).map Trip.enc)] [.sw 1 1000] [900, 901, 921] [1000] (And.intro (And.intro (con_sw 1000 1 (spec_FindWay_ok a1 a2 a3 a4 v1 h2)) (rfl : ([] : List Nat) = [])) (And.intro (lenm Trip.enc v1.1) (And.intro h3 (And.intro (And.intro (con_sw 900 900 (spec_l1Once_ok a0 3 v4 h5)) (rfl : ([900] : List Nat) = [900])) (And.intro h6 (And.intro (lenm Trip.enc v1.1) (And.intro (And.intro (con_sw 900 900 (spec_l1Below_ok v4.2 (v1.1.length : Int) v7 h8)) (rfl : ([900] : List Nat) = [900])) (And.intro (And.intro (con_sw 900 900 (spec_l1Below_ok v7.2 4 v9 h10)) (rfl : ([900] : List Nat) = [900])) (And.intro h11 (And.intro h18 (And.intro h23 (And.intro (lenm Leg.enc a1.Legs) (And.intro (And.intro (con_sw 900 900 (spec_l1Below_ok v9.2 (w64 ((a1.Legs.length : Int) + 1)) v24 h25)) (rfl : ([900] : List Nat) = [900])) (And.intro (gi_lt Trip.enc h27) (And.intro (And.intro (gi_map Trip.enc h27).2 (set_map Trip.enc v1.1 (Int.toNat v7.1) (Trip.mk v24.1 v26.Day))) True.intro))))))))))))))) (by kernel_rfl)
          · obtain ⟨v28, h29, hM⟩ := bind_some hM
            obtain ⟨v30, h31, hM⟩ := bind_some hM
            obtain ⟨v32, h33, hM⟩ := bind_some hM
            have hE : some (v32, v9.2) = some r := hM
            have hE := Option.some.inj hE
            subst hE
            exact pr R 9999 [.new 0, .call false [] (.tup [.c (.sl 1), .c (.v (.bool v1.2))]) [] [(1, .row 55 2 (v1.1.map Trip.enc))], .ln (v1.1.length), .as 25 true, .call true [900] (.o (.c (.v (.bool v4.1)))) [(900, .box 119 [.rs 1 (v4.2.b.map encU8), .v (.int .i64 v4.2.i), .v (.int .i64 v4.2.h)])] [], .as 28 true, .ln (v1.1.length), .call true [900] (.o (.c (.v (.int .i64 v7.1)))) [(900, .box 119 [.rs 1 (v7.2.b.map encU8), .v (.int .i64 v7.2.i), .v (.int .i64 v7.2.h)])] [], .call true [900] (.o (.c (.v (.int .i64 v9.1)))) [(900, .box 119 [.rs 1 (v9.2.b.map encU8), .v (.int .i64 v9.2.i), .v (.int .i64 v9.2.h)])] [], .as 43 false, .as 58 false, .as 70 false, .ln (Int.toNat v7.1), .ln (Int.toNat (w64 (v7.1 + 1))), .ln (Int.toNat v7.1), .ln (Int.toNat (w64 (v7.1 + 1))), .new 2, .nm (v32.map Trip.enc)] [.sw 2 1000] [900, 901, 921] [1000] (And.intro (And.intro (con_sw 1000 1 (spec_FindWay_ok a1 a2 a3 a4 v1 h2)) (rfl : ([] : List Nat) = [])) (And.intro (lenm Trip.enc v1.1) (And.intro h3 (And.intro (And.intro (con_sw 900 900 (spec_l1Once_ok a0 3 v4 h5)) (rfl : ([900] : List Nat) = [900])) (And.intro h6 (And.intro (lenm Trip.enc v1.1) (And.intro (And.intro (con_sw 900 900 (spec_l1Below_ok v4.2 (v1.1.length : Int) v7 h8)) (rfl : ([900] : List Nat) = [900])) (And.intro (And.intro (con_sw 900 900 (spec_l1Below_ok v7.2 4 v9 h10)) (rfl : ([900] : List Nat) = [900])) (And.intro h11 (And.intro h18 (And.intro h23 (And.intro (inM_ok Trip.enc h29) (And.intro (inM_ok Trip.enc h31) (And.intro (And.intro (rfl : preF (Int.toNat v7.1) = preF (Int.toNat v7.1)) (And.intro (rfl : sufF 2 (Int.toNat (w64 (v7.1 + 1))) = sufF 2 (Int.toNat (w64 (v7.1 + 1)))) (dlM_ok Trip.enc h33))) True.intro)))))))))))))) (by kernel_rfl)
    · have hE : some (v1.1, v4.2) = some r := hM
      have hE := Option.some.inj hE
      subst hE
      exact pr R 9999 [.new 0, .call false [] (.tup [.c (.sl 1), .c (.v (.bool v1.2))]) [] [(1, .row 55 2 (v1.1.map Trip.enc))], .ln (v1.1.length), .as 25 true, .call true [900] (.o (.c (.v (.bool v4.1)))) [(900, .box 119 [.rs 1 (v4.2.b.map encU8), .v (.int .i64 v4.2.i), .v (.int .i64 v4.2.h)])] [], .as 28 false] [.sw 1 1000] [900, 901, 921] [1000] (And.intro (And.intro (con_sw 1000 1 (spec_FindWay_ok a1 a2 a3 a4 v1 h2)) (rfl : ([] : List Nat) = [])) (And.intro (lenm Trip.enc v1.1) (And.intro h3 (And.intro (And.intro (con_sw 900 900 (spec_l1Once_ok a0 3 v4 h5)) (rfl : ([900] : List Nat) = [900])) (And.intro h6 True.intro))))) (by kernel_rfl)
  · have hE : some (v1.1, a0) = some r := hM
    have hE := Option.some.inj hE
    subst hE
    exact pr R 9999 [.new 0, .call false [] (.tup [.c (.sl 1), .c (.v (.bool v1.2))]) [] [(1, .row 55 2 (v1.1.map Trip.enc))], .ln (v1.1.length), .as 25 false] [.sw 1 1000] [900, 901, 921] [1000] (And.intro (And.intro (con_sw 1000 1 (spec_FindWay_ok a1 a2 a3 a4 v1 h2)) (rfl : ([] : List Nat) = [])) (And.intro (lenm Trip.enc v1.1) (And.intro h3 True.intro))) (by kernel_rfl)

-- loop.example/g03014/spec.l3Trip
def spec_l3Trip (a0 : l1Cur) (a1 : Network) : Option (Trip × l1Cur) :=
  (spec_l1Below a0 (a1.Legs.length : Int)).bind fun v1 =>
  (spec_l1Below v1.2 10).bind fun v3 =>
  (spec_l3Next a1 ((Trip.mk v1.1 v3.1).Leg) (w64 (((Trip.mk v1.1 v3.1).Day) * 1440))).bind fun v5 =>
  bif (decide (v5 ≥ 0)) then
  (spec_l1Once v3.2 4).bind fun v8 =>
  bif (!v8.1) then
  some ((Trip.mk ((Trip.mk ((Trip.mk v1.1 v3.1).Leg) v5).Leg) ((Trip.mk ((Trip.mk v1.1 v3.1).Leg) v5).Day)), v8.2)
  else
  some ((Trip.mk ((Trip.mk ((Trip.mk v1.1 v3.1).Leg) ((Trip.mk v1.1 v3.1).Day)).Leg) ((Trip.mk ((Trip.mk v1.1 v3.1).Leg) ((Trip.mk v1.1 v3.1).Day)).Day)), v8.2)
  else
  some ((Trip.mk ((Trip.mk ((Trip.mk v1.1 v3.1).Leg) ((Trip.mk v1.1 v3.1).Day)).Leg) ((Trip.mk ((Trip.mk v1.1 v3.1).Leg) ((Trip.mk v1.1 v3.1).Day)).Day)), v3.2)
theorem spec_l3Trip_ok (a0 : l1Cur) (a1 : Network) (r : Trip × l1Cur) (hM : spec_l3Trip a0 a1 = some r) :
    Con Try.prog 86 [.c (.ptr 900 0), .agg [.sl 901, .sl 921, .v (.int .i64 a1.Change)]] [(900, .box 119 [.rs 1 (a0.b.map encU8), .v (.int .i64 a0.i), .v (.int .i64 a0.h)]), (901, .row 95 6 (a1.Legs.map Leg.enc)), (921, .row 3 1 (a1.Off.map encI))] (.o (.c (.v (.agg (Trip.enc r.1).toArray)))) [(900, .box 119 [.rs 1 (r.2.b.map encU8), .v (.int .i64 r.2.i), .v (.int .i64 r.2.h)]), (901, .row 95 6 (a1.Legs.map Leg.enc)), (921, .row 3 1 (a1.Off.map encI))] [] := by
  unfold spec_l3Trip at hM
  refine cn (N := 32) (pids := [900, 901, 921]) Try_mixed Try.func86 (by kernel_rfl) (by kernel_rfl) (by kernel_rfl) rfl fun ρ g w R => ?_
  obtain ⟨v1, h2, hM⟩ := bind_some hM
  obtain ⟨v3, h4, hM⟩ := bind_some hM
  obtain ⟨v5, h6, hM⟩ := bind_some hM
  rcases cond_cases hM with ⟨h7, hM⟩ | ⟨h7, hM⟩
  · obtain ⟨v8, h9, hM⟩ := bind_some hM
    rcases cond_cases hM with ⟨h10, hM⟩ | ⟨h10, hM⟩
    · have hE : some ((Trip.mk ((Trip.mk ((Trip.mk v1.1 v3.1).Leg) v5).Leg) ((Trip.mk ((Trip.mk v1.1 v3.1).Leg) v5).Day)), v8.2) = some r := hM
      have hE := Option.some.inj hE
      subst hE
      exact pr R 9999 [.new 0, .new 1, .ln (a1.Legs.length), .call true [900] (.o (.c (.v (.int .i64 v1.1)))) [(900, .box 119 [.rs 1 (v1.2.b.map encU8), .v (.int .i64 v1.2.i), .v (.int .i64 v1.2.h)])] [], .call true [900] (.o (.c (.v (.int .i64 v3.1)))) [(900, .box 119 [.rs 1 (v3.2.b.map encU8), .v (.int .i64 v3.2.i), .v (.int .i64 v3.2.h)])] [], .new 2, .call false [] (.o (.c (.v (.int .i64 v5)))) [] [], .as 24 true, .call true [900] (.o (.c (.v (.bool v8.1)))) [(900, .box 119 [.rs 1 (v8.2.b.map encU8), .v (.int .i64 v8.2.i), .v (.int .i64 v8.2.h)])] [], .as 28 true] [] [900, 901, 921] [] (And.intro (lenm Leg.enc a1.Legs) (And.intro (And.intro (con_sw 900 900 (spec_l1Below_ok a0 (a1.Legs.length : Int) v1 h2)) (rfl : ([900] : List Nat) = [900])) (And.intro (And.intro (con_sw 900 900 (spec_l1Below_ok v1.2 10 v3 h4)) (rfl : ([900] : List Nat) = [900])) (And.intro (spec_l3Next_ok a1 ((Trip.mk v1.1 v3.1).Leg) (w64 (((Trip.mk v1.1 v3.1).Day) * 1440)) v5 h6) (And.intro h7 (And.intro (And.intro (con_sw 900 900 (spec_l1Once_ok v3.2 4 v8 h9)) (rfl : ([900] : List Nat) = [900])) (And.intro h10 True.intro))))))) (by kernel_rfl)
    · have hE : some ((Trip.mk ((Trip.mk ((Trip.mk v1.1 v3.1).Leg) ((Trip.mk v1.1 v3.1).Day)).Leg) ((Trip.mk ((Trip.mk v1.1 v3.1).Leg) ((Trip.mk v1.1 v3.1).Day)).Day)), v8.2) = some r := hM
      have hE := Option.some.inj hE
      subst hE
      exact pr R 9999 [.new 0, .new 1, .ln (a1.Legs.length), .call true [900] (.o (.c (.v (.int .i64 v1.1)))) [(900, .box 119 [.rs 1 (v1.2.b.map encU8), .v (.int .i64 v1.2.i), .v (.int .i64 v1.2.h)])] [], .call true [900] (.o (.c (.v (.int .i64 v3.1)))) [(900, .box 119 [.rs 1 (v3.2.b.map encU8), .v (.int .i64 v3.2.i), .v (.int .i64 v3.2.h)])] [], .new 2, .call false [] (.o (.c (.v (.int .i64 v5)))) [] [], .as 24 true, .call true [900] (.o (.c (.v (.bool v8.1)))) [(900, .box 119 [.rs 1 (v8.2.b.map encU8), .v (.int .i64 v8.2.i), .v (.int .i64 v8.2.h)])] [], .as 28 false] [] [900, 901, 921] [] (And.intro (lenm Leg.enc a1.Legs) (And.intro (And.intro (con_sw 900 900 (spec_l1Below_ok a0 (a1.Legs.length : Int) v1 h2)) (rfl : ([900] : List Nat) = [900])) (And.intro (And.intro (con_sw 900 900 (spec_l1Below_ok v1.2 10 v3 h4)) (rfl : ([900] : List Nat) = [900])) (And.intro (spec_l3Next_ok a1 ((Trip.mk v1.1 v3.1).Leg) (w64 (((Trip.mk v1.1 v3.1).Day) * 1440)) v5 h6) (And.intro h7 (And.intro (And.intro (con_sw 900 900 (spec_l1Once_ok v3.2 4 v8 h9)) (rfl : ([900] : List Nat) = [900])) (And.intro h10 True.intro))))))) (by kernel_rfl)
  · have hE : some ((Trip.mk ((Trip.mk ((Trip.mk v1.1 v3.1).Leg) ((Trip.mk v1.1 v3.1).Day)).Leg) ((Trip.mk ((Trip.mk v1.1 v3.1).Leg) ((Trip.mk v1.1 v3.1).Day)).Day)), v3.2) = some r := hM
    have hE := Option.some.inj hE
    subst hE
    exact pr R 9999 [.new 0, .new 1, .ln (a1.Legs.length), .call true [900] (.o (.c (.v (.int .i64 v1.1)))) [(900, .box 119 [.rs 1 (v1.2.b.map encU8), .v (.int .i64 v1.2.i), .v (.int .i64 v1.2.h)])] [], .call true [900] (.o (.c (.v (.int .i64 v3.1)))) [(900, .box 119 [.rs 1 (v3.2.b.map encU8), .v (.int .i64 v3.2.i), .v (.int .i64 v3.2.h)])] [], .new 2, .call false [] (.o (.c (.v (.int .i64 v5)))) [] [], .as 24 false] [] [900, 901, 921] [] (And.intro (lenm Leg.enc a1.Legs) (And.intro (And.intro (con_sw 900 900 (spec_l1Below_ok a0 (a1.Legs.length : Int) v1 h2)) (rfl : ([900] : List Nat) = [900])) (And.intro (And.intro (con_sw 900 900 (spec_l1Below_ok v1.2 10 v3 h4)) (rfl : ([900] : List Nat) = [900])) (And.intro (spec_l3Next_ok a1 ((Trip.mk v1.1 v3.1).Leg) (w64 (((Trip.mk v1.1 v3.1).Day) * 1440)) v5 h6) (And.intro h7 True.intro))))) (by kernel_rfl)

-- loop.example/g03014/spec.l6Trip
def spec_l6Trip (a0 : l1Cur) (a1 : Network) (a2 : (List Booking)) : Option (Trip × l1Cur) :=
  bif (decide ((a2.length : Int) > 0)) then
  (spec_l1Once a0 3).bind fun v2 =>
  bif (!v2.1) then
  (spec_l1Below v2.2 (a2.length : Int)).bind fun v5 =>
  (gi a2 v5.1).bind fun v7 =>
  some (v7.Trip, v5.2)
  else
  (spec_l3Trip v2.2 a1).bind fun v9 =>
  some v9
  else
  (spec_l3Trip a0 a1).bind fun v11 =>
  some v11
theorem spec_l6Trip_ok (a0 : l1Cur) (a1 : Network) (a2 : (List Booking)) (r : Trip × l1Cur) (hM : spec_l6Trip a0 a1 a2 = some r) :
    Con Try.prog 57 [.c (.ptr 900 0), .agg [.sl 901, .sl 921, .v (.int .i64 a1.Change)], .c (.sl 902)] [(900, .box 119 [.rs 1 (a0.b.map encU8), .v (.int .i64 a0.i), .v (.int .i64 a0.h)]), (901, .row 95 6 (a1.Legs.map Leg.enc)), (921, .row 3 1 (a1.Off.map encI)), (902, .row 57 4 (a2.map Booking.enc))] (.o (.c (.v (.agg (Trip.enc r.1).toArray)))) [(900, .box 119 [.rs 1 (r.2.b.map encU8), .v (.int .i64 r.2.i), .v (.int .i64 r.2.h)]), (901, .row 95 6 (a1.Legs.map Leg.enc)), (921, .row 3 1 (a1.Off.map encI)), (902, .row 57 4 (a2.map Booking.enc))] [] := by
  unfold spec_l6Trip at hM
  refine cn (N := 26) (pids := [900, 901, 921, 902]) Try_mixed Try.func57 (by kernel_rfl) (by kernel_rfl) (by kernel_rfl) rfl fun ρ g w R => ?_
  rcases cond_cases hM with ⟨h1, hM⟩ | ⟨h1, hM⟩
  · obtain ⟨v2, h3, hM⟩ := bind_some hM
    rcases cond_cases hM with ⟨h4, hM⟩ | ⟨h4, hM⟩
    · obtain ⟨v5, h6, hM⟩ := bind_some hM
      obtain ⟨v7, h8, hM⟩ := bind_some hM
      have hE : some (v7.Trip, v5.2) = some r := hM
      have hE := Option.some.inj hE
      subst hE
      exact pr R 9999 [.new 0, .new 1, .ln (a2.length), .as 10 true, .call true [900] (.o (.c (.v (.bool v2.1)))) [(900, .box 119 [.rs 1 (v2.2.b.map encU8), .v (.int .i64 v2.2.i), .v (.int .i64 v2.2.h)])] [], .as 14 true, .ln (a2.length), .call true [900] (.o (.c (.v (.int .i64 v5.1)))) [(900, .box 119 [.rs 1 (v5.2.b.map encU8), .v (.int .i64 v5.2.i), .v (.int .i64 v5.2.h)])] [], .ix (Booking.enc v7)] [] [900, 901, 921, 902] [] (And.intro (lenm Booking.enc a2) (And.intro h1 (And.intro (And.intro (con_sw 900 900 (spec_l1Once_ok a0 3 v2 h3)) (rfl : ([900] : List Nat) = [900])) (And.intro h4 (And.intro (lenm Booking.enc a2) (And.intro (And.intro (con_sw 900 900 (spec_l1Below_ok v2.2 (a2.length : Int) v5 h6)) (rfl : ([900] : List Nat) = [900])) (And.intro (gi_lt Booking.enc h8) (And.intro ((gi_map Booking.enc h8).2) True.intro)))))))) (by kernel_rfl)
    · obtain ⟨v9, h10, hM⟩ := bind_some hM
      have hE : some v9 = some r := hM
      have hE := Option.some.inj hE
      subst hE
      exact pr R 9999 [.new 0, .new 1, .ln (a2.length), .as 10 true, .call true [900] (.o (.c (.v (.bool v2.1)))) [(900, .box 119 [.rs 1 (v2.2.b.map encU8), .v (.int .i64 v2.2.i), .v (.int .i64 v2.2.h)])] [], .as 14 false, .ad (.keep [0, 1, 2, 4, 6, 7, 8, 9, 10, 11, 12, 13, 14, 23, 24] [900, 901, 921, 902, 0, 1]), .call true [900, 901, 921] (.o (.c (.v (.agg (Trip.enc v9.1).toArray)))) [(900, .box 119 [.rs 1 (v9.2.b.map encU8), .v (.int .i64 v9.2.i), .v (.int .i64 v9.2.h)]), (901, .row 95 6 (a1.Legs.map Leg.enc)), (921, .row 3 1 (a1.Off.map encI))] []] [] [900, 901, 921, 902] [] (And.intro (lenm Booking.enc a2) (And.intro h1 (And.intro (And.intro (con_sw 900 900 (spec_l1Once_ok a0 3 v2 h3)) (rfl : ([900] : List Nat) = [900])) (And.intro h4 (And.intro (And.intro (con_sw 921 921 (con_sw 901 901 (con_sw 900 900 (spec_l3Trip_ok v2.2 a1 v9 h10)))) (rfl : ([900, 901, 921] : List Nat) = [900, 901, 921])) True.intro))))) (by kernel_rfl)
  · obtain ⟨v11, h12, hM⟩ := bind_some hM
    have hE : some v11 = some r := hM
    have hE := Option.some.inj hE
    subst hE
    exact pr R 9999 [.new 0, .new 1, .ln (a2.length), .as 10 false, .ad (.keep [0, 1, 2, 4, 6, 7, 8, 9, 10, 11, 12, 13, 14, 23, 24] [900, 901, 921, 902, 0, 1]), .call true [900, 901, 921] (.o (.c (.v (.agg (Trip.enc v11.1).toArray)))) [(900, .box 119 [.rs 1 (v11.2.b.map encU8), .v (.int .i64 v11.2.i), .v (.int .i64 v11.2.h)]), (901, .row 95 6 (a1.Legs.map Leg.enc)), (921, .row 3 1 (a1.Off.map encI))] []] [] [900, 901, 921, 902] [] (And.intro (lenm Booking.enc a2) (And.intro h1 (And.intro (And.intro (con_sw 921 921 (con_sw 901 901 (con_sw 900 900 (spec_l3Trip_ok a0 a1 v11 h12)))) (rfl : ([900, 901, 921] : List Nat) = [900, 901, 921])) True.intro))) (by kernel_rfl)

-- loop.example/g03014/spec.l1Odd
def spec_l1Odd (a0 : l1Cur) : Option (Int × l1Cur) :=
  (spec_l1Int a0 ([(-1), 0, 1, 2, 255, 1440, 86400, 86401, 999999999, 1000000000, 1000000001, (-1000000001), 9223372036854775807, (-9223372036854775808)] : List Int)).bind fun v1 =>
  some v1
theorem spec_l1Odd_ok (a0 : l1Cur) (r : Int × l1Cur) (hM : spec_l1Odd a0 = some r) :
    Con Try.prog 58 [.c (.ptr 900 0)] [(900, .box 119 [.rs 1 (a0.b.map encU8), .v (.int .i64 a0.i), .v (.int .i64 a0.h)])] (.o (.c (.v (.int .i64 r.1)))) [(900, .box 119 [.rs 1 (r.2.b.map encU8), .v (.int .i64 r.2.i), .v (.int .i64 r.2.h)])] [] := by
  unfold spec_l1Odd at hM
  refine cn (N := 6) (pids := [900]) Try_mixed Try.func58 (by kernel_rfl) (by kernel_rfl) (by kernel_rfl) rfl fun ρ g w R => ?_
  obtain ⟨v1, h2, hM⟩ := bind_some hM
  have hE : some v1 = some r := hM
  have hE := Option.some.inj hE
  subst hE
  exact pr R 9999 [.new 0, .ad (.keep [0, 2, 3, 4] [900, 0]), .call true [900, 0] (.o (.c (.v (.int .i64 v1.1)))) [(900, .box 119 [.rs 1 (v1.2.b.map encU8), .v (.int .i64 v1.2.i), .v (.int .i64 v1.2.h)]), (0, .row 3 1 (([(-1), 0, 1, 2, 255, 1440, 86400, 86401, 999999999, 1000000000, 1000000001, (-1000000001), 9223372036854775807, (-9223372036854775808)] : List Int).map encI))] []] [] [900] [] (And.intro (And.intro (con_sw 901 0 (con_sw 900 900 (spec_l1Int_ok a0 ([(-1), 0, 1, 2, 255, 1440, 86400, 86401, 999999999, 1000000000, 1000000001, (-1000000001), 9223372036854775807, (-9223372036854775808)] : List Int) v1 h2))) (rfl : ([900, 0] : List Nat) = [900, 0])) True.intro) (by kernel_rfl)

-- loop.example/g03014/spec.DrawBookWay
def spec_DrawBookWay_x1 (v3 : (Network × l1Cur)) (s12 : (List Booking)) (v19 : ((List Trip) × l1Cur)) : St := ⟨[(2, .o (.c (.ptr 0 0))), (7, .o (.c (.ptr 1 0))), (8, .o (.c (.ptr 4 0))), (9, .o (.c (.sl 6))), (11, .o (.c (.sl 7)))], [(0, .box 36 [.v (.slice none 0 0), .v (.slice none 0 0), .v (.int .i64 0)]), (1, .box 119 [.rs 1 (v19.2.b.map encU8), .v (.int .i64 v19.2.i), .v (.int .i64 v19.2.h)]), (4, .box 36 [.sl 2, .sl 3, .v (.int .i64 v3.1.Change)]), (2, .row 95 6 (v3.1.Legs.map Leg.enc)), (3, .row 3 1 (v3.1.Off.map encI)), (6, .row 57 4 (s12.map Booking.enc)), (7, .row 55 2 (v19.1.map Trip.enc))]⟩
def spec_DrawBookWay_s1 (v3 : (Network × l1Cur)) (s12 : (List Booking)) (v13 : (Int × l1Cur)) : St := ⟨[(2, .o (.c (.ptr 0 0))), (7, .o (.c (.ptr 1 0))), (8, .o (.c (.ptr 4 0))), (9, .o (.c (.sl 6))), (10, .o (.c (.v (.int .i64 (w64 (60 * v13.1))))))], [(0, .box 36 [.v (.slice none 0 0), .v (.slice none 0 0), .v (.int .i64 0)]), (1, .box 119 [.rs 1 (v13.2.b.map encU8), .v (.int .i64 v13.2.i), .v (.int .i64 v13.2.h)]), (4, .box 36 [.sl 2, .sl 3, .v (.int .i64 v3.1.Change)]), (2, .row 95 6 (v3.1.Legs.map Leg.enc)), (3, .row 3 1 (v3.1.Off.map encI)), (6, .row 57 4 (s12.map Booking.enc))]⟩
def spec_DrawBookWay_o1 (v3 : (Network × l1Cur)) (v15 : (ByteArray × l1Cur)) (v17 : (ByteArray × l1Cur)) (v19 : ((List Trip) × l1Cur)) : List (List Orc) := [[], [], [], [], [.ad (.keep [2, 7, 8, 9, 10, 11, 25, 26, 27, 28, 29, 30, 31, 32, 33, 34, 35, 36, 37] [1, 2, 3, 0, 4, 6, 5, 7, 8, 9, 10, 11, 12, 13, 14, 15, 16, 17, 18, 19, 20, 21, 22, 23, 24, 25, 26, 27, 28, 29, 30, 31, 32, 33, 34, 35, 36, 37, 38, 39, 40, 41, 42, 43, 44, 45, 46]), .call true [1, 2, 3] (.o (.c (.v (.string v15.1)))) [(1, .box 119 [.rs 1 (v15.2.b.map encU8), .v (.int .i64 v15.2.i), .v (.int .i64 v15.2.h)]), (2, .row 95 6 (v3.1.Legs.map Leg.enc)), (3, .row 3 1 (v3.1.Off.map encI))] []], [], [], [.ad (.keep [2, 7, 8, 9, 10, 11, 25, 26, 27, 28, 29, 30, 31, 32, 33, 34, 35, 36, 37] [1, 2, 3, 0, 4, 6, 5, 7, 8, 9, 10, 11, 12, 13, 14, 15, 16, 17, 18, 19, 20, 21, 22, 23, 24, 25, 26, 27, 28, 29, 30, 31, 32, 33, 34, 35, 36, 37, 38, 39, 40, 41, 42, 43, 44, 45, 46]), .call true [1, 2, 3] (.o (.c (.v (.string v17.1)))) [(1, .box 119 [.rs 1 (v17.2.b.map encU8), .v (.int .i64 v17.2.i), .v (.int .i64 v17.2.h)]), (2, .row 95 6 (v3.1.Legs.map Leg.enc)), (3, .row 3 1 (v3.1.Off.map encI))] []], [], [.ad (.keep [2, 7, 8, 9, 10, 11, 25, 26, 27, 28, 29, 30, 31, 32, 33, 34, 35, 36, 37] [1, 2, 3, 0, 4, 6, 5, 7, 8, 9, 10, 11, 12, 13, 14, 15, 16, 17, 18, 19, 20, 21, 22, 23, 24, 25, 26, 27, 28, 29, 30, 31, 32, 33, 34, 35, 36, 37, 38, 39, 40, 41, 42, 43, 44, 45, 46, 47]), .call true [1, 2, 3] (.o (.c (.sl 7))) [(1, .box 119 [.rs 1 (v19.2.b.map encU8), .v (.int .i64 v19.2.i), .v (.int .i64 v19.2.h)]), (2, .row 95 6 (v3.1.Legs.map Leg.enc)), (3, .row 3 1 (v3.1.Off.map encI))] [(7, .row 55 2 (v19.1.map Trip.enc))]], []]
theorem spec_DrawBookWay_y1 (v3 : (Network × l1Cur)) (s12 : (List Booking)) (v13 : (Int × l1Cur)) (v15 : (ByteArray × l1Cur)) (v17 : (ByteArray × l1Cur)) (v19 : ((List Trip) × l1Cur)) (L : List Nat) : subX Try.prog [] 61 (opsOf (cAt Try.f22 [1, 1, 1, 1, 1, 1, 0])) (spec_DrawBookWay_o1 v3 v15 v17 v19) L (spec_DrawBookWay_s1 v3 s12 v13) = subX Try.prog [] 61 (opsOf (cAt Try.f22 [1, 1, 1, 1, 1, 1, 0])) (spec_DrawBookWay_o1 v3 v15 v17 v19) L (spec_DrawBookWay_s1 v3 s12 v13) := rfl
def spec_DrawBookWay_x2 (v3 : (Network × l1Cur)) (s12 : (List Booking)) (s26 : (List Trip)) (s34 : Int) (v35 : (Int × l1Cur)) : St := ⟨[(2, .o (.c (.ptr 0 0))), (3, .o (.c (.sl 6))), (4, .o (.c (.v (.int .i64 v35.1)))), (5, .o (.c (.v (.int .i64 s34)))), (6, .o (.c (.sl 9)))], [(0, .box 36 [.sl 2, .sl 3, .v (.int .i64 v3.1.Change)]), (2, .row 95 6 (v3.1.Legs.map Leg.enc)), (3, .row 3 1 (v3.1.Off.map encI)), (6, .row 57 4 (s12.map Booking.enc)), (9, .row 55 2 (s26.map Trip.enc))]⟩
def spec_DrawBookWay_j4 (v3 : (Network × l1Cur)) (s12 : (List Booking)) (s26 : (List Trip)) (s31 : (List Int)) (s32 : Int) (s33 : Int) (s34 : Int) : Option (Network × (List Booking) × Int × Int × (List Trip)) :=
  (spec_l1Int (l1Cur.mk s31 s32 s33) ([1, 2, 3, 13, 0, 9999, 10000] : List Int)).bind fun v35 =>
  some ((Network.mk v3.1.Legs v3.1.Off v3.1.Change), s12, v35.1, s34, s26)
def spec_DrawBookWay_j3 (v3 : (Network × l1Cur)) (s12 : (List Booking)) (s23 : (List Int)) (s24 : Int) (s25 : Int) (s26 : (List Trip)) : Option (Network × (List Booking) × Int × Int × (List Trip)) :=
  (spec_l1Below (l1Cur.mk s23 s24 s25) 20000).bind fun v27 =>
  (spec_l1Once v27.2 6).bind fun v29 =>
  bif v29.1 then
  (spec_l1Odd v29.2).bind fun v38 =>
  spec_DrawBookWay_j4 v3 s12 s26 v38.2.b v38.2.i v38.2.h v38.1
  else
  spec_DrawBookWay_j4 v3 s12 s26 v29.2.b v29.2.i v29.2.h (w64 (1 + v27.1))
def spec_DrawBookWay_j2 (v3 : (Network × l1Cur)) (s12 : (List Booking)) (v19 : ((List Trip) × l1Cur)) : Option (Network × (List Booking) × Int × Int × (List Trip)) :=
  (spec_l1Once v19.2 5).bind fun v21 =>
  bif v21.1 then
  (spec_l6Trip v21.2 v3.1 s12).bind fun v41 =>
  (ap 16 v19.1 ([v41.1] : List Trip)).bind fun v43 =>
  spec_DrawBookWay_j3 v3 s12 v41.2.b v41.2.i v41.2.h v43
  else
  spec_DrawBookWay_j3 v3 s12 v21.2.b v21.2.i v21.2.h v19.1
def spec_DrawBookWay_j1 (v3 : (Network × l1Cur)) (s9 : (List Int)) (s10 : Int) (s11 : Int) (s12 : (List Booking)) : Option (Network × (List Booking) × Int × Int × (List Trip)) :=
  (spec_l1Below (l1Cur.mk s9 s10 s11) 100).bind fun v13 =>
  (spec_l4Of v13.2 v3.1).bind fun v15 =>
  (spec_l4Of v15.2 v3.1).bind fun v17 =>
  (spec_l4Way v17.2 v3.1 v15.1 v17.1 (w64 (60 * v13.1))).bind fun v19 =>
  spec_DrawBookWay_j2 v3 s12 v19
def spec_DrawBookWay (a0 : (List Int)) : Option (Network × (List Booking) × Int × Int × (List Trip)) :=
  (spec_l1New a0).bind fun v1 =>
  (spec_l3Draw v1 6).bind fun v3 =>
  (spec_l6Draw v3.2 v3.1 6).bind fun v5 =>
  (spec_l1Once v5.2 6).bind fun v7 =>
  bif v7.1 then
  (spec_l6Any v7.2 v3.1).bind fun v46 =>
  spec_DrawBookWay_j1 v3 v46.2.b v46.2.i v46.2.h v46.1
  else
  spec_DrawBookWay_j1 v3 v7.2.b v7.2.i v7.2.h v5.1
theorem spec_DrawBookWay_ok (a0 : (List Int)) (r : Network × (List Booking) × Int × Int × (List Trip)) (hM : spec_DrawBookWay a0 = some r) :
    Con Try.prog 22 [.c (.rs 1 (a0.map encU8))] [] (.tup [.agg [.sl 1000, .sl 1001, .v (.int .i64 r.1.Change)], .c (.sl 1002), .c (.v (.int .i64 r.2.2.1)), .c (.v (.int .i64 r.2.2.2.1)), .c (.sl 1003)]) [] [(1000, .row 95 6 (r.1.Legs.map Leg.enc)), (1001, .row 3 1 (r.1.Off.map encI)), (1002, .row 57 4 (r.2.1.map Booking.enc)), (1003, .row 55 2 (r.2.2.2.2.map Trip.enc))] := by
  unfold spec_DrawBookWay at hM
  refine cn (N := 61) (pids := []) Try_mixed Try.func22 (by kernel_rfl) (by kernel_rfl) (by kernel_rfl) rfl fun ρ g w R => ?_
  obtain ⟨v1, h2, hM⟩ := bind_some hM
  obtain ⟨v3, h4, hM⟩ := bind_some hM
  obtain ⟨v5, h6, hM⟩ := bind_some hM
  obtain ⟨v7, h8, hM⟩ := bind_some hM
  have J4 : ∀ (s9 : (List Int)) (s10 : Int) (s11 : Int) (s12 : (List Booking)), spec_DrawBookWay_j1 v3 s9 s10 s11 s12 = some r → Gr R [.code (cAt Try.f22 [1, 1, 1, 1, 1])] (⟨[(2, .o (.c (.ptr 0 0))), (7, .o (.c (.ptr 1 0))), (8, .o (.c (.ptr 4 0))), (9, .o (.c (.sl 6)))], [(0, .box 36 [.v (.slice none 0 0), .v (.slice none 0 0), .v (.int .i64 0)]), (1, .box 119 [.rs 1 (s9.map encU8), .v (.int .i64 s10), .v (.int .i64 s11)]), (4, .box 36 [.sl 2, .sl 3, .v (.int .i64 v3.1.Change)]), (2, .row 95 6 (v3.1.Legs.map Leg.enc)), (3, .row 3 1 (v3.1.Off.map encI)), (6, .row 57 4 (s12.map Booking.enc))]⟩) := by
    intro s9 s10 s11 s12 hM
    unfold spec_DrawBookWay_j1 at hM
    obtain ⟨v13, h14, hM⟩ := bind_some hM
    obtain ⟨v15, h16, hM⟩ := bind_some hM
    obtain ⟨v17, h18, hM⟩ := bind_some hM
    obtain ⟨v19, h20, hM⟩ := bind_some hM
    have J2 : ∀ (_ : Unit), spec_DrawBookWay_j2 v3 s12 v19 = some r → Gr R [.code (cAt Try.f22 [1, 1, 1, 1, 1, 1, 1])] (spec_DrawBookWay_x1 v3 s12 v19) := by
      intro _ hM
      unfold spec_DrawBookWay_j2 at hM
      obtain ⟨v21, h22, hM⟩ := bind_some hM
      have J4 : ∀ (s23 : (List Int)) (s24 : Int) (s25 : Int) (s26 : (List Trip)), spec_DrawBookWay_j3 v3 s12 s23 s24 s25 s26 = some r → Gr R [.code (cAt Try.f22 [1, 1, 1, 1, 1, 1, 1, 1])] (⟨[(2, .o (.c (.ptr 0 0))), (7, .o (.c (.ptr 1 0))), (8, .o (.c (.ptr 4 0))), (9, .o (.c (.sl 6))), (11, .o (.c (.sl 9)))], [(0, .box 36 [.v (.slice none 0 0), .v (.slice none 0 0), .v (.int .i64 0)]), (1, .box 119 [.rs 1 (s23.map encU8), .v (.int .i64 s24), .v (.int .i64 s25)]), (4, .box 36 [.sl 2, .sl 3, .v (.int .i64 v3.1.Change)]), (2, .row 95 6 (v3.1.Legs.map Leg.enc)), (3, .row 3 1 (v3.1.Off.map encI)), (6, .row 57 4 (s12.map Booking.enc)), (9, .row 55 2 (s26.map Trip.enc))]⟩) := by
        intro s23 s24 s25 s26 hM
        unfold spec_DrawBookWay_j3 at hM
        obtain ⟨v27, h28, hM⟩ := bind_some hM
        obtain ⟨v29, h30, hM⟩ := bind_some hM
        have J4 : ∀ (s31 : (List Int)) (s32 : Int) (s33 : Int) (s34 : Int), spec_DrawBookWay_j4 v3 s12 s26 s31 s32 s33 s34 = some r → Gr R [.code (cAt Try.f22 [1, 1, 1, 1, 1, 1, 1, 1, 1, 1])] (⟨[(2, .o (.c (.ptr 0 0))), (7, .o (.c (.ptr 1 0))), (8, .o (.c (.ptr 4 0))), (9, .o (.c (.sl 6))), (11, .o (.c (.sl 9))), (12, .o (.c (.v (.int .i64 s34))))], [(0, .box 36 [.v (.slice none 0 0), .v (.slice none 0 0), .v (.int .i64 0)]), (1, .box 119 [.rs 1 (s31.map encU8), .v (.int .i64 s32), .v (.int .i64 s33)]), (4, .box 36 [.sl 2, .sl 3, .v (.int .i64 v3.1.Change)]), (2, .row 95 6 (v3.1.Legs.map Leg.enc)), (3, .row 3 1 (v3.1.Off.map encI)), (6, .row 57 4 (s12.map Booking.enc)), (9, .row 55 2 (s26.map Trip.enc))]⟩) := by
          intro s31 s32 s33 s34 hM
          unfold spec_DrawBookWay_j4 at hM
          obtain ⟨v35, h36, hM⟩ := bind_some hM
          have hE : some ((Network.mk v3.1.Legs v3.1.Off v3.1.Change), s12, v35.1, s34, s26) = some r := hM
          have hE := Option.some.inj hE
          subst hE
          exact pr R 9999 [.xo [[], [], [], [.new 10], [.ad (.keep [2, 3, 4, 5, 6, 7, 8, 9, 11, 12, 54, 55, 56, 57, 58, 59, 60] [1, 10, 0, 4, 2, 3, 6, 9, 5, 7, 8, 11, 12, 13, 14, 15, 16, 17, 18, 19, 20, 21, 22, 23, 24, 25, 26, 27, 28, 29, 30, 31, 32, 33, 34, 35, 36, 37, 38, 39, 40, 41, 42, 43, 44, 45, 46, 47, 48, 49, 50]), .call true [1, 10] (.o (.c (.v (.int .i64 v35.1)))) [(1, .box 119 [.rs 1 (v35.2.b.map encU8), .v (.int .i64 v35.2.i), .v (.int .i64 v35.2.h)]), (10, .row 3 1 (([1, 2, 3, 13, 0, 9999, 10000] : List Int).map encI))] []], [], [], [], [], [], [], []] [.keep [2, 3, 4, 5, 6] [0, 2, 3, 6, 9]] (spec_DrawBookWay_x2 v3 s12 s26 s34 v35)] [.sw 2 1000, .sw 3 1001, .sw 6 1002, .sw 9 1003] [] [1000, 1001, 1002, 1003] (And.intro (And.intro (con_sw 901 10 (con_sw 900 1 (spec_l1Int_ok (l1Cur.mk s31 s32 s33) ([1, 2, 3, 13, 0, 9999, 10000] : List Int) v35 h36))) (rfl : ([1, 10] : List Nat) = [1, 10])) (And.intro (rfl : (spec_DrawBookWay_x2 v3 s12 s26 s34 v35) = (spec_DrawBookWay_x2 v3 s12 s26 s34 v35)) (And.intro (And.intro (con_sw 901 10 (con_sw 900 1 (spec_l1Int_ok (l1Cur.mk s31 s32 s33) ([1, 2, 3, 13, 0, 9999, 10000] : List Int) v35 h36))) (rfl : ([1, 10] : List Nat) = [1, 10])) (And.intro (rfl : (spec_DrawBookWay_x2 v3 s12 s26 s34 v35) = (spec_DrawBookWay_x2 v3 s12 s26 s34 v35)) (And.intro (And.intro (con_sw 901 10 (con_sw 900 1 (spec_l1Int_ok (l1Cur.mk s31 s32 s33) ([1, 2, 3, 13, 0, 9999, 10000] : List Int) v35 h36))) (rfl : ([1, 10] : List Nat) = [1, 10])) (And.intro (rfl : (spec_DrawBookWay_x2 v3 s12 s26 s34 v35) = (spec_DrawBookWay_x2 v3 s12 s26 s34 v35)) True.intro)))))) (by kernel_rfl)
        rcases cond_cases hM with ⟨h37, hM⟩ | ⟨h37, hM⟩
        · obtain ⟨v38, h39, hM⟩ := bind_some hM
          exact pc R 7 [.call true [1] (.o (.c (.v (.int .i64 v27.1)))) [(1, .box 119 [.rs 1 (v27.2.b.map encU8), .v (.int .i64 v27.2.i), .v (.int .i64 v27.2.h)])] [], .call true [1] (.o (.c (.v (.bool v29.1)))) [(1, .box 119 [.rs 1 (v29.2.b.map encU8), .v (.int .i64 v29.2.i), .v (.int .i64 v29.2.h)])] [], .as 51 true, .call true [1] (.o (.c (.v (.int .i64 v38.1)))) [(1, .box 119 [.rs 1 (v38.2.b.map encU8), .v (.int .i64 v38.2.i), .v (.int .i64 v38.2.h)])] []] [.keep [2, 7, 8, 9, 11, 12] [0, 1, 4, 2, 3, 6, 9]] (And.intro (And.intro (con_sw 900 1 (spec_l1Below_ok (l1Cur.mk s23 s24 s25) 20000 v27 h28)) (rfl : ([1] : List Nat) = [1])) (And.intro (And.intro (con_sw 900 1 (spec_l1Once_ok v27.2 6 v29 h30)) (rfl : ([1] : List Nat) = [1])) (And.intro h37 (And.intro (And.intro (con_sw 900 1 (spec_l1Odd_ok v29.2 v38 h39)) (rfl : ([1] : List Nat) = [1])) True.intro)))) (by kernel_rfl) (J4 v38.2.b v38.2.i v38.2.h v38.1 hM)
        · exact pc R 7 [.call true [1] (.o (.c (.v (.int .i64 v27.1)))) [(1, .box 119 [.rs 1 (v27.2.b.map encU8), .v (.int .i64 v27.2.i), .v (.int .i64 v27.2.h)])] [], .call true [1] (.o (.c (.v (.bool v29.1)))) [(1, .box 119 [.rs 1 (v29.2.b.map encU8), .v (.int .i64 v29.2.i), .v (.int .i64 v29.2.h)])] [], .as 51 false] [.keep [2, 7, 8, 9, 11, 12] [0, 1, 4, 2, 3, 6, 9]] (And.intro (And.intro (con_sw 900 1 (spec_l1Below_ok (l1Cur.mk s23 s24 s25) 20000 v27 h28)) (rfl : ([1] : List Nat) = [1])) (And.intro (And.intro (con_sw 900 1 (spec_l1Once_ok v27.2 6 v29 h30)) (rfl : ([1] : List Nat) = [1])) (And.intro h37 True.intro))) (by kernel_rfl) (J4 v29.2.b v29.2.i v29.2.h (w64 (1 + v27.1)) hM)
      rcases cond_cases hM with ⟨h40, hM⟩ | ⟨h40, hM⟩
      · obtain ⟨v41, h42, hM⟩ := bind_some hM
        obtain ⟨v43, h44, hM⟩ := bind_some hM
        exact pc R 5 [.call true [1] (.o (.c (.v (.bool v21.1)))) [(1, .box 119 [.rs 1 (v21.2.b.map encU8), .v (.int .i64 v21.2.i), .v (.int .i64 v21.2.h)])] [], .as 39 true, .ad (.keep [2, 7, 8, 9, 11, 38, 39, 40, 41, 42, 43] [1, 2, 3, 6, 0, 4, 7]), .call true [1, 2, 3, 6] (.o (.c (.v (.agg (Trip.enc v41.1).toArray)))) [(1, .box 119 [.rs 1 (v41.2.b.map encU8), .v (.int .i64 v41.2.i), .v (.int .i64 v41.2.h)]), (2, .row 95 6 (v3.1.Legs.map Leg.enc)), (3, .row 3 1 (v3.1.Off.map encI)), (6, .row 57 4 (s12.map Booking.enc))] [], .new 11, .new 12, .nm (v43.map Trip.enc)] [.sw 12 9, .keep [2, 7, 8, 9, 11] [0, 1, 4, 2, 3, 6, 9]] (And.intro (And.intro (con_sw 900 1 (spec_l1Once_ok v19.2 5 v21 h22)) (rfl : ([1] : List Nat) = [1])) (And.intro h40 (And.intro (And.intro (con_sw 902 6 (con_sw 921 3 (con_sw 901 2 (con_sw 900 1 (spec_l6Trip_ok v21.2 v3.1 s12 v41 h42))))) (rfl : ([1, 2, 3, 6] : List Nat) = [1, 2, 3, 6])) (And.intro (ap_ok Trip.enc h44) True.intro)))) (by kernel_rfl) (J4 v41.2.b v41.2.i v41.2.h v43 hM)
      · exact pc R 5 [.call true [1] (.o (.c (.v (.bool v21.1)))) [(1, .box 119 [.rs 1 (v21.2.b.map encU8), .v (.int .i64 v21.2.i), .v (.int .i64 v21.2.h)])] [], .as 39 false] [.sw 7 9, .keep [2, 7, 8, 9, 11] [0, 1, 4, 2, 3, 6, 9]] (And.intro (And.intro (con_sw 900 1 (spec_l1Once_ok v19.2 5 v21 h22)) (rfl : ([1] : List Nat) = [1])) (And.intro h40 True.intro)) (by kernel_rfl) (J4 v21.2.b v21.2.i v21.2.h v19.1 hM)
    exact pc R 4 [.call true [1] (.o (.c (.v (.int .i64 v13.1)))) [(1, .box 119 [.rs 1 (v13.2.b.map encU8), .v (.int .i64 v13.2.i), .v (.int .i64 v13.2.h)])] [], .xg (spec_DrawBookWay_o1 v3 v15 v17 v19) [.keep [2, 7, 8, 9, 10] [0, 1, 4, 2, 3, 6]] [.keep [2, 7, 8, 9, 11] [0, 1, 4, 2, 3, 6, 7]] (spec_DrawBookWay_x1 v3 s12 v19) [[0, 2, 5, 8], [0, 1, 2, 5, 8], [0, 2, 3, 5, 8], [0, 2, 5, 6, 8], [0, 1, 2, 3, 5, 8], [0, 1, 2, 5, 6, 8], [0, 2, 3, 4, 5, 8], [0, 2, 3, 5, 6, 8], [0, 1, 2, 3, 4, 5, 8], [0, 1, 2, 3, 5, 6, 8], [0, 2, 3, 4, 5, 6, 8], [0, 1, 2, 3, 4, 5, 6, 8], [0, 2, 3, 4, 5, 6, 7, 8], [0, 1, 2, 3, 4, 5, 6, 7, 8]]] [] (And.intro (And.intro (con_sw 900 1 (spec_l1Below_ok (l1Cur.mk s9 s10 s11) 100 v13 h14)) (rfl : ([1] : List Nat) = [1])) (And.intro (spec_DrawBookWay_y1 v3 s12 v13 v15 v17 v19 [0, 2, 5, 8]) (And.intro (spec_DrawBookWay_y1 v3 s12 v13 v15 v17 v19 [0, 1, 2, 5, 8]) (And.intro (spec_DrawBookWay_y1 v3 s12 v13 v15 v17 v19 [0, 2, 3, 5, 8]) (And.intro (spec_DrawBookWay_y1 v3 s12 v13 v15 v17 v19 [0, 2, 5, 6, 8]) (And.intro (spec_DrawBookWay_y1 v3 s12 v13 v15 v17 v19 [0, 1, 2, 3, 5, 8]) (And.intro (spec_DrawBookWay_y1 v3 s12 v13 v15 v17 v19 [0, 1, 2, 5, 6, 8]) (And.intro (spec_DrawBookWay_y1 v3 s12 v13 v15 v17 v19 [0, 1, 2, 3, 5, 8]) (And.intro (And.intro (con_sw 921 3 (con_sw 901 2 (con_sw 900 1 (spec_l4Of_ok v13.2 v3.1 v15 h16)))) (rfl : ([1, 2, 3] : List Nat) = [1, 2, 3])) (And.intro (spec_DrawBookWay_y1 v3 s12 v13 v15 v17 v19 [0, 2, 3, 4, 5, 8]) (And.intro (spec_DrawBookWay_y1 v3 s12 v13 v15 v17 v19 [0, 2, 3, 5, 6, 8]) (And.intro (spec_DrawBookWay_y1 v3 s12 v13 v15 v17 v19 [0, 1, 2, 5, 6, 8]) (And.intro (spec_DrawBookWay_y1 v3 s12 v13 v15 v17 v19 [0, 2, 3, 5, 6, 8]) (And.intro (And.intro (con_sw 921 3 (con_sw 901 2 (con_sw 900 1 (spec_l4Of_ok v13.2 v3.1 v15 h16)))) (rfl : ([1, 2, 3] : List Nat) = [1, 2, 3])) (And.intro (spec_DrawBookWay_y1 v3 s12 v13 v15 v17 v19 [0, 1, 2, 3, 4, 5, 8]) (And.intro (spec_DrawBookWay_y1 v3 s12 v13 v15 v17 v19 [0, 1, 2, 3, 5, 6, 8]) (And.intro (spec_DrawBookWay_y1 v3 s12 v13 v15 v17 v19 [0, 1, 2, 3, 5, 6, 8]) (And.intro (spec_DrawBookWay_y1 v3 s12 v13 v15 v17 v19 [0, 1, 2, 3, 4, 5, 8]) (And.intro (spec_DrawBookWay_y1 v3 s12 v13 v15 v17 v19 [0, 2, 3, 4, 5, 6, 8]) (And.intro (spec_DrawBookWay_y1 v3 s12 v13 v15 v17 v19 [0, 1, 2, 3, 5, 6, 8]) (And.intro (And.intro (con_sw 921 3 (con_sw 901 2 (con_sw 900 1 (spec_l4Of_ok v13.2 v3.1 v15 h16)))) (rfl : ([1, 2, 3] : List Nat) = [1, 2, 3])) (And.intro (spec_DrawBookWay_y1 v3 s12 v13 v15 v17 v19 [0, 2, 3, 4, 5, 6, 8]) (And.intro (spec_DrawBookWay_y1 v3 s12 v13 v15 v17 v19 [0, 1, 2, 3, 4, 5, 6, 8]) (And.intro (And.intro (con_sw 921 3 (con_sw 901 2 (con_sw 900 1 (spec_l4Of_ok v13.2 v3.1 v15 h16)))) (rfl : ([1, 2, 3] : List Nat) = [1, 2, 3])) (And.intro (spec_DrawBookWay_y1 v3 s12 v13 v15 v17 v19 [0, 1, 2, 3, 4, 5, 6, 8]) (And.intro (spec_DrawBookWay_y1 v3 s12 v13 v15 v17 v19 [0, 1, 2, 3, 4, 5, 6, 8]) (And.intro (And.intro (con_sw 921 3 (con_sw 901 2 (con_sw 900 1 (spec_l4Of_ok v15.2 v3.1 v17 h18)))) (rfl : ([1, 2, 3] : List Nat) = [1, 2, 3])) (And.intro (spec_DrawBookWay_y1 v3 s12 v13 v15 v17 v19 [0, 2, 3, 4, 5, 6, 7, 8]) (And.intro (And.intro (con_sw 921 3 (con_sw 901 2 (con_sw 900 1 (spec_l4Of_ok v15.2 v3.1 v17 h18)))) (rfl : ([1, 2, 3] : List Nat) = [1, 2, 3])) (And.intro (spec_DrawBookWay_y1 v3 s12 v13 v15 v17 v19 [0, 1, 2, 3, 4, 5, 6, 7, 8]) (And.intro (spec_DrawBookWay_y1 v3 s12 v13 v15 v17 v19 [0, 1, 2, 3, 4, 5, 6, 7, 8]) (And.intro (And.intro (con_sw 921 3 (con_sw 901 2 (con_sw 900 1 (con_sw 1000 7 (spec_l4Way_ok v17.2 v3.1 v15.1 v17.1 (w64 (60 * v13.1)) v19 h20))))) (rfl : ([1, 2, 3] : List Nat) = [1, 2, 3])) (And.intro (rfl : (spec_DrawBookWay_x1 v3 s12 v19) = (spec_DrawBookWay_x1 v3 s12 v19)) True.intro))))))))))))))))))))))))))))))))) (by kernel_rfl) (J2 () hM)
  rcases cond_cases hM with ⟨h45, hM⟩ | ⟨h45, hM⟩
  · obtain ⟨v46, h47, hM⟩ := bind_some hM
    exact pc R 13 [.new 0, .call true [] (.o (.c (.ptr 1 0))) [] [(1, .box 119 [.rs 1 (v1.b.map encU8), .v (.int .i64 v1.i), .v (.int .i64 v1.h)])], .call true [1] (.o (.agg [.sl 2, .sl 3, .v (.int .i64 v3.1.Change)])) [(1, .box 119 [.rs 1 (v3.2.b.map encU8), .v (.int .i64 v3.2.i), .v (.int .i64 v3.2.h)])] [(2, .row 95 6 (v3.1.Legs.map Leg.enc)), (3, .row 3 1 (v3.1.Off.map encI))], .new 4, .ad (.keep [0, 2, 3, 4, 5, 6, 7, 8, 13, 14, 15, 16, 17, 18] [1, 2, 3, 0, 4]), .call true [1, 2, 3] (.o (.c (.sl 5))) [(1, .box 119 [.rs 1 (v5.2.b.map encU8), .v (.int .i64 v5.2.i), .v (.int .i64 v5.2.h)]), (2, .row 95 6 (v3.1.Legs.map Leg.enc)), (3, .row 3 1 (v3.1.Off.map encI))] [(5, .row 57 4 (v5.1.map Booking.enc))], .call true [1] (.o (.c (.v (.bool v7.1)))) [(1, .box 119 [.rs 1 (v7.2.b.map encU8), .v (.int .i64 v7.2.i), .v (.int .i64 v7.2.h)])] [], .as 21 true, .ad (.keep [0, 2, 3, 4, 5, 6, 7, 8, 9, 13, 14, 15, 16, 17, 18, 19, 20, 21, 22, 23] [1, 2, 3, 0, 4, 5]), .call true [1, 2, 3] (.o (.c (.sl 13))) [(1, .box 119 [.rs 1 (v46.2.b.map encU8), .v (.int .i64 v46.2.i), .v (.int .i64 v46.2.h)]), (2, .row 95 6 (v3.1.Legs.map Leg.enc)), (3, .row 3 1 (v3.1.Off.map encI))] [(13, .row 57 4 (v46.1.map Booking.enc))]] [.sw 13 6, .keep [2, 7, 8, 9] [0, 1, 4, 2, 3, 6]] (And.intro (And.intro (con_sw 1000 1 (spec_l1New_ok a0 v1 h2)) (rfl : ([] : List Nat) = [])) (And.intro (And.intro (con_sw 900 1 (con_sw 1001 3 (con_sw 1000 2 (spec_l3Draw_ok v1 6 v3 h4)))) (rfl : ([1] : List Nat) = [1])) (And.intro (And.intro (con_sw 921 3 (con_sw 901 2 (con_sw 900 1 (con_sw 1000 5 (spec_l6Draw_ok v3.2 v3.1 6 v5 h6))))) (rfl : ([1, 2, 3] : List Nat) = [1, 2, 3])) (And.intro (And.intro (con_sw 900 1 (spec_l1Once_ok v5.2 6 v7 h8)) (rfl : ([1] : List Nat) = [1])) (And.intro h45 (And.intro (And.intro (con_sw 921 3 (con_sw 901 2 (con_sw 900 1 (con_sw 1000 13 (spec_l6Any_ok v7.2 v3.1 v46 h47))))) (rfl : ([1, 2, 3] : List Nat) = [1, 2, 3])) True.intro)))))) (by kernel_rfl) (J4 v46.2.b v46.2.i v46.2.h v46.1 hM)
  · exact pc R 13 [.new 0, .call true [] (.o (.c (.ptr 1 0))) [] [(1, .box 119 [.rs 1 (v1.b.map encU8), .v (.int .i64 v1.i), .v (.int .i64 v1.h)])], .call true [1] (.o (.agg [.sl 2, .sl 3, .v (.int .i64 v3.1.Change)])) [(1, .box 119 [.rs 1 (v3.2.b.map encU8), .v (.int .i64 v3.2.i), .v (.int .i64 v3.2.h)])] [(2, .row 95 6 (v3.1.Legs.map Leg.enc)), (3, .row 3 1 (v3.1.Off.map encI))], .new 4, .ad (.keep [0, 2, 3, 4, 5, 6, 7, 8, 13, 14, 15, 16, 17, 18] [1, 2, 3, 0, 4]), .call true [1, 2, 3] (.o (.c (.sl 5))) [(1, .box 119 [.rs 1 (v5.2.b.map encU8), .v (.int .i64 v5.2.i), .v (.int .i64 v5.2.h)]), (2, .row 95 6 (v3.1.Legs.map Leg.enc)), (3, .row 3 1 (v3.1.Off.map encI))] [(5, .row 57 4 (v5.1.map Booking.enc))], .call true [1] (.o (.c (.v (.bool v7.1)))) [(1, .box 119 [.rs 1 (v7.2.b.map encU8), .v (.int .i64 v7.2.i), .v (.int .i64 v7.2.h)])] [], .as 21 false] [.sw 5 6, .keep [2, 7, 8, 9] [0, 1, 4, 2, 3, 6]] (And.intro (And.intro (con_sw 1000 1 (spec_l1New_ok a0 v1 h2)) (rfl : ([] : List Nat) = [])) (And.intro (And.intro (con_sw 900 1 (con_sw 1001 3 (con_sw 1000 2 (spec_l3Draw_ok v1 6 v3 h4)))) (rfl : ([1] : List Nat) = [1])) (And.intro (And.intro (con_sw 921 3 (con_sw 901 2 (con_sw 900 1 (con_sw 1000 5 (spec_l6Draw_ok v3.2 v3.1 6 v5 h6))))) (rfl : ([1, 2, 3] : List Nat) = [1, 2, 3])) (And.intro (And.intro (con_sw 900 1 (spec_l1Once_ok v5.2 6 v7 h8)) (rfl : ([1] : List Nat) = [1])) (And.intro h45 True.intro))))) (by kernel_rfl) (J4 v7.2.b v7.2.i v7.2.h v5.1 hM)

-- loop.example/g03014/impl.TripsOf
def impl_TripsOf_L1_b (a0 : (List Booking)) (a1 : Int) (s1 : (List Trip)) (s2 : Int) : Option (Ctl ((List Trip) × Int) (List Trip) (List Trip)) :=
  bif (decide (s2 < (a0.length : Int))) then
  (gi a0 s2).bind fun v5 =>
  bif (v5.Thing == a1) then
  (ap 16 s1 ([v5.Trip] : List Trip)).bind fun v8 =>
  some (.next (v8, w64 (s2 + 1)))
  else
  some (.next (s1, w64 (s2 + 1)))
  else
  some (.brk s1)
def impl_TripsOf_L1 (a0 : (List Booking)) (a1 : Int) (s : (List Trip) × Int) : Option (Ctl ((List Trip) × Int) (List Trip) (List Trip)) := impl_TripsOf_L1_b a0 a1 s.1 s.2
def impl_TripsOf_L1_s (a0 : (List Booking)) (a1 : Int) (s1 : (List Trip)) (s2 : Int) : St := ⟨[(1, .o (.c (.v (.int .i64 a1)))), (5, .o (.c (.sl 0))), (9, .o (.c (.rs 4 (a0.map Booking.enc)))), (10, .o (.c (.v (.int .i64 (a0.length : Int))))), (11, .o (.c (.v (.int .i64 s2))))], [(0, .row 55 2 (s1.map Trip.enc))]⟩
def impl_TripsOf_L1_S (a0 : (List Booking)) (a1 : Int) (s : (List Trip) × Int) : St := impl_TripsOf_L1_s a0 a1 s.1 s.2
def impl_TripsOf_L1_a (s3 : (List Trip)) : Option (List Trip) :=
  some s3
def impl_TripsOf_L1_k (x : ((List Trip)) ⊕ ((List Trip))) : Option (List Trip) := match x with
  | .inl t => impl_TripsOf_L1_a t
  | .inr y => some y
def impl_TripsOf (a0 : (List Booking)) (a1 : Int) : Option (List Trip) :=
  (loopM (impl_TripsOf_L1 a0 a1) big (([] : List Trip), 0)).bind (impl_TripsOf_L1_k)
theorem impl_TripsOf_ok (a0 : (List Booking)) (a1 : Int) (r : (List Trip)) (hM : impl_TripsOf a0 a1 = some r) :
    Con Try.prog 23 [.c (.rs 4 (a0.map Booking.enc)), .c (.v (.int .i64 a1))] [] (.o (.c (.sl 1000))) [] [(1000, .row 55 2 (r.map Trip.enc))] := by
  unfold impl_TripsOf at hM
  refine cn (N := 26) (pids := []) Try_mixed Try.func23 (by kernel_rfl) (by kernel_rfl) (by kernel_rfl) rfl fun ρ g w R => ?_
  have K1 : ∀ (s3 : (List Trip)), impl_TripsOf_L1_a s3 = some r → Gr R [.code (cAt Try.f23 [1, 1, 1])] (⟨[(5, .o (.c (.sl 0)))], [(0, .row 55 2 (s3.map Trip.enc))]⟩) := by
    intro s3 hM
    unfold impl_TripsOf_L1_a at hM
    have hE : some s3 = some r := hM
    have hE := Option.some.inj hE
    subst hE
    exact pr R 9999 [] [.sw 0 1000] [] [1000] True.intro (by kernel_rfl)
  refine pc R 9999 [.new 0, .ln (a0.length)] [.keep [1, 5, 9, 10, 11] [0]] (k' := [.code (.loop (cAt Try.f23 [1, 1, 0, 1, 0, 0])), .blk 0, .code (cAt Try.f23 [1, 1, 1])]) (S' := impl_TripsOf_L1_S a0 a1 (([] : List Trip), 0)) (And.intro (lenm Booking.enc a0) True.intro) (by kernel_rfl) ?_
  refine lq (impl_TripsOf_L1_S a0 a1) (body := impl_TripsOf_L1 a0 a1) (k := impl_TripsOf_L1_k) hM fun m1 s c1 hM hK1 => ?_
  obtain ⟨s1, s2⟩ := s
  have hM : impl_TripsOf_L1_b a0 a1 s1 s2 = some c1 := hM
  unfold impl_TripsOf_L1_b at hM
  rcases cond_cases hM with ⟨h4, hM⟩ | ⟨h4, hM⟩
  · obtain ⟨v5, h6, hM⟩ := bind_some hM
    rcases cond_cases hM with ⟨h7, hM⟩ | ⟨h7, hM⟩
    · obtain ⟨v8, h9, hM⟩ := bind_some hM
      have hE : some (Ctl.next (v8, w64 (s2 + 1))) = some c1 := hM
      have hE := Option.some.inj hE
      subst hE
      exact pc R 9999 [.as 12 true, .ix (Booking.enc v5), .new 1, .as 18 true, .new 2, .new 3, .nm (v8.map Trip.enc)] [.sw 3 0, .keep [1, 5, 9, 10, 11] [0]] (And.intro h4 (And.intro (gi_map Booking.enc h6) (And.intro h7 (And.intro (ap_ok Trip.enc h9) True.intro)))) (by kernel_rfl) (li (Sf := impl_TripsOf_L1_S a0 a1) (M := Mk (impl_TripsOf_L1 a0 a1) (impl_TripsOf_L1_k) r) (k := [.blk 0, .code (cAt Try.f23 [1, 1, 1])]) (Nat.lt_succ_self m1) hK1)
    · have hE : some (Ctl.next (s1, w64 (s2 + 1))) = some c1 := hM
      have hE := Option.some.inj hE
      subst hE
      exact pc R 9999 [.as 12 true, .ix (Booking.enc v5), .new 1, .as 18 false] [.keep [1, 5, 9, 10, 11] [0]] (And.intro h4 (And.intro (gi_map Booking.enc h6) (And.intro h7 True.intro))) (by kernel_rfl) (li (Sf := impl_TripsOf_L1_S a0 a1) (M := Mk (impl_TripsOf_L1 a0 a1) (impl_TripsOf_L1_k) r) (k := [.blk 0, .code (cAt Try.f23 [1, 1, 1])]) (Nat.lt_succ_self m1) hK1)
  · have hE : some (Ctl.brk s1) = some c1 := hM
    have hE := Option.some.inj hE
    subst hE
    exact pc R 5 [.as 12 false] [.keep [5] [0]] (And.intro h4 True.intro) (by kernel_rfl) (K1 s1 hK1)

-- loop.example/g03014/impl.IsPlace
def impl_IsPlace_L1_b (a0 : ByteArray) (s1 : Int) : Option (Ctl Int Unit Bool) :=
  bif (decide (s1 < (a0.size : Int))) then
  (siM a0 s1).bind fun v3 =>
  bif (decide (v3 < 65)) then
  some (.ret false)
  else
  (siM a0 s1).bind fun v6 =>
  bif (decide (v6 > 90)) then
  some (.ret false)
  else
  some (.next (w64 (s1 + 1)))
  else
  some (.brk ())
def impl_IsPlace_L1 (a0 : ByteArray) (s : Int) : Option (Ctl Int Unit Bool) := impl_IsPlace_L1_b a0 s
def impl_IsPlace_L1_s (a0 : ByteArray) (s1 : Int) : St := ⟨[(0, .o (.c (.v (.string a0)))), (3, .o (.c (.v (.int .i64 s1))))], []⟩
def impl_IsPlace_L1_S (a0 : ByteArray) (s : Int) : St := impl_IsPlace_L1_s a0 s
def impl_IsPlace_L1_a (a0 : ByteArray) : Option Bool :=
  some ((a0.size : Int) == 3)
def impl_IsPlace_L1_k (a0 : ByteArray) (x : (Unit) ⊕ (Bool)) : Option Bool := match x with
  | .inl t => impl_IsPlace_L1_a a0
  | .inr y => some y
def impl_IsPlace (a0 : ByteArray) : Option Bool :=
  (loopM (impl_IsPlace_L1 a0) big 0).bind (impl_IsPlace_L1_k a0)
theorem impl_IsPlace_ok (a0 : ByteArray) (r : Bool) (hM : impl_IsPlace a0 = some r) :
    Con Try.prog 111 [.c (.v (.string a0))] [] (.o (.c (.v (.bool r)))) [] [] := by
  unfold impl_IsPlace at hM
  refine cn (N := 23) (pids := []) Try_mixed Try.func111 (by kernel_rfl) (by kernel_rfl) (by kernel_rfl) rfl fun ρ g w R => ?_
  have K1 : ∀ (_ : Unit), impl_IsPlace_L1_a a0 = some r → Gr R [.code (cAt Try.f111 [1, 1])] (⟨[(0, .o (.c (.v (.string a0))))], []⟩) := by
    intro _ hM
    unfold impl_IsPlace_L1_a at hM
    have hE : some ((a0.size : Int) == 3) = some r := hM
    have hE := Option.some.inj hE
    subst hE
    exact pr R 9999 [] [] [] [] True.intro (by kernel_rfl)
  refine pc R 9999 [] [.keep [0, 3] []] (k' := [.code (.loop (cAt Try.f111 [1, 0, 1, 0, 0])), .blk 0, .code (cAt Try.f111 [1, 1])]) (S' := impl_IsPlace_L1_S a0 0) True.intro (by kernel_rfl) ?_
  refine lq (impl_IsPlace_L1_S a0) (body := impl_IsPlace_L1 a0) (k := impl_IsPlace_L1_k a0) hM fun m1 s c1 hM hK1 => ?_
  obtain ⟨s1, hs⟩ : ∃ z, z = s := ⟨_, rfl⟩
  subst hs
  have hM : impl_IsPlace_L1_b a0 s1 = some c1 := hM
  unfold impl_IsPlace_L1_b at hM
  rcases cond_cases hM with ⟨h2, hM⟩ | ⟨h2, hM⟩
  · obtain ⟨v3, h4, hM⟩ := bind_some hM
    rcases cond_cases hM with ⟨h5, hM⟩ | ⟨h5, hM⟩
    · have hE : some (Ctl.ret false) = some c1 := hM
      have hE := Option.some.inj hE
      subst hE
      have hE : some false = some r := hK1
      have hE := Option.some.inj hE
      subst hE
      exact pr R 9999 [.as 7 true, .ix [.int .u8 v3], .as 14 true] [] [] [] (And.intro h2 (And.intro (siM_ok h4) (And.intro h5 True.intro))) (by kernel_rfl)
    · obtain ⟨v6, h7, hM⟩ := bind_some hM
      rcases cond_cases hM with ⟨h8, hM⟩ | ⟨h8, hM⟩
      · have hE : some (Ctl.ret false) = some c1 := hM
        have hE := Option.some.inj hE
        subst hE
        have hE : some false = some r := hK1
        have hE := Option.some.inj hE
        subst hE
        exact pr R 9999 [.as 7 true, .ix [.int .u8 v3], .as 14 false, .ix [.int .u8 v6], .as 19 true] [] [] [] (And.intro h2 (And.intro (siM_ok h4) (And.intro h5 (And.intro (siM_ok h7) (And.intro h8 True.intro))))) (by kernel_rfl)
      · have hE : some (Ctl.next (w64 (s1 + 1))) = some c1 := hM
        have hE := Option.some.inj hE
        subst hE
        exact pc R 9999 [.as 7 true, .ix [.int .u8 v3], .as 14 false, .ix [.int .u8 v6], .as 19 false] [.keep [0, 3] []] (And.intro h2 (And.intro (siM_ok h4) (And.intro h5 (And.intro (siM_ok h7) (And.intro h8 True.intro))))) (by kernel_rfl) (li (Sf := impl_IsPlace_L1_S a0) (M := Mk (impl_IsPlace_L1 a0) (impl_IsPlace_L1_k a0) r) (k := [.blk 0, .code (cAt Try.f111 [1, 1])]) (Nat.lt_succ_self m1) hK1)
  · have hE : some (Ctl.brk ()) = some c1 := hM
    have hE := Option.some.inj hE
    subst hE
    exact pc R 5 [.as 7 false] [.keep [0] []] (And.intro h2 True.intro) (by kernel_rfl) (K1 () hK1)

-- loop.example/g03014/impl.within
def impl_within (a0 : Int) (a1 : Int) (a2 : Int) : Option Bool :=
  bif (decide (a1 ≤ a0)) then
  some (decide (a0 ≤ a2))
  else
  some false
theorem impl_within_ok (a0 : Int) (a1 : Int) (a2 : Int) (r : Bool) (hM : impl_within a0 a1 a2 = some r) :
    Con Try.prog 64 [.c (.v (.int .i64 a0)), .c (.v (.int .i64 a1)), .c (.v (.int .i64 a2))] [] (.o (.c (.v (.bool r)))) [] [] := by
  unfold impl_within at hM
  refine cn (N := 15) (pids := []) Try_mixed Try.func64 (by kernel_rfl) (by kernel_rfl) (by kernel_rfl) rfl fun ρ g w R => ?_
  rcases cond_cases hM with ⟨h1, hM⟩ | ⟨h1, hM⟩
  · have hE : some (decide (a0 ≤ a2)) = some r := hM
    have hE := Option.some.inj hE
    subst hE
    exact pr R 9999 [.as 10 true] [] [] [] (And.intro h1 True.intro) (by kernel_rfl)
  · have hE : some false = some r := hM
    have hE := Option.some.inj hE
    subst hE
    exact pr R 9999 [.as 10 false] [] [] [] (And.intro h1 True.intro) (by kernel_rfl)

-- loop.example/g03014/impl.IsLeg
def impl_IsLeg (a0 : Leg) : Option Bool :=
  (impl_IsPlace a0.From).bind fun v1 =>
  bif v1 then
  (impl_IsPlace a0.To).bind fun v4 =>
  bif v4 then
  bif (!(a0.From.toList == a0.To.toList)) then
  (impl_within a0.Start 0 1439).bind fun v8 =>
  bif v8 then
  (impl_within a0.Takes 1 4320).bind fun v11 =>
  bif v11 then
  (impl_within a0.Days 1 127).bind fun v14 =>
  bif v14 then
  (impl_within a0.Room 0 1000000).bind fun v17 =>
  some v17
  else
  some false
  else
  some false
  else
  some false
  else
  some false
  else
  some false
  else
  some false
theorem impl_IsLeg_ok (a0 : Leg) (r : Bool) (hM : impl_IsLeg a0 = some r) :
    Con Try.prog 88 [.c (.v (.agg (Leg.enc a0).toArray))] [] (.o (.c (.v (.bool r)))) [] [] := by
  unfold impl_IsLeg at hM
  refine cn (N := 38) (pids := []) Try_mixed Try.func88 (by kernel_rfl) (by kernel_rfl) (by kernel_rfl) rfl fun ρ g w R => ?_
  obtain ⟨v1, h2, hM⟩ := bind_some hM
  rcases cond_cases hM with ⟨h3, hM⟩ | ⟨h3, hM⟩
  · obtain ⟨v4, h5, hM⟩ := bind_some hM
    rcases cond_cases hM with ⟨h6, hM⟩ | ⟨h6, hM⟩
    · rcases cond_cases hM with ⟨h7, hM⟩ | ⟨h7, hM⟩
      · obtain ⟨v8, h9, hM⟩ := bind_some hM
        rcases cond_cases hM with ⟨h10, hM⟩ | ⟨h10, hM⟩
        · obtain ⟨v11, h12, hM⟩ := bind_some hM
          rcases cond_cases hM with ⟨h13, hM⟩ | ⟨h13, hM⟩
          · obtain ⟨v14, h15, hM⟩ := bind_some hM
            rcases cond_cases hM with ⟨h16, hM⟩ | ⟨h16, hM⟩
            · obtain ⟨v17, h18, hM⟩ := bind_some hM
              have hE : some v17 = some r := hM
              have hE := Option.some.inj hE
              subst hE
              exact pr R 9999 [.new 0, .call false [] (.o (.c (.v (.bool v1)))) [] [], .as 6 true, .call false [] (.o (.c (.v (.bool v4)))) [] [], .as 11 true, .as 18 true, .call false [] (.o (.c (.v (.bool v8)))) [] [], .as 23 true, .call false [] (.o (.c (.v (.bool v11)))) [] [], .as 28 true, .call false [] (.o (.c (.v (.bool v14)))) [] [], .as 33 true, .call false [] (.o (.c (.v (.bool v17)))) [] []] [] [] [] (And.intro (impl_IsPlace_ok a0.From v1 h2) (And.intro h3 (And.intro (impl_IsPlace_ok a0.To v4 h5) (And.intro h6 (And.intro h7 (And.intro (impl_within_ok a0.Start 0 1439 v8 h9) (And.intro h10 (And.intro (impl_within_ok a0.Takes 1 4320 v11 h12) (And.intro h13 (And.intro (impl_within_ok a0.Days 1 127 v14 h15) (And.intro h16 (And.intro (impl_within_ok a0.Room 0 1000000 v17 h18) True.intro)))))))))))) (by kernel_rfl)
            · have hE : some false = some r := hM
              have hE := Option.some.inj hE
              subst hE
              exact pr R 9999 [.new 0, .call false [] (.o (.c (.v (.bool v1)))) [] [], .as 6 true, .call false [] (.o (.c (.v (.bool v4)))) [] [], .as 11 true, .as 18 true, .call false [] (.o (.c (.v (.bool v8)))) [] [], .as 23 true, .call false [] (.o (.c (.v (.bool v11)))) [] [], .as 28 true, .call false [] (.o (.c (.v (.bool v14)))) [] [], .as 33 false] [] [] [] (And.intro (impl_IsPlace_ok a0.From v1 h2) (And.intro h3 (And.intro (impl_IsPlace_ok a0.To v4 h5) (And.intro h6 (And.intro h7 (And.intro (impl_within_ok a0.Start 0 1439 v8 h9) (And.intro h10 (And.intro (impl_within_ok a0.Takes 1 4320 v11 h12) (And.intro h13 (And.intro (impl_within_ok a0.Days 1 127 v14 h15) (And.intro h16 True.intro))))))))))) (by kernel_rfl)
          · have hE : some false = some r := hM
            have hE := Option.some.inj hE
            subst hE
            exact pr R 9999 [.new 0, .call false [] (.o (.c (.v (.bool v1)))) [] [], .as 6 true, .call false [] (.o (.c (.v (.bool v4)))) [] [], .as 11 true, .as 18 true, .call false [] (.o (.c (.v (.bool v8)))) [] [], .as 23 true, .call false [] (.o (.c (.v (.bool v11)))) [] [], .as 28 false] [] [] [] (And.intro (impl_IsPlace_ok a0.From v1 h2) (And.intro h3 (And.intro (impl_IsPlace_ok a0.To v4 h5) (And.intro h6 (And.intro h7 (And.intro (impl_within_ok a0.Start 0 1439 v8 h9) (And.intro h10 (And.intro (impl_within_ok a0.Takes 1 4320 v11 h12) (And.intro h13 True.intro))))))))) (by kernel_rfl)
        · have hE : some false = some r := hM
          have hE := Option.some.inj hE
          subst hE
          exact pr R 9999 [.new 0, .call false [] (.o (.c (.v (.bool v1)))) [] [], .as 6 true, .call false [] (.o (.c (.v (.bool v4)))) [] [], .as 11 true, .as 18 true, .call false [] (.o (.c (.v (.bool v8)))) [] [], .as 23 false] [] [] [] (And.intro (impl_IsPlace_ok a0.From v1 h2) (And.intro h3 (And.intro (impl_IsPlace_ok a0.To v4 h5) (And.intro h6 (And.intro h7 (And.intro (impl_within_ok a0.Start 0 1439 v8 h9) (And.intro h10 True.intro))))))) (by kernel_rfl)
      · have hE : some false = some r := hM
        have hE := Option.some.inj hE
        subst hE
        exact pr R 9999 [.new 0, .call false [] (.o (.c (.v (.bool v1)))) [] [], .as 6 true, .call false [] (.o (.c (.v (.bool v4)))) [] [], .as 11 true, .as 18 false] [] [] [] (And.intro (impl_IsPlace_ok a0.From v1 h2) (And.intro h3 (And.intro (impl_IsPlace_ok a0.To v4 h5) (And.intro h6 (And.intro h7 True.intro))))) (by kernel_rfl)
    · have hE : some false = some r := hM
      have hE := Option.some.inj hE
      subst hE
      exact pr R 9999 [.new 0, .call false [] (.o (.c (.v (.bool v1)))) [] [], .as 6 true, .call false [] (.o (.c (.v (.bool v4)))) [] [], .as 11 false] [] [] [] (And.intro (impl_IsPlace_ok a0.From v1 h2) (And.intro h3 (And.intro (impl_IsPlace_ok a0.To v4 h5) (And.intro h6 True.intro)))) (by kernel_rfl)
  · have hE : some false = some r := hM
    have hE := Option.some.inj hE
    subst hE
    exact pr R 9999 [.new 0, .call false [] (.o (.c (.v (.bool v1)))) [] [], .as 6 false] [] [] [] (And.intro (impl_IsPlace_ok a0.From v1 h2) (And.intro h3 True.intro)) (by kernel_rfl)

-- loop.example/g03014/impl.IsNetwork
def impl_IsNetwork_L2_b (a0 : Network) (s2 : Int) : Option (Ctl Int Unit Bool) :=
  bif (decide (s2 < (a0.Off.length : Int))) then
  (gi a0.Off s2).bind fun v8 =>
  (impl_within v8 0 60).bind fun v10 =>
  bif (!v10) then
  some (.ret false)
  else
  bif (decide (s2 > 0)) then
  (gi a0.Off (w64 (s2 - 1))).bind fun v14 =>
  bif (decide (v14 ≥ v8)) then
  some (.ret false)
  else
  some (.next (w64 (s2 + 1)))
  else
  some (.next (w64 (s2 + 1)))
  else
  some (.brk ())
def impl_IsNetwork_L2 (a0 : Network) (s : Int) : Option (Ctl Int Unit Bool) := impl_IsNetwork_L2_b a0 s
def impl_IsNetwork_L2_s (a0 : Network) (s2 : Int) : St := ⟨[(1, .o (.c (.ptr 0 0))), (19, .o (.c (.rs 1 (a0.Off.map encI)))), (20, .o (.c (.v (.int .i64 (a0.Off.length : Int))))), (21, .o (.c (.v (.int .i64 s2))))], [(0, .box 36 [.rs 6 (a0.Legs.map Leg.enc), .rs 1 (a0.Off.map encI), .v (.int .i64 a0.Change)])]⟩
def impl_IsNetwork_L2_S (a0 : Network) (s : Int) : St := impl_IsNetwork_L2_s a0 s
def impl_IsNetwork_L2_a (a0 : Network) : Option Bool :=
  bif (decide ((a0.Legs.length : Int) ≤ 20)) then
  bif (decide ((a0.Off.length : Int) ≤ 10)) then
  (impl_within a0.Change 0 240).bind fun v5 =>
  some v5
  else
  some false
  else
  some false
def impl_IsNetwork_L2_k (a0 : Network) (x : (Unit) ⊕ (Bool)) : Option Bool := match x with
  | .inl t => impl_IsNetwork_L2_a a0
  | .inr y => some y
def impl_IsNetwork_L1_b (a0 : Network) (s1 : Int) : Option (Ctl Int Unit Bool) :=
  bif (decide (s1 < (a0.Legs.length : Int))) then
  (gi a0.Legs s1).bind fun v18 =>
  (impl_IsLeg v18).bind fun v20 =>
  bif (!v20) then
  some (.ret false)
  else
  some (.next (w64 (s1 + 1)))
  else
  some (.brk ())
def impl_IsNetwork_L1 (a0 : Network) (s : Int) : Option (Ctl Int Unit Bool) := impl_IsNetwork_L1_b a0 s
def impl_IsNetwork_L1_s (a0 : Network) (s1 : Int) : St := ⟨[(1, .o (.c (.ptr 0 0))), (8, .o (.c (.rs 6 (a0.Legs.map Leg.enc)))), (9, .o (.c (.v (.int .i64 (a0.Legs.length : Int))))), (10, .o (.c (.v (.int .i64 s1))))], [(0, .box 36 [.rs 6 (a0.Legs.map Leg.enc), .rs 1 (a0.Off.map encI), .v (.int .i64 a0.Change)])]⟩
def impl_IsNetwork_L1_S (a0 : Network) (s : Int) : St := impl_IsNetwork_L1_s a0 s
def impl_IsNetwork_L1_a (a0 : Network) : Option Bool :=
  (loopM (impl_IsNetwork_L2 a0) big 0).bind (impl_IsNetwork_L2_k a0)
def impl_IsNetwork_L1_k (a0 : Network) (x : (Unit) ⊕ (Bool)) : Option Bool := match x with
  | .inl t => impl_IsNetwork_L1_a a0
  | .inr y => some y
def impl_IsNetwork (a0 : Network) : Option Bool :=
  (loopM (impl_IsNetwork_L1 a0) big 0).bind (impl_IsNetwork_L1_k a0)
theorem impl_IsNetwork_ok (a0 : Network) (r : Bool) (hM : impl_IsNetwork a0 = some r) :
    Con Try.prog 63 [.agg [.rs 6 (a0.Legs.map Leg.enc), .rs 1 (a0.Off.map encI), .v (.int .i64 a0.Change)]] [] (.o (.c (.v (.bool r)))) [] [] := by
  unfold impl_IsNetwork at hM
  refine cn (N := 59) (pids := []) Try_mixed Try.func63 (by kernel_rfl) (by kernel_rfl) (by kernel_rfl) rfl fun ρ g w R => ?_
  have K1 : ∀ (_ : Unit), impl_IsNetwork_L1_a a0 = some r → Gr R [.code (cAt Try.f63 [1, 1])] (⟨[(1, .o (.c (.ptr 0 0)))], [(0, .box 36 [.rs 6 (a0.Legs.map Leg.enc), .rs 1 (a0.Off.map encI), .v (.int .i64 a0.Change)])]⟩) := by
    intro _ hM
    unfold impl_IsNetwork_L1_a at hM
    have K2 : ∀ (_ : Unit), impl_IsNetwork_L2_a a0 = some r → Gr R [.code (cAt Try.f63 [1, 1, 1])] (⟨[(1, .o (.c (.ptr 0 0)))], [(0, .box 36 [.rs 6 (a0.Legs.map Leg.enc), .rs 1 (a0.Off.map encI), .v (.int .i64 a0.Change)])]⟩) := by
      intro _ hM
      unfold impl_IsNetwork_L2_a at hM
      rcases cond_cases hM with ⟨h3, hM⟩ | ⟨h3, hM⟩
      · rcases cond_cases hM with ⟨h4, hM⟩ | ⟨h4, hM⟩
        · obtain ⟨v5, h6, hM⟩ := bind_some hM
          have hE : some v5 = some r := hM
          have hE := Option.some.inj hE
          subst hE
          exact pr R 9999 [.ln (a0.Legs.length), .as 48 true, .ln (a0.Off.length), .as 54 true, .call false [] (.o (.c (.v (.bool v5)))) [] []] [] [] [] (And.intro (lenm Leg.enc a0.Legs) (And.intro h3 (And.intro (lenm encI a0.Off) (And.intro h4 (And.intro (impl_within_ok a0.Change 0 240 v5 h6) True.intro))))) (by kernel_rfl)
        · have hE : some false = some r := hM
          have hE := Option.some.inj hE
          subst hE
          exact pr R 9999 [.ln (a0.Legs.length), .as 48 true, .ln (a0.Off.length), .as 54 false] [] [] [] (And.intro (lenm Leg.enc a0.Legs) (And.intro h3 (And.intro (lenm encI a0.Off) (And.intro h4 True.intro)))) (by kernel_rfl)
      · have hE : some false = some r := hM
        have hE := Option.some.inj hE
        subst hE
        exact pr R 9999 [.ln (a0.Legs.length), .as 48 false] [] [] [] (And.intro (lenm Leg.enc a0.Legs) (And.intro h3 True.intro)) (by kernel_rfl)
    refine pc R 9999 [.ln (a0.Off.length)] [.keep [1, 19, 20, 21] [0]] (k' := [.code (.loop (cAt Try.f63 [1, 1, 0, 1, 0, 0])), .blk 2, .code (cAt Try.f63 [1, 1, 1])]) (S' := impl_IsNetwork_L2_S a0 0) (And.intro (lenm encI a0.Off) True.intro) (by kernel_rfl) ?_
    refine lq (impl_IsNetwork_L2_S a0) (body := impl_IsNetwork_L2 a0) (k := impl_IsNetwork_L2_k a0) hM fun m2 s c2 hM hK2 => ?_
    obtain ⟨s2, hs⟩ : ∃ z, z = s := ⟨_, rfl⟩
    subst hs
    have hM : impl_IsNetwork_L2_b a0 s2 = some c2 := hM
    unfold impl_IsNetwork_L2_b at hM
    rcases cond_cases hM with ⟨h7, hM⟩ | ⟨h7, hM⟩
    · obtain ⟨v8, h9, hM⟩ := bind_some hM
      obtain ⟨v10, h11, hM⟩ := bind_some hM
      rcases cond_cases hM with ⟨h12, hM⟩ | ⟨h12, hM⟩
      · have hE : some (Ctl.ret false) = some c2 := hM
        have hE := Option.some.inj hE
        subst hE
        have hE : some false = some r := hK2
        have hE := Option.some.inj hE
        subst hE
        exact pr R 9999 [.as 22 true, .ix (encI v8), .call false [] (.o (.c (.v (.bool v10)))) [] [], .as 29 true] [] [] [] (And.intro h7 (And.intro (gi_map encI h9) (And.intro (impl_within_ok v8 0 60 v10 h11) (And.intro h12 True.intro)))) (by kernel_rfl)
      · rcases cond_cases hM with ⟨h13, hM⟩ | ⟨h13, hM⟩
        · obtain ⟨v14, h15, hM⟩ := bind_some hM
          rcases cond_cases hM with ⟨h16, hM⟩ | ⟨h16, hM⟩
          · have hE : some (Ctl.ret false) = some c2 := hM
            have hE := Option.some.inj hE
            subst hE
            have hE : some false = some r := hK2
            have hE := Option.some.inj hE
            subst hE
            exact pr R 9999 [.as 22 true, .ix (encI v8), .call false [] (.o (.c (.v (.bool v10)))) [] [], .as 29 false, .as 32 true, .ix (encI v14), .as 42 true] [] [] [] (And.intro h7 (And.intro (gi_map encI h9) (And.intro (impl_within_ok v8 0 60 v10 h11) (And.intro h12 (And.intro h13 (And.intro (gi_map encI h15) (And.intro h16 True.intro))))))) (by kernel_rfl)
          · have hE : some (Ctl.next (w64 (s2 + 1))) = some c2 := hM
            have hE := Option.some.inj hE
            subst hE
            exact pc R 9999 [.as 22 true, .ix (encI v8), .call false [] (.o (.c (.v (.bool v10)))) [] [], .as 29 false, .as 32 true, .ix (encI v14), .as 42 false] [.keep [1, 19, 20, 21] [0]] (And.intro h7 (And.intro (gi_map encI h9) (And.intro (impl_within_ok v8 0 60 v10 h11) (And.intro h12 (And.intro h13 (And.intro (gi_map encI h15) (And.intro h16 True.intro))))))) (by kernel_rfl) (li (Sf := impl_IsNetwork_L2_S a0) (M := Mk (impl_IsNetwork_L2 a0) (impl_IsNetwork_L2_k a0) r) (k := [.blk 2, .code (cAt Try.f63 [1, 1, 1])]) (Nat.lt_succ_self m2) hK2)
        · have hE : some (Ctl.next (w64 (s2 + 1))) = some c2 := hM
          have hE := Option.some.inj hE
          subst hE
          exact pc R 9999 [.as 22 true, .ix (encI v8), .call false [] (.o (.c (.v (.bool v10)))) [] [], .as 29 false, .as 32 false] [.keep [1, 19, 20, 21] [0]] (And.intro h7 (And.intro (gi_map encI h9) (And.intro (impl_within_ok v8 0 60 v10 h11) (And.intro h12 (And.intro h13 True.intro))))) (by kernel_rfl) (li (Sf := impl_IsNetwork_L2_S a0) (M := Mk (impl_IsNetwork_L2 a0) (impl_IsNetwork_L2_k a0) r) (k := [.blk 2, .code (cAt Try.f63 [1, 1, 1])]) (Nat.lt_succ_self m2) hK2)
    · have hE : some (Ctl.brk ()) = some c2 := hM
      have hE := Option.some.inj hE
      subst hE
      exact pc R 5 [.as 22 false] [.keep [1] [0]] (And.intro h7 True.intro) (by kernel_rfl) (K2 () hK2)
  refine pc R 9999 [.new 0, .ln (a0.Legs.length)] [.keep [1, 8, 9, 10] [0]] (k' := [.code (.loop (cAt Try.f63 [1, 0, 1, 0, 0])), .blk 0, .code (cAt Try.f63 [1, 1])]) (S' := impl_IsNetwork_L1_S a0 0) (And.intro (lenm Leg.enc a0.Legs) True.intro) (by kernel_rfl) ?_
  refine lq (impl_IsNetwork_L1_S a0) (body := impl_IsNetwork_L1 a0) (k := impl_IsNetwork_L1_k a0) hM fun m1 s c1 hM hK1 => ?_
  obtain ⟨s1, hs⟩ : ∃ z, z = s := ⟨_, rfl⟩
  subst hs
  have hM : impl_IsNetwork_L1_b a0 s1 = some c1 := hM
  unfold impl_IsNetwork_L1_b at hM
  rcases cond_cases hM with ⟨h17, hM⟩ | ⟨h17, hM⟩
  · obtain ⟨v18, h19, hM⟩ := bind_some hM
    obtain ⟨v20, h21, hM⟩ := bind_some hM
    rcases cond_cases hM with ⟨h22, hM⟩ | ⟨h22, hM⟩
    · have hE : some (Ctl.ret false) = some c1 := hM
      have hE := Option.some.inj hE
      subst hE
      have hE : some false = some r := hK1
      have hE := Option.some.inj hE
      subst hE
      exact pr R 9999 [.as 11 true, .ix (Leg.enc v18), .new 1, .call false [] (.o (.c (.v (.bool v20)))) [] [], .as 16 true] [] [] [] (And.intro h17 (And.intro (gi_map Leg.enc h19) (And.intro (impl_IsLeg_ok v18 v20 h21) (And.intro h22 True.intro)))) (by kernel_rfl)
    · have hE : some (Ctl.next (w64 (s1 + 1))) = some c1 := hM
      have hE := Option.some.inj hE
      subst hE
      exact pc R 9999 [.as 11 true, .ix (Leg.enc v18), .new 1, .call false [] (.o (.c (.v (.bool v20)))) [] [], .as 16 false] [.keep [1, 8, 9, 10] [0]] (And.intro h17 (And.intro (gi_map Leg.enc h19) (And.intro (impl_IsLeg_ok v18 v20 h21) (And.intro h22 True.intro)))) (by kernel_rfl) (li (Sf := impl_IsNetwork_L1_S a0) (M := Mk (impl_IsNetwork_L1 a0) (impl_IsNetwork_L1_k a0) r) (k := [.blk 0, .code (cAt Try.f63 [1, 1])]) (Nat.lt_succ_self m1) hK1)
  · have hE : some (Ctl.brk ()) = some c1 := hM
    have hE := Option.some.inj hE
    subst hE
    exact pc R 5 [.as 11 false] [.keep [1] [0]] (And.intro h17 True.intro) (by kernel_rfl) (K1 () hK1)

-- loop.example/g03014/impl.compareInts
def impl_compareInts (a0 : Int) (a1 : Int) : Option Int :=
  bif (decide (a0 < a1)) then
  some (-1)
  else
  bif (decide (a0 > a1)) then
  some 1
  else
  some 0
theorem impl_compareInts_ok (a0 : Int) (a1 : Int) (r : Int) (hM : impl_compareInts a0 a1 = some r) :
    Con Try.prog 77 [.c (.v (.int .i64 a0)), .c (.v (.int .i64 a1))] [] (.o (.c (.v (.int .i64 r)))) [] [] := by
  unfold impl_compareInts at hM
  refine cn (N := 13) (pids := []) Try_mixed Try.func77 (by kernel_rfl) (by kernel_rfl) (by kernel_rfl) rfl fun ρ g w R => ?_
  rcases cond_cases hM with ⟨h1, hM⟩ | ⟨h1, hM⟩
  · have hE : some (-1) = some r := hM
    have hE := Option.some.inj hE
    subst hE
    exact pr R 9999 [.as 5 true] [] [] [] (And.intro h1 True.intro) (by kernel_rfl)
  · rcases cond_cases hM with ⟨h2, hM⟩ | ⟨h2, hM⟩
    · have hE : some 1 = some r := hM
      have hE := Option.some.inj hE
      subst hE
      exact pr R 9999 [.as 5 false, .as 9 true] [] [] [] (And.intro h1 (And.intro h2 True.intro)) (by kernel_rfl)
    · have hE : some 0 = some r := hM
      have hE := Option.some.inj hE
      subst hE
      exact pr R 9999 [.as 5 false, .as 9 false] [] [] [] (And.intro h1 (And.intro h2 True.intro)) (by kernel_rfl)

-- loop.example/g03014/impl.first
def impl_first_L1_b (a0 : (List Int)) (s1 : Int) : Option (Ctl Int Unit Int) :=
  bif (decide (s1 < (a0.length : Int))) then
  (gi a0 s1).bind fun v3 =>
  bif (v3 != 0) then
  some (.ret v3)
  else
  some (.next (w64 (s1 + 1)))
  else
  some (.brk ())
def impl_first_L1 (a0 : (List Int)) (s : Int) : Option (Ctl Int Unit Int) := impl_first_L1_b a0 s
def impl_first_L1_s (a0 : (List Int)) (s1 : Int) : St := ⟨[(5, .o (.c (.rs 1 (a0.map encI)))), (6, .o (.c (.v (.int .i64 (a0.length : Int))))), (7, .o (.c (.v (.int .i64 s1))))], []⟩
def impl_first_L1_S (a0 : (List Int)) (s : Int) : St := impl_first_L1_s a0 s
def impl_first_L1_a : Option Int :=
  some 0
def impl_first_L1_k (x : (Unit) ⊕ (Int)) : Option Int := match x with
  | .inl t => impl_first_L1_a
  | .inr y => some y
def impl_first (a0 : (List Int)) : Option Int :=
  (loopM (impl_first_L1 a0) big 0).bind (impl_first_L1_k)
theorem impl_first_ok (a0 : (List Int)) (r : Int) (hM : impl_first a0 = some r) :
    Con Try.prog 76 [.c (.rs 1 (a0.map encI))] [] (.o (.c (.v (.int .i64 r)))) [] [] := by
  unfold impl_first at hM
  refine cn (N := 15) (pids := []) Try_mixed Try.func76 (by kernel_rfl) (by kernel_rfl) (by kernel_rfl) rfl fun ρ g w R => ?_
  have K1 : ∀ (_ : Unit), impl_first_L1_a = some r → Gr R [.code (cAt Try.f76 [1, 1])] (⟨[], []⟩) := by
    intro _ hM
    unfold impl_first_L1_a at hM
    have hE : some 0 = some r := hM
    have hE := Option.some.inj hE
    subst hE
    exact pr R 9999 [] [] [] [] True.intro (by kernel_rfl)
  refine pc R 9999 [.ln (a0.length)] [.keep [5, 6, 7] []] (k' := [.code (.loop (cAt Try.f76 [1, 0, 1, 0, 0])), .blk 0, .code (cAt Try.f76 [1, 1])]) (S' := impl_first_L1_S a0 0) (And.intro (lenm encI a0) True.intro) (by kernel_rfl) ?_
  refine lq (impl_first_L1_S a0) (body := impl_first_L1 a0) (k := impl_first_L1_k) hM fun m1 s c1 hM hK1 => ?_
  obtain ⟨s1, hs⟩ : ∃ z, z = s := ⟨_, rfl⟩
  subst hs
  have hM : impl_first_L1_b a0 s1 = some c1 := hM
  unfold impl_first_L1_b at hM
  rcases cond_cases hM with ⟨h2, hM⟩ | ⟨h2, hM⟩
  · obtain ⟨v3, h4, hM⟩ := bind_some hM
    rcases cond_cases hM with ⟨h5, hM⟩ | ⟨h5, hM⟩
    · have hE : some (Ctl.ret v3) = some c1 := hM
      have hE := Option.some.inj hE
      subst hE
      have hE : some v3 = some r := hK1
      have hE := Option.some.inj hE
      subst hE
      exact pr R 9999 [.as 8 true, .ix (encI v3), .as 12 true] [] [] [] (And.intro h2 (And.intro (gi_map encI h4) (And.intro h5 True.intro))) (by kernel_rfl)
    · have hE : some (Ctl.next (w64 (s1 + 1))) = some c1 := hM
      have hE := Option.some.inj hE
      subst hE
      exact pc R 9999 [.as 8 true, .ix (encI v3), .as 12 false] [.keep [5, 6, 7] []] (And.intro h2 (And.intro (gi_map encI h4) (And.intro h5 True.intro))) (by kernel_rfl) (li (Sf := impl_first_L1_S a0) (M := Mk (impl_first_L1 a0) (impl_first_L1_k) r) (k := [.blk 0, .code (cAt Try.f76 [1, 1])]) (Nat.lt_succ_self m1) hK1)
  · have hE : some (Ctl.brk ()) = some c1 := hM
    have hE := Option.some.inj hE
    subst hE
    exact pc R 5 [.as 8 false] [.keep [] []] (And.intro h2 True.intro) (by kernel_rfl) (K1 () hK1)

-- loop.example/g03014/impl.compareBookings
def impl_compareBookings (a0 : Booking) (a1 : Booking) : Option Int :=
  (impl_compareInts a0.Trip.Day a1.Trip.Day).bind fun v1 =>
  (impl_compareInts a0.Trip.Leg a1.Trip.Leg).bind fun v3 =>
  (impl_compareInts a0.Thing a1.Thing).bind fun v5 =>
  (impl_first ([v1, v3, v5] : List Int)).bind fun v7 =>
  some v7
theorem impl_compareBookings_ok (a0 : Booking) (a1 : Booking) (r : Int) (hM : impl_compareBookings a0 a1 = some r) :
    Con Try.prog 42 [.c (.v (.agg (Booking.enc a0).toArray)), .c (.v (.agg (Booking.enc a1).toArray))] [] (.o (.c (.v (.int .i64 r)))) [] [] := by
  unfold impl_compareBookings at hM
  refine cn (N := 26) (pids := []) Try_mixed Try.func42 (by kernel_rfl) (by kernel_rfl) (by kernel_rfl) rfl fun ρ g w R => ?_
  obtain ⟨v1, h2, hM⟩ := bind_some hM
  obtain ⟨v3, h4, hM⟩ := bind_some hM
  obtain ⟨v5, h6, hM⟩ := bind_some hM
  obtain ⟨v7, h8, hM⟩ := bind_some hM
  have hE : some v7 = some r := hM
  have hE := Option.some.inj hE
  subst hE
  exact pr R 9999 [.new 0, .new 1, .call false [] (.o (.c (.v (.int .i64 v1)))) [] [], .call false [] (.o (.c (.v (.int .i64 v3)))) [] [], .call false [] (.o (.c (.v (.int .i64 v5)))) [] [], .new 2, .call false [] (.o (.c (.v (.int .i64 v7)))) [] []] [] [] [] (And.intro (impl_compareInts_ok a0.Trip.Day a1.Trip.Day v1 h2) (And.intro (impl_compareInts_ok a0.Trip.Leg a1.Trip.Leg v3 h4) (And.intro (impl_compareInts_ok a0.Thing a1.Thing v5 h6) (And.intro (impl_first_ok ([v1, v3, v5] : List Int) v7 h8) True.intro)))) (by kernel_rfl)

-- loop.example/g03014/impl.runs
def impl_runs_L1_b (a0 : Network) (a2 : Int) (s11 : Int) : Option (Ctl Int Unit Bool) :=
  bif (decide (s11 < (a0.Off.length : Int))) then
  (gi a0.Off s11).bind fun v13 =>
  bif (v13 == a2) then
  some (.ret false)
  else
  some (.next (w64 (s11 + 1)))
  else
  some (.brk ())
def impl_runs_L1 (a0 : Network) (a2 : Int) (s : Int) : Option (Ctl Int Unit Bool) := impl_runs_L1_b a0 a2 s
def impl_runs_L1_s (a0 : Network) (a2 : Int) (s11 : Int) : St := ⟨[(2, .o (.c (.v (.int .i64 a2)))), (37, .o (.c (.rs 1 (a0.Off.map encI)))), (38, .o (.c (.v (.int .i64 (a0.Off.length : Int))))), (39, .o (.c (.v (.int .i64 s11))))], []⟩
def impl_runs_L1_S (a0 : Network) (a2 : Int) (s : Int) : St := impl_runs_L1_s a0 a2 s
def impl_runs_L1_a : Option Bool :=
  some true
def impl_runs_L1_k (x : (Unit) ⊕ (Bool)) : Option Bool := match x with
  | .inl t => impl_runs_L1_a
  | .inr y => some y
def impl_runs (a0 : Network) (a1 : Int) (a2 : Int) : Option Bool :=
  bif (decide (a1 < 0)) then
  some false
  else
  bif (decide (a1 ≥ (a0.Legs.length : Int))) then
  some false
  else
  (impl_within a2 0 60).bind fun v3 =>
  bif (!v3) then
  some false
  else
  (gi a0.Legs a1).bind fun v6 =>
  (shrM v6.Days (Int.tmod a2 7)).bind fun v8 =>
  bif ((w64 ((BitVec.ofInt 64 v8 &&& BitVec.ofInt 64 1).toNat)) == 0) then
  some false
  else
  (loopM (impl_runs_L1 a0 a2) big 0).bind (impl_runs_L1_k)
theorem impl_runs_ok (a0 : Network) (a1 : Int) (a2 : Int) (r : Bool) (hM : impl_runs a0 a1 a2 = some r) :
    Con Try.prog 110 [.agg [.rs 6 (a0.Legs.map Leg.enc), .rs 1 (a0.Off.map encI), .v (.int .i64 a0.Change)], .c (.v (.int .i64 a1)), .c (.v (.int .i64 a2))] [] (.o (.c (.v (.bool r)))) [] [] := by
  unfold impl_runs at hM
  refine cn (N := 47) (pids := []) Try_mixed Try.func110 (by kernel_rfl) (by kernel_rfl) (by kernel_rfl) rfl fun ρ g w R => ?_
  rcases cond_cases hM with ⟨h1, hM⟩ | ⟨h1, hM⟩
  · have hE : some false = some r := hM
    have hE := Option.some.inj hE
    subst hE
    exact pr R 9999 [.new 0, .as 11 true] [] [] [] (And.intro h1 True.intro) (by kernel_rfl)
  · rcases cond_cases hM with ⟨h2, hM⟩ | ⟨h2, hM⟩
    · have hE : some false = some r := hM
      have hE := Option.some.inj hE
      subst hE
      exact pr R 9999 [.new 0, .as 11 false, .ln (a0.Legs.length), .as 18 true] [] [] [] (And.intro h1 (And.intro (lenm Leg.enc a0.Legs) (And.intro h2 True.intro))) (by kernel_rfl)
    · obtain ⟨v3, h4, hM⟩ := bind_some hM
      rcases cond_cases hM with ⟨h5, hM⟩ | ⟨h5, hM⟩
      · have hE : some false = some r := hM
        have hE := Option.some.inj hE
        subst hE
        exact pr R 9999 [.new 0, .as 11 false, .ln (a0.Legs.length), .as 18 false, .call false [] (.o (.c (.v (.bool v3)))) [] [], .as 23 true] [] [] [] (And.intro h1 (And.intro (lenm Leg.enc a0.Legs) (And.intro h2 (And.intro (impl_within_ok a2 0 60 v3 h4) (And.intro h5 True.intro))))) (by kernel_rfl)
      · obtain ⟨v6, h7, hM⟩ := bind_some hM
        obtain ⟨v8, h9, hM⟩ := bind_some hM
        rcases cond_cases hM with ⟨h10, hM⟩ | ⟨h10, hM⟩
        · have hE : some false = some r := hM
          have hE := Option.some.inj hE
          subst hE
          exact pr R 9999 [.new 0, .as 11 false, .ln (a0.Legs.length), .as 18 false, .call false [] (.o (.c (.v (.bool v3)))) [] [], .as 23 false, .ix (Leg.enc v6), .run 32 (.int .i64 v8), .as 35 true] [] [] [] (And.intro h1 (And.intro (lenm Leg.enc a0.Legs) (And.intro h2 (And.intro (impl_within_ok a2 0 60 v3 h4) (And.intro h5 (And.intro (gi_map Leg.enc h7) (And.intro (shrM_run (P := Try.prog) (t := 3) (x := .tmp 0) (y := .tmp 0) h9) (And.intro h10 True.intro)))))))) (by kernel_rfl)
        · have K1 : ∀ (_ : Unit), impl_runs_L1_a = some r → Gr R [.code (cAt Try.f110 [1, 1, 1])] (⟨[], []⟩) := by
            intro _ hM
            unfold impl_runs_L1_a at hM
            have hE : some true = some r := hM
            have hE := Option.some.inj hE
            subst hE
            exact pr R 9999 [] [] [] [] True.intro (by kernel_rfl)
          refine pc R 9999 [.new 0, .as 11 false, .ln (a0.Legs.length), .as 18 false, .call false [] (.o (.c (.v (.bool v3)))) [] [], .as 23 false, .ix (Leg.enc v6), .run 32 (.int .i64 v8), .as 35 false, .ln (a0.Off.length)] [.keep [2, 37, 38, 39] []] (k' := [.code (.loop (cAt Try.f110 [1, 1, 0, 1, 0, 0])), .blk 0, .code (cAt Try.f110 [1, 1, 1])]) (S' := impl_runs_L1_S a0 a2 0) (And.intro h1 (And.intro (lenm Leg.enc a0.Legs) (And.intro h2 (And.intro (impl_within_ok a2 0 60 v3 h4) (And.intro h5 (And.intro (gi_map Leg.enc h7) (And.intro (shrM_run (P := Try.prog) (t := 3) (x := .tmp 0) (y := .tmp 0) h9) (And.intro h10 (And.intro (lenm encI a0.Off) True.intro))))))))) (by kernel_rfl) ?_
          refine lq (impl_runs_L1_S a0 a2) (body := impl_runs_L1 a0 a2) (k := impl_runs_L1_k) hM fun m1 s c1 hM hK1 => ?_
          obtain ⟨s11, hs⟩ : ∃ z, z = s := ⟨_, rfl⟩
          subst hs
          have hM : impl_runs_L1_b a0 a2 s11 = some c1 := hM
          unfold impl_runs_L1_b at hM
          rcases cond_cases hM with ⟨h12, hM⟩ | ⟨h12, hM⟩
          · obtain ⟨v13, h14, hM⟩ := bind_some hM
            rcases cond_cases hM with ⟨h15, hM⟩ | ⟨h15, hM⟩
            · have hE : some (Ctl.ret false) = some c1 := hM
              have hE := Option.some.inj hE
              subst hE
              have hE : some false = some r := hK1
              have hE := Option.some.inj hE
              subst hE
              exact pr R 9999 [.as 40 true, .ix (encI v13), .as 45 true] [] [] [] (And.intro h12 (And.intro (gi_map encI h14) (And.intro h15 True.intro))) (by kernel_rfl)
            · have hE : some (Ctl.next (w64 (s11 + 1))) = some c1 := hM
              have hE := Option.some.inj hE
              subst hE
              exact pc R 9999 [.as 40 true, .ix (encI v13), .as 45 false] [.keep [2, 37, 38, 39] []] (And.intro h12 (And.intro (gi_map encI h14) (And.intro h15 True.intro))) (by kernel_rfl) (li (Sf := impl_runs_L1_S a0 a2) (M := Mk (impl_runs_L1 a0 a2) (impl_runs_L1_k) r) (k := [.blk 0, .code (cAt Try.f110 [1, 1, 1])]) (Nat.lt_succ_self m1) hK1)
          · have hE : some (Ctl.brk ()) = some c1 := hM
            have hE := Option.some.inj hE
            subst hE
            exact pc R 5 [.as 40 false] [.keep [] []] (And.intro h12 True.intro) (by kernel_rfl) (K1 () hK1)

-- loop.example/g03014/impl.RunsOn
def impl_RunsOn (a0 : Network) (a1 : Int) (a2 : Int) : Option Bool :=
  (impl_IsNetwork a0).bind fun v1 =>
  bif v1 then
  (impl_runs a0 a1 a2).bind fun v4 =>
  some v4
  else
  some false
theorem impl_RunsOn_ok (a0 : Network) (a1 : Int) (a2 : Int) (r : Bool) (hM : impl_RunsOn a0 a1 a2 = some r) :
    Con Try.prog 87 [.agg [.rs 6 (a0.Legs.map Leg.enc), .rs 1 (a0.Off.map encI), .v (.int .i64 a0.Change)], .c (.v (.int .i64 a1)), .c (.v (.int .i64 a2))] [] (.o (.c (.v (.bool r)))) [] [] := by
  unfold impl_RunsOn at hM
  refine cn (N := 15) (pids := []) Try_mixed Try.func87 (by kernel_rfl) (by kernel_rfl) (by kernel_rfl) rfl fun ρ g w R => ?_
  obtain ⟨v1, h2, hM⟩ := bind_some hM
  rcases cond_cases hM with ⟨h3, hM⟩ | ⟨h3, hM⟩
  · obtain ⟨v4, h5, hM⟩ := bind_some hM
    have hE : some v4 = some r := hM
    have hE := Option.some.inj hE
    subst hE
    exact pr R 9999 [.new 0, .call false [] (.o (.c (.v (.bool v1)))) [] [], .as 9 true, .call false [] (.o (.c (.v (.bool v4)))) [] []] [] [] [] (And.intro (impl_IsNetwork_ok a0 v1 h2) (And.intro h3 (And.intro (impl_runs_ok a0 a1 a2 v4 h5) True.intro))) (by kernel_rfl)
  · have hE : some false = some r := hM
    have hE := Option.some.inj hE
    subst hE
    exact pr R 9999 [.new 0, .call false [] (.o (.c (.v (.bool v1)))) [] [], .as 9 false] [] [] [] (And.intro (impl_IsNetwork_ok a0 v1 h2) (And.intro h3 True.intro)) (by kernel_rfl)

-- loop.example/g03014/impl.IsTrip
def impl_IsTrip (a0 : Network) (a1 : Trip) : Option Bool :=
  (impl_RunsOn a0 a1.Leg a1.Day).bind fun v1 =>
  some v1
theorem impl_IsTrip_ok (a0 : Network) (a1 : Trip) (r : Bool) (hM : impl_IsTrip a0 a1 = some r) :
    Con Try.prog 61 [.agg [.rs 6 (a0.Legs.map Leg.enc), .rs 1 (a0.Off.map encI), .v (.int .i64 a0.Change)], .c (.v (.agg (Trip.enc a1).toArray))] [] (.o (.c (.v (.bool r)))) [] [] := by
  unfold impl_IsTrip at hM
  refine cn (N := 11) (pids := []) Try_mixed Try.func61 (by kernel_rfl) (by kernel_rfl) (by kernel_rfl) rfl fun ρ g w R => ?_
  obtain ⟨v1, h2, hM⟩ := bind_some hM
  have hE : some v1 = some r := hM
  have hE := Option.some.inj hE
  subst hE
  exact pr R 9999 [.new 0, .new 1, .call false [] (.o (.c (.v (.bool v1)))) [] []] [] [] [] (And.intro (impl_RunsOn_ok a0 a1.Leg a1.Day v1 h2) True.intro) (by kernel_rfl)

-- loop.example/g03014/impl.LoadOf
def impl_LoadOf_L1_b (a0 : (List Booking)) (a1 : Trip) (s1 : Int) (s2 : Int) : Option (Ctl (Int × Int) Int Int) :=
  bif (decide (s2 < (a0.length : Int))) then
  (gi a0 s2).bind fun v5 =>
  bif (decide (v5.Trip = a1)) then
  some (.next (w64 (s1 + v5.Weight), w64 (s2 + 1)))
  else
  some (.next (s1, w64 (s2 + 1)))
  else
  some (.brk s1)
def impl_LoadOf_L1 (a0 : (List Booking)) (a1 : Trip) (s : Int × Int) : Option (Ctl (Int × Int) Int Int) := impl_LoadOf_L1_b a0 a1 s.1 s.2
def impl_LoadOf_L1_s (a0 : (List Booking)) (a1 : Trip) (s1 : Int) (s2 : Int) : St := ⟨[(3, .o (.c (.ptr 0 0))), (5, .o (.c (.v (.int .i64 s1)))), (8, .o (.c (.rs 4 (a0.map Booking.enc)))), (9, .o (.c (.v (.int .i64 (a0.length : Int))))), (10, .o (.c (.v (.int .i64 s2))))], [(0, .box 55 [.v (.int .i64 a1.Leg), .v (.int .i64 a1.Day)])]⟩
def impl_LoadOf_L1_S (a0 : (List Booking)) (a1 : Trip) (s : Int × Int) : St := impl_LoadOf_L1_s a0 a1 s.1 s.2
def impl_LoadOf_L1_a (s3 : Int) : Option Int :=
  some s3
def impl_LoadOf_L1_k (x : (Int) ⊕ (Int)) : Option Int := match x with
  | .inl t => impl_LoadOf_L1_a t
  | .inr y => some y
def impl_LoadOf (a0 : (List Booking)) (a1 : Trip) : Option Int :=
  (loopM (impl_LoadOf_L1 a0 a1) big (0, 0)).bind (impl_LoadOf_L1_k)
theorem impl_LoadOf_ok (a0 : (List Booking)) (a1 : Trip) (r : Int) (hM : impl_LoadOf a0 a1 = some r) :
    Con Try.prog 62 [.c (.rs 4 (a0.map Booking.enc)), .c (.v (.agg (Trip.enc a1).toArray))] [] (.o (.c (.v (.int .i64 r)))) [] [] := by
  unfold impl_LoadOf at hM
  refine cn (N := 24) (pids := []) Try_mixed Try.func62 (by kernel_rfl) (by kernel_rfl) (by kernel_rfl) rfl fun ρ g w R => ?_
  have K1 : ∀ (s3 : Int), impl_LoadOf_L1_a s3 = some r → Gr R [.code (cAt Try.f62 [1, 1, 1])] (⟨[(5, .o (.c (.v (.int .i64 s3))))], []⟩) := by
    intro s3 hM
    unfold impl_LoadOf_L1_a at hM
    have hE : some s3 = some r := hM
    have hE := Option.some.inj hE
    subst hE
    exact pr R 9999 [] [] [] [] True.intro (by kernel_rfl)
  refine pc R 9999 [.new 0, .ln (a0.length)] [.keep [3, 5, 8, 9, 10] [0]] (k' := [.code (.loop (cAt Try.f62 [1, 1, 0, 1, 0, 0])), .blk 0, .code (cAt Try.f62 [1, 1, 1])]) (S' := impl_LoadOf_L1_S a0 a1 (0, 0)) (And.intro (lenm Booking.enc a0) True.intro) (by kernel_rfl) ?_
  refine lq (impl_LoadOf_L1_S a0 a1) (body := impl_LoadOf_L1 a0 a1) (k := impl_LoadOf_L1_k) hM fun m1 s c1 hM hK1 => ?_
  obtain ⟨s1, s2⟩ := s
  have hM : impl_LoadOf_L1_b a0 a1 s1 s2 = some c1 := hM
  unfold impl_LoadOf_L1_b at hM
  rcases cond_cases hM with ⟨h4, hM⟩ | ⟨h4, hM⟩
  · obtain ⟨v5, h6, hM⟩ := bind_some hM
    rcases cond_cases hM with ⟨h7, hM⟩ | ⟨h7, hM⟩
    · have hE : some (Ctl.next (w64 (s1 + v5.Weight), w64 (s2 + 1))) = some c1 := hM
      have hE := Option.some.inj hE
      subst hE
      exact pc R 9999 [.as 11 true, .ix (Booking.enc v5), .new 1, .run 17 (.bool (decide (v5.Trip = a1))), .as 17 true] [.keep [3, 5, 8, 9, 10] [0]] (And.intro h4 (And.intro (gi_map Booking.enc h6) (And.intro (Trip_eql55 v5.Trip a1) (And.intro h7 True.intro)))) (by kernel_rfl) (li (Sf := impl_LoadOf_L1_S a0 a1) (M := Mk (impl_LoadOf_L1 a0 a1) (impl_LoadOf_L1_k) r) (k := [.blk 0, .code (cAt Try.f62 [1, 1, 1])]) (Nat.lt_succ_self m1) hK1)
    · have hE : some (Ctl.next (s1, w64 (s2 + 1))) = some c1 := hM
      have hE := Option.some.inj hE
      subst hE
      exact pc R 9999 [.as 11 true, .ix (Booking.enc v5), .new 1, .run 17 (.bool (decide (v5.Trip = a1))), .as 17 false] [.keep [3, 5, 8, 9, 10] [0]] (And.intro h4 (And.intro (gi_map Booking.enc h6) (And.intro (Trip_eql55 v5.Trip a1) (And.intro h7 True.intro)))) (by kernel_rfl) (li (Sf := impl_LoadOf_L1_S a0 a1) (M := Mk (impl_LoadOf_L1 a0 a1) (impl_LoadOf_L1_k) r) (k := [.blk 0, .code (cAt Try.f62 [1, 1, 1])]) (Nat.lt_succ_self m1) hK1)
  · have hE : some (Ctl.brk s1) = some c1 := hM
    have hE := Option.some.inj hE
    subst hE
    exact pc R 5 [.as 11 false] [.keep [5] []] (And.intro h4 True.intro) (by kernel_rfl) (K1 s1 hK1)

-- loop.example/g03014/impl.AreBookings
def impl_AreBookings_L1_b (a0 : Network) (a1 : (List Booking)) (s5 : Int) : Option (Ctl Int Unit Bool) :=
  bif (decide (s5 < (a1.length : Int))) then
  (gi a1 s5).bind fun v7 =>
  bif (decide (s5 > 0)) then
  (gi a1 (w64 (s5 - 1))).bind fun v10 =>
  (impl_compareBookings v10 v7).bind fun v12 =>
  bif (decide (v12 ≥ 0)) then
  some (.ret false)
  else
  (impl_IsTrip a0 v7.Trip).bind fun v15 =>
  bif (!v15) then
  some (.ret false)
  else
  (impl_within v7.Thing 1 9999).bind fun v18 =>
  bif (!v18) then
  some (.ret false)
  else
  (impl_within v7.Weight 1 1000000).bind fun v21 =>
  bif (!v21) then
  some (.ret false)
  else
  (impl_LoadOf a1 v7.Trip).bind fun v24 =>
  (gi a0.Legs v7.Trip.Leg).bind fun v26 =>
  bif (decide (v24 > v26.Room)) then
  some (.ret false)
  else
  some (.next (w64 (s5 + 1)))
  else
  (impl_IsTrip a0 v7.Trip).bind fun v29 =>
  bif (!v29) then
  some (.ret false)
  else
  (impl_within v7.Thing 1 9999).bind fun v32 =>
  bif (!v32) then
  some (.ret false)
  else
  (impl_within v7.Weight 1 1000000).bind fun v35 =>
  bif (!v35) then
  some (.ret false)
  else
  (impl_LoadOf a1 v7.Trip).bind fun v38 =>
  (gi a0.Legs v7.Trip.Leg).bind fun v40 =>
  bif (decide (v38 > v40.Room)) then
  some (.ret false)
  else
  some (.next (w64 (s5 + 1)))
  else
  some (.brk ())
def impl_AreBookings_L1 (a0 : Network) (a1 : (List Booking)) (s : Int) : Option (Ctl Int Unit Bool) := impl_AreBookings_L1_b a0 a1 s
def impl_AreBookings_L1_s (a0 : Network) (a1 : (List Booking)) (s5 : Int) : St := ⟨[(1, .o (.c (.rs 4 (a1.map Booking.enc)))), (2, .o (.c (.ptr 0 0))), (15, .o (.c (.rs 4 (a1.map Booking.enc)))), (16, .o (.c (.v (.int .i64 (a1.length : Int))))), (17, .o (.c (.v (.int .i64 s5))))], [(0, .box 36 [.rs 6 (a0.Legs.map Leg.enc), .rs 1 (a0.Off.map encI), .v (.int .i64 a0.Change)])]⟩
def impl_AreBookings_L1_S (a0 : Network) (a1 : (List Booking)) (s : Int) : St := impl_AreBookings_L1_s a0 a1 s
def impl_AreBookings_L1_a : Option Bool :=
  some true
def impl_AreBookings_L1_k (x : (Unit) ⊕ (Bool)) : Option Bool := match x with
  | .inl t => impl_AreBookings_L1_a
  | .inr y => some y
def impl_AreBookings (a0 : Network) (a1 : (List Booking)) : Option Bool :=
  (impl_IsNetwork a0).bind fun v1 =>
  bif (!v1) then
  some false
  else
  bif (decide ((a1.length : Int) > 120)) then
  some false
  else
  (loopM (impl_AreBookings_L1 a0 a1) big 0).bind (impl_AreBookings_L1_k)
theorem impl_AreBookings_ok (a0 : Network) (a1 : (List Booking)) (r : Bool) (hM : impl_AreBookings a0 a1 = some r) :
    Con Try.prog 29 [.agg [.rs 6 (a0.Legs.map Leg.enc), .rs 1 (a0.Off.map encI), .v (.int .i64 a0.Change)], .c (.rs 4 (a1.map Booking.enc))] [] (.o (.c (.v (.bool r)))) [] [] := by
  unfold impl_AreBookings at hM
  refine cn (N := 69) (pids := []) Try_mixed Try.func29 (by kernel_rfl) (by kernel_rfl) (by kernel_rfl) rfl fun ρ g w R => ?_
  obtain ⟨v1, h2, hM⟩ := bind_some hM
  rcases cond_cases hM with ⟨h3, hM⟩ | ⟨h3, hM⟩
  · have hE : some false = some r := hM
    have hE := Option.some.inj hE
    subst hE
    exact pr R 9999 [.new 0, .call false [] (.o (.c (.v (.bool v1)))) [] [], .as 10 true] [] [] [] (And.intro (impl_IsNetwork_ok a0 v1 h2) (And.intro h3 True.intro)) (by kernel_rfl)
  · rcases cond_cases hM with ⟨h4, hM⟩ | ⟨h4, hM⟩
    · have hE : some false = some r := hM
      have hE := Option.some.inj hE
      subst hE
      exact pr R 9999 [.new 0, .call false [] (.o (.c (.v (.bool v1)))) [] [], .as 10 false, .ln (a1.length), .as 14 true] [] [] [] (And.intro (impl_IsNetwork_ok a0 v1 h2) (And.intro h3 (And.intro (lenm Booking.enc a1) (And.intro h4 True.intro)))) (by kernel_rfl)
    · have K1 : ∀ (_ : Unit), impl_AreBookings_L1_a = some r → Gr R [.code (cAt Try.f29 [1, 1, 1])] (⟨[], []⟩) := by
        intro _ hM
        unfold impl_AreBookings_L1_a at hM
        have hE : some true = some r := hM
        have hE := Option.some.inj hE
        subst hE
        exact pr R 9999 [] [] [] [] True.intro (by kernel_rfl)
      refine pc R 9999 [.new 0, .call false [] (.o (.c (.v (.bool v1)))) [] [], .as 10 false, .ln (a1.length), .as 14 false, .ln (a1.length)] [.keep [1, 2, 15, 16, 17] [0]] (k' := [.code (.loop (cAt Try.f29 [1, 1, 0, 1, 0, 0])), .blk 0, .code (cAt Try.f29 [1, 1, 1])]) (S' := impl_AreBookings_L1_S a0 a1 0) (And.intro (impl_IsNetwork_ok a0 v1 h2) (And.intro h3 (And.intro (lenm Booking.enc a1) (And.intro h4 (And.intro (lenm Booking.enc a1) True.intro))))) (by kernel_rfl) ?_
      refine lq (impl_AreBookings_L1_S a0 a1) (body := impl_AreBookings_L1 a0 a1) (k := impl_AreBookings_L1_k) hM fun m1 s c1 hM hK1 => ?_
      obtain ⟨s5, hs⟩ : ∃ z, z = s := ⟨_, rfl⟩
      subst hs
      have hM : impl_AreBookings_L1_b a0 a1 s5 = some c1 := hM
      unfold impl_AreBookings_L1_b at hM
      rcases cond_cases hM with ⟨h6, hM⟩ | ⟨h6, hM⟩
      · obtain ⟨v7, h8, hM⟩ := bind_some hM
        rcases cond_cases hM with ⟨h9, hM⟩ | ⟨h9, hM⟩
        · obtain ⟨v10, h11, hM⟩ := bind_some hM
          obtain ⟨v12, h13, hM⟩ := bind_some hM
          rcases cond_cases hM with ⟨h14, hM⟩ | ⟨h14, hM⟩
          · have hE : some (Ctl.ret false) = some c1 := hM
            have hE := Option.some.inj hE
            subst hE
            have hE : some false = some r := hK1
            have hE := Option.some.inj hE
            subst hE
            exact pr R 9999 [.as 18 true, .ix (Booking.enc v7), .new 1, .as 24 true, .ix (Booking.enc v10), .call false [] (.o (.c (.v (.int .i64 v12)))) [] [], .as 34 true] [] [] [] (And.intro h6 (And.intro (gi_map Booking.enc h8) (And.intro h9 (And.intro (gi_map Booking.enc h11) (And.intro (impl_compareBookings_ok v10 v7 v12 h13) (And.intro h14 True.intro)))))) (by kernel_rfl)
          · obtain ⟨v15, h16, hM⟩ := bind_some hM
            rcases cond_cases hM with ⟨h17, hM⟩ | ⟨h17, hM⟩
            · have hE : some (Ctl.ret false) = some c1 := hM
              have hE := Option.some.inj hE
              subst hE
              have hE : some false = some r := hK1
              have hE := Option.some.inj hE
              subst hE
              exact pr R 9999 [.as 18 true, .ix (Booking.enc v7), .new 1, .as 24 true, .ix (Booking.enc v10), .call false [] (.o (.c (.v (.int .i64 v12)))) [] [], .as 34 false, .call false [] (.o (.c (.v (.bool v15)))) [] [], .as 41 true] [] [] [] (And.intro h6 (And.intro (gi_map Booking.enc h8) (And.intro h9 (And.intro (gi_map Booking.enc h11) (And.intro (impl_compareBookings_ok v10 v7 v12 h13) (And.intro h14 (And.intro (impl_IsTrip_ok a0 v7.Trip v15 h16) (And.intro h17 True.intro)))))))) (by kernel_rfl)
            · obtain ⟨v18, h19, hM⟩ := bind_some hM
              rcases cond_cases hM with ⟨h20, hM⟩ | ⟨h20, hM⟩
              · have hE : some (Ctl.ret false) = some c1 := hM
                have hE := Option.some.inj hE
                subst hE
                have hE : some false = some r := hK1
                have hE := Option.some.inj hE
                subst hE
                exact pr R 9999 [.as 18 true, .ix (Booking.enc v7), .new 1, .as 24 true, .ix (Booking.enc v10), .call false [] (.o (.c (.v (.int .i64 v12)))) [] [], .as 34 false, .call false [] (.o (.c (.v (.bool v15)))) [] [], .as 41 false, .call false [] (.o (.c (.v (.bool v18)))) [] [], .as 47 true] [] [] [] (And.intro h6 (And.intro (gi_map Booking.enc h8) (And.intro h9 (And.intro (gi_map Booking.enc h11) (And.intro (impl_compareBookings_ok v10 v7 v12 h13) (And.intro h14 (And.intro (impl_IsTrip_ok a0 v7.Trip v15 h16) (And.intro h17 (And.intro (impl_within_ok v7.Thing 1 9999 v18 h19) (And.intro h20 True.intro)))))))))) (by kernel_rfl)
              · obtain ⟨v21, h22, hM⟩ := bind_some hM
                rcases cond_cases hM with ⟨h23, hM⟩ | ⟨h23, hM⟩
                · have hE : some (Ctl.ret false) = some c1 := hM
                  have hE := Option.some.inj hE
                  subst hE
                  have hE : some false = some r := hK1
                  have hE := Option.some.inj hE
                  subst hE
                  exact pr R 9999 [.as 18 true, .ix (Booking.enc v7), .new 1, .as 24 true, .ix (Booking.enc v10), .call false [] (.o (.c (.v (.int .i64 v12)))) [] [], .as 34 false, .call false [] (.o (.c (.v (.bool v15)))) [] [], .as 41 false, .call false [] (.o (.c (.v (.bool v18)))) [] [], .as 47 false, .call false [] (.o (.c (.v (.bool v21)))) [] [], .as 53 true] [] [] [] (And.intro h6 (And.intro (gi_map Booking.enc h8) (And.intro h9 (And.intro (gi_map Booking.enc h11) (And.intro (impl_compareBookings_ok v10 v7 v12 h13) (And.intro h14 (And.intro (impl_IsTrip_ok a0 v7.Trip v15 h16) (And.intro h17 (And.intro (impl_within_ok v7.Thing 1 9999 v18 h19) (And.intro h20 (And.intro (impl_within_ok v7.Weight 1 1000000 v21 h22) (And.intro h23 True.intro)))))))))))) (by kernel_rfl)
                · obtain ⟨v24, h25, hM⟩ := bind_some hM
                  obtain ⟨v26, h27, hM⟩ := bind_some hM
                  rcases cond_cases hM with ⟨h28, hM⟩ | ⟨h28, hM⟩
                  · have hE : some (Ctl.ret false) = some c1 := hM
                    have hE := Option.some.inj hE
                    subst hE
                    have hE : some false = some r := hK1
                    have hE := Option.some.inj hE
                    subst hE
                    exact pr R 9999 [.as 18 true, .ix (Booking.enc v7), .new 1, .as 24 true, .ix (Booking.enc v10), .call false [] (.o (.c (.v (.int .i64 v12)))) [] [], .as 34 false, .call false [] (.o (.c (.v (.bool v15)))) [] [], .as 41 false, .call false [] (.o (.c (.v (.bool v18)))) [] [], .as 47 false, .call false [] (.o (.c (.v (.bool v21)))) [] [], .as 53 false, .call false [] (.o (.c (.v (.int .i64 v24)))) [] [], .ix (Leg.enc v26), .as 67 true] [] [] [] (And.intro h6 (And.intro (gi_map Booking.enc h8) (And.intro h9 (And.intro (gi_map Booking.enc h11) (And.intro (impl_compareBookings_ok v10 v7 v12 h13) (And.intro h14 (And.intro (impl_IsTrip_ok a0 v7.Trip v15 h16) (And.intro h17 (And.intro (impl_within_ok v7.Thing 1 9999 v18 h19) (And.intro h20 (And.intro (impl_within_ok v7.Weight 1 1000000 v21 h22) (And.intro h23 (And.intro (impl_LoadOf_ok a1 v7.Trip v24 h25) (And.intro (gi_map Leg.enc h27) (And.intro h28 True.intro))))))))))))))) (by kernel_rfl)
                  · have hE : some (Ctl.next (w64 (s5 + 1))) = some c1 := hM
                    have hE := Option.some.inj hE
                    subst hE
                    exact pc R 9999 [.as 18 true, .ix (Booking.enc v7), .new 1, .as 24 true, .ix (Booking.enc v10), .call false [] (.o (.c (.v (.int .i64 v12)))) [] [], .as 34 false, .call false [] (.o (.c (.v (.bool v15)))) [] [], .as 41 false, .call false [] (.o (.c (.v (.bool v18)))) [] [], .as 47 false, .call false [] (.o (.c (.v (.bool v21)))) [] [], .as 53 false, .call false [] (.o (.c (.v (.int .i64 v24)))) [] [], .ix (Leg.enc v26), .as 67 false] [.keep [1, 2, 15, 16, 17] [0]] (And.intro h6 (And.intro (gi_map Booking.enc h8) (And.intro h9 (And.intro (gi_map Booking.enc h11) (And.intro (impl_compareBookings_ok v10 v7 v12 h13) (And.intro h14 (And.intro (impl_IsTrip_ok a0 v7.Trip v15 h16) (And.intro h17 (And.intro (impl_within_ok v7.Thing 1 9999 v18 h19) (And.intro h20 (And.intro (impl_within_ok v7.Weight 1 1000000 v21 h22) (And.intro h23 (And.intro (impl_LoadOf_ok a1 v7.Trip v24 h25) (And.intro (gi_map Leg.enc h27) (And.intro h28 True.intro))))))))))))))) (by kernel_rfl) (li (Sf := impl_AreBookings_L1_S a0 a1) (M := Mk (impl_AreBookings_L1 a0 a1) (impl_AreBookings_L1_k) r) (k := [.blk 0, .code (cAt Try.f29 [1, 1, 1])]) (Nat.lt_succ_self m1) hK1)
        · obtain ⟨v29, h30, hM⟩ := bind_some hM
          rcases cond_cases hM with ⟨h31, hM⟩ | ⟨h31, hM⟩
          · have hE : some (Ctl.ret false) = some c1 := hM
            have hE := Option.some.inj hE
            subst hE
            have hE : some false = some r := hK1
            have hE := Option.some.inj hE
            subst hE
            exact pr R 9999 [.as 18 true, .ix (Booking.enc v7), .new 1, .as 24 false, .call false [] (.o (.c (.v (.bool v29)))) [] [], .as 41 true] [] [] [] (And.intro h6 (And.intro (gi_map Booking.enc h8) (And.intro h9 (And.intro (impl_IsTrip_ok a0 v7.Trip v29 h30) (And.intro h31 True.intro))))) (by kernel_rfl)
          · obtain ⟨v32, h33, hM⟩ := bind_some hM
            rcases cond_cases hM with ⟨h34, hM⟩ | ⟨h34, hM⟩
            · have hE : some (Ctl.ret false) = some c1 := hM
              have hE := Option.some.inj hE
              subst hE
              have hE : some false = some r := hK1
              have hE := Option.some.inj hE
              subst hE
              exact pr R 9999 [.as 18 true, .ix (Booking.enc v7), .new 1, .as 24 false, .call false [] (.o (.c (.v (.bool v29)))) [] [], .as 41 false, .call false [] (.o (.c (.v (.bool v32)))) [] [], .as 47 true] [] [] [] (And.intro h6 (And.intro (gi_map Booking.enc h8) (And.intro h9 (And.intro (impl_IsTrip_ok a0 v7.Trip v29 h30) (And.intro h31 (And.intro (impl_within_ok v7.Thing 1 9999 v32 h33) (And.intro h34 True.intro))))))) (by kernel_rfl)
            · obtain ⟨v35, h36, hM⟩ := bind_some hM
              rcases cond_cases hM with ⟨h37, hM⟩ | ⟨h37, hM⟩
              · have hE : some (Ctl.ret false) = some c1 := hM
                have hE := Option.some.inj hE
                subst hE
                have hE : some false = some r := hK1
                have hE := Option.some.inj hE
                subst hE
                exact pr R 9999 [.as 18 true, .ix (Booking.enc v7), .new 1, .as 24 false, .call false [] (.o (.c (.v (.bool v29)))) [] [], .as 41 false, .call false [] (.o (.c (.v (.bool v32)))) [] [], .as 47 false, .call false [] (.o (.c (.v (.bool v35)))) [] [], .as 53 true] [] [] [] (And.intro h6 (And.intro (gi_map Booking.enc h8) (And.intro h9 (And.intro (impl_IsTrip_ok a0 v7.Trip v29 h30) (And.intro h31 (And.intro (impl_within_ok v7.Thing 1 9999 v32 h33) (And.intro h34 (And.intro (impl_within_ok v7.Weight 1 1000000 v35 h36) (And.intro h37 True.intro))))))))) (by kernel_rfl)
              · obtain ⟨v38, h39, hM⟩ := bind_some hM
                obtain ⟨v40, h41, hM⟩ := bind_some hM
                rcases cond_cases hM with ⟨h42, hM⟩ | ⟨h42, hM⟩
                · have hE : some (Ctl.ret false) = some c1 := hM
                  have hE := Option.some.inj hE
                  subst hE
                  have hE : some false = some r := hK1
                  have hE := Option.some.inj hE
                  subst hE
                  exact pr R 9999 [.as 18 true, .ix (Booking.enc v7), .new 1, .as 24 false, .call false [] (.o (.c (.v (.bool v29)))) [] [], .as 41 false, .call false [] (.o (.c (.v (.bool v32)))) [] [], .as 47 false, .call false [] (.o (.c (.v (.bool v35)))) [] [], .as 53 false, .call false [] (.o (.c (.v (.int .i64 v38)))) [] [], .ix (Leg.enc v40), .as 67 true] [] [] [] (And.intro h6 (And.intro (gi_map Booking.enc h8) (And.intro h9 (And.intro (impl_IsTrip_ok a0 v7.Trip v29 h30) (And.intro h31 (And.intro (impl_within_ok v7.Thing 1 9999 v32 h33) (And.intro h34 (And.intro (impl_within_ok v7.Weight 1 1000000 v35 h36) (And.intro h37 (And.intro (impl_LoadOf_ok a1 v7.Trip v38 h39) (And.intro (gi_map Leg.enc h41) (And.intro h42 True.intro)))))))))))) (by kernel_rfl)
                · have hE : some (Ctl.next (w64 (s5 + 1))) = some c1 := hM
                  have hE := Option.some.inj hE
                  subst hE
                  exact pc R 9999 [.as 18 true, .ix (Booking.enc v7), .new 1, .as 24 false, .call false [] (.o (.c (.v (.bool v29)))) [] [], .as 41 false, .call false [] (.o (.c (.v (.bool v32)))) [] [], .as 47 false, .call false [] (.o (.c (.v (.bool v35)))) [] [], .as 53 false, .call false [] (.o (.c (.v (.int .i64 v38)))) [] [], .ix (Leg.enc v40), .as 67 false] [.keep [1, 2, 15, 16, 17] [0]] (And.intro h6 (And.intro (gi_map Booking.enc h8) (And.intro h9 (And.intro (impl_IsTrip_ok a0 v7.Trip v29 h30) (And.intro h31 (And.intro (impl_within_ok v7.Thing 1 9999 v32 h33) (And.intro h34 (And.intro (impl_within_ok v7.Weight 1 1000000 v35 h36) (And.intro h37 (And.intro (impl_LoadOf_ok a1 v7.Trip v38 h39) (And.intro (gi_map Leg.enc h41) (And.intro h42 True.intro)))))))))))) (by kernel_rfl) (li (Sf := impl_AreBookings_L1_S a0 a1) (M := Mk (impl_AreBookings_L1 a0 a1) (impl_AreBookings_L1_k) r) (k := [.blk 0, .code (cAt Try.f29 [1, 1, 1])]) (Nat.lt_succ_self m1) hK1)
      · have hE : some (Ctl.brk ()) = some c1 := hM
        have hE := Option.some.inj hE
        subst hE
        exact pc R 5 [.as 18 false] [.keep [] []] (And.intro h6 True.intro) (by kernel_rfl) (K1 () hK1)

-- loop.example/g03014/impl.copyBookings
def impl_copyBookings (a0 : (List Booking)) : Option (List Booking) :=
  (ap 32 ([] : List Booking) a0).bind fun v1 =>
  some v1
theorem impl_copyBookings_ok (a0 : (List Booking)) (r : (List Booking)) (hM : impl_copyBookings a0 = some r) :
    Con Try.prog 39 [.c (.rs 4 (a0.map Booking.enc))] [] (.o (.c (.sl 1000))) [] [(1000, .row 57 4 (r.map Booking.enc))] := by
  unfold impl_copyBookings at hM
  refine cn (N := 6) (pids := []) Try_mixed Try.func39 (by kernel_rfl) (by kernel_rfl) (by kernel_rfl) rfl fun ρ g w R => ?_
  obtain ⟨v1, h2, hM⟩ := bind_some hM
  have hE : some v1 = some r := hM
  have hE := Option.some.inj hE
  subst hE
  exact pr R 9999 [.new 0, .new 1, .nm (v1.map Booking.enc)] [.sw 1 1000] [] [1000] (And.intro (ap_ok Booking.enc h2) True.intro) (by kernel_rfl)

-- internal/reflectlite.Swapper$9
noncomputable def sw_ie57 : TypeInfo := (Try.prog.info? 57).get (by kernel_rfl)
theorem sw_hi57 : Try.prog.info? 57 = some sw_ie57 := by kernel_rfl
theorem sw_F57 (s : Value) : (fun s => .func (.func 99) #[] #[s, .pointer (some ⟨0, 57, none⟩)] : Value → Value) s = .func (.func 99) #[] #[s, typeHandle Try.prog 57] := by kernel_rfl
theorem sw_ok57 : SwOk Try.prog (fun s => .func (.func 99) #[] #[s, .pointer (some ⟨0, 57, none⟩)]) 4 :=
  ⟨99, 57, sw_ie57, false, true, sw_F57, fun args W => run_callFunc_extern Try.func99 (by kernel_rfl) (by kernel_rfl) (by kernel_rfl) (e := Extern.ReflectliteSwapper.swap false) (by kernel_rfl) args W, sw_hi57, by kernel_rfl, by kernel_rfl, fun h => by cases h⟩

-- loop.example/g03014/impl.BookWay$1
def impl_BookWay_c1 (a0 : Int) (a1 : Int) (a2 : (List Booking)) : Option Bool :=
  (gi a2 a0).bind fun v1 =>
  (gi a2 a1).bind fun v3 =>
  (impl_compareBookings v1 v3).bind fun v5 =>
  some (decide (v5 < 0))
theorem impl_BookWay_c1_ok (a0 : Int) (a1 : Int) (a2 : (List Booking)) (r : Bool) (hM : impl_BookWay_c1 a0 a1 a2 = some r) :
    Con Try.prog 41 [.c (.v (.int .i64 a0)), .c (.v (.int .i64 a1)), .c (.ptr 902 0)] [(902, .box 31 [.sl 922]), (922, .row 57 4 (a2.map Booking.enc))] (.o (.c (.v (.bool r)))) [(902, .box 31 [.sl 922]), (922, .row 57 4 (a2.map Booking.enc))] [] := by
  unfold impl_BookWay_c1 at hM
  refine cn (N := 16) (pids := [902, 922]) Try_mixed Try.func41 (by kernel_rfl) (by kernel_rfl) (by kernel_rfl) rfl fun ρ g w R => ?_
  obtain ⟨v1, h2, hM⟩ := bind_some hM
  obtain ⟨v3, h4, hM⟩ := bind_some hM
  obtain ⟨v5, h6, hM⟩ := bind_some hM
  have hE : some (decide (v5 < 0)) = some r := hM
  have hE := Option.some.inj hE
  subst hE
  exact pr R 9999 [.ix (Booking.enc v1), .ix (Booking.enc v3), .call false [] (.o (.c (.v (.int .i64 v5)))) [] []] [] [902, 922] [] (And.intro (gi_lt Booking.enc h2) (And.intro ((gi_map Booking.enc h2).2) (And.intro (gi_lt Booking.enc h4) (And.intro ((gi_map Booking.enc h4).2) (And.intro (impl_compareBookings_ok v1 v3 v5 h6) True.intro))))) (by kernel_rfl)

-- sort.insertionSort_func
def sort_insertionSort_func_at0ls41_L2_b (a1 : Int) (s5 : (List Booking)) (s6 : Int) : Option (Ctl ((List Booking) × Int) (List Booking) (List Booking)) :=
  bif (decide (s6 > a1)) then
  (impl_BookWay_c1 s6 (w64 (s6 - 1)) s5).bind fun v9 =>
  bif v9 then
  (gi s5 s6).bind fun v12 =>
  (gi s5 (w64 (s6 - 1))).bind fun v14 =>
  some (.next (List.set (List.set s5 (Int.toNat s6) v14) (Int.toNat (w64 (s6 - 1))) v12, w64 (s6 - 1)))
  else
  some (.brk s5)
  else
  some (.brk s5)
def sort_insertionSort_func_at0ls41_L2 (a1 : Int) (s : (List Booking) × Int) : Option (Ctl ((List Booking) × Int) (List Booking) (List Booking)) := sort_insertionSort_func_at0ls41_L2_b a1 s.1 s.2
def sort_insertionSort_func_at0ls41_L2_s (a1 : Int) (a2 : Int) (s2 : Int) (s5 : (List Booking)) (s6 : Int) : St := ⟨[(0, .o (.agg [.fn 41 [900], .of (fun s => .func (.func 99) #[] #[s, .pointer (some ⟨0, 57, none⟩)]) 920])), (1, .o (.c (.v (.int .i64 a1)))), (2, .o (.c (.v (.int .i64 a2)))), (3, .o (.c (.ptr 0 0))), (6, .o (.c (.v (.int .i64 s2)))), (7, .o (.c (.v (.int .i64 s6))))], [(900, .box 31 [.sl 920]), (920, .row 57 4 (s5.map Booking.enc)), (0, .box 112 [.fn 41 [900], .of (fun s => .func (.func 99) #[] #[s, .pointer (some ⟨0, 57, none⟩)]) 920])]⟩
def sort_insertionSort_func_at0ls41_L2_S (a1 : Int) (a2 : Int) (s2 : Int) (s : (List Booking) × Int) : St := sort_insertionSort_func_at0ls41_L2_s a1 a2 s2 s.1 s.2
def sort_insertionSort_func_at0ls41_L2_a (s2 : Int) (s7 : (List Booking)) : Option (Ctl ((List Booking) × Int) (List Booking) (List Booking)) :=
  some (.next (s7, w64 (s2 + 1)))
def sort_insertionSort_func_at0ls41_L2_k (s2 : Int) (x : ((List Booking)) ⊕ ((List Booking))) : Option (Ctl ((List Booking) × Int) (List Booking) (List Booking)) := match x with
  | .inl t => sort_insertionSort_func_at0ls41_L2_a s2 t
  | .inr y => some (.ret y)
def sort_insertionSort_func_at0ls41_L1_b (a1 : Int) (a2 : Int) (s1 : (List Booking)) (s2 : Int) : Option (Ctl ((List Booking) × Int) (List Booking) (List Booking)) :=
  bif (decide (s2 < a2)) then
  (loopM (sort_insertionSort_func_at0ls41_L2 a1) big (s1, s2)).bind (sort_insertionSort_func_at0ls41_L2_k s2)
  else
  some (.brk s1)
def sort_insertionSort_func_at0ls41_L1 (a1 : Int) (a2 : Int) (s : (List Booking) × Int) : Option (Ctl ((List Booking) × Int) (List Booking) (List Booking)) := sort_insertionSort_func_at0ls41_L1_b a1 a2 s.1 s.2
def sort_insertionSort_func_at0ls41_L1_s (a1 : Int) (a2 : Int) (s1 : (List Booking)) (s2 : Int) : St := ⟨[(0, .o (.agg [.fn 41 [900], .of (fun s => .func (.func 99) #[] #[s, .pointer (some ⟨0, 57, none⟩)]) 920])), (1, .o (.c (.v (.int .i64 a1)))), (2, .o (.c (.v (.int .i64 a2)))), (3, .o (.c (.ptr 0 0))), (6, .o (.c (.v (.int .i64 s2))))], [(900, .box 31 [.sl 920]), (920, .row 57 4 (s1.map Booking.enc)), (0, .box 112 [.fn 41 [900], .of (fun s => .func (.func 99) #[] #[s, .pointer (some ⟨0, 57, none⟩)]) 920])]⟩
def sort_insertionSort_func_at0ls41_L1_S (a1 : Int) (a2 : Int) (s : (List Booking) × Int) : St := sort_insertionSort_func_at0ls41_L1_s a1 a2 s.1 s.2
def sort_insertionSort_func_at0ls41_L1_a (s3 : (List Booking)) : Option (List Booking) :=
  some s3
def sort_insertionSort_func_at0ls41_L1_k (x : ((List Booking)) ⊕ ((List Booking))) : Option (List Booking) := match x with
  | .inl t => sort_insertionSort_func_at0ls41_L1_a t
  | .inr y => some y
def sort_insertionSort_func_at0ls41 (a0 : ((List Booking))) (a1 : Int) (a2 : Int) : Option (List Booking) :=
  (loopM (sort_insertionSort_func_at0ls41_L1 a1 a2) big (a0, w64 (a1 + 1))).bind (sort_insertionSort_func_at0ls41_L1_k)
theorem sort_insertionSort_func_at0ls41_ok (a0 : ((List Booking))) (a1 : Int) (a2 : Int) (r : (List Booking)) (hM : sort_insertionSort_func_at0ls41 a0 a1 a2 = some r) :
    Con Try.prog 100 [.agg [.fn 41 [900], .of (fun s => .func (.func 99) #[] #[s, .pointer (some ⟨0, 57, none⟩)]) 920], .c (.v (.int .i64 a1)), .c (.v (.int .i64 a2))] [(900, .box 31 [.sl 920]), (920, .row 57 4 (a0.map Booking.enc))] (.tup []) [(900, .box 31 [.sl 920]), (920, .row 57 4 (r.map Booking.enc))] [] := by
  unfold sort_insertionSort_func_at0ls41 at hM
  refine cn (N := 35) (pids := [900, 920]) Try_mixed Try.func100 (by kernel_rfl) (by kernel_rfl) (by kernel_rfl) rfl fun ρ g w R => ?_
  have K1 : ∀ (s3 : (List Booking)), sort_insertionSort_func_at0ls41_L1_a s3 = some r → Gr R [] (⟨[(0, .o (.agg [.fn 41 [900], .of (fun s => .func (.func 99) #[] #[s, .pointer (some ⟨0, 57, none⟩)]) 920]))], [(900, .box 31 [.sl 920]), (920, .row 57 4 (s3.map Booking.enc))]⟩) := by
    intro s3 hM
    unfold sort_insertionSort_func_at0ls41_L1_a at hM
    have hE : some s3 = some r := hM
    have hE := Option.some.inj hE
    subst hE
    exact pr R 9999 [] [] [900, 920] [] True.intro (by kernel_rfl)
  refine pc R 9999 [.new 0] [.keep [0, 1, 2, 3, 6] [900, 920, 0]] (k' := [.code (.loop (cAt Try.f100 [1, 1, 0, 0])), .blk 0]) (S' := sort_insertionSort_func_at0ls41_L1_S a1 a2 (a0, w64 (a1 + 1))) True.intro (by kernel_rfl) ?_
  refine lq (sort_insertionSort_func_at0ls41_L1_S a1 a2) (body := sort_insertionSort_func_at0ls41_L1 a1 a2) (k := sort_insertionSort_func_at0ls41_L1_k) hM fun m1 s c1 hM hK1 => ?_
  obtain ⟨s1, s2⟩ := s
  have hM : sort_insertionSort_func_at0ls41_L1_b a1 a2 s1 s2 = some c1 := hM
  unfold sort_insertionSort_func_at0ls41_L1_b at hM
  rcases cond_cases hM with ⟨h4, hM⟩ | ⟨h4, hM⟩
  · have K2 : ∀ (s7 : (List Booking)), sort_insertionSort_func_at0ls41_L2_a s2 s7 = some c1 → Gr R [.blk 1, .code (cAt Try.f100 [1, 1, 0, 0, 1, 1]), .inv (Jr R (sort_insertionSort_func_at0ls41_L1_S a1 a2) (Mk (sort_insertionSort_func_at0ls41_L1 a1 a2) (sort_insertionSort_func_at0ls41_L1_k) r) (m1 + 1)), .blk 0] (⟨[(0, .o (.agg [.fn 41 [900], .of (fun s => .func (.func 99) #[] #[s, .pointer (some ⟨0, 57, none⟩)]) 920])), (1, .o (.c (.v (.int .i64 a1)))), (2, .o (.c (.v (.int .i64 a2)))), (3, .o (.c (.ptr 0 0))), (6, .o (.c (.v (.int .i64 s2))))], [(900, .box 31 [.sl 920]), (920, .row 57 4 (s7.map Booking.enc)), (0, .box 112 [.fn 41 [900], .of (fun s => .func (.func 99) #[] #[s, .pointer (some ⟨0, 57, none⟩)]) 920])]⟩) := by
      intro s7 hM
      unfold sort_insertionSort_func_at0ls41_L2_a at hM
      have hE : some (Ctl.next (s7, w64 (s2 + 1))) = some c1 := hM
      have hE := Option.some.inj hE
      subst hE
      exact pc R 9999 [] [.keep [0, 1, 2, 3, 6] [900, 920, 0]] True.intro (by kernel_rfl) (li (Sf := sort_insertionSort_func_at0ls41_L1_S a1 a2) (M := Mk (sort_insertionSort_func_at0ls41_L1 a1 a2) (sort_insertionSort_func_at0ls41_L1_k) r) (k := [.blk 0]) (Nat.lt_succ_self m1) hK1)
    refine pc R 9999 [.as 12 true] [.keep [0, 1, 2, 3, 6, 7] [900, 920, 0]] (k' := [.code (.loop (cAt Try.f100 [1, 1, 0, 0, 1, 0, 0, 1, 0, 0])), .blk 2, .blk 1, .code (cAt Try.f100 [1, 1, 0, 0, 1, 1]), .inv (Jr R (sort_insertionSort_func_at0ls41_L1_S a1 a2) (Mk (sort_insertionSort_func_at0ls41_L1 a1 a2) (sort_insertionSort_func_at0ls41_L1_k) r) (m1 + 1)), .blk 0]) (S' := sort_insertionSort_func_at0ls41_L2_S a1 a2 s2 (s1, s2)) (And.intro h4 True.intro) (by kernel_rfl) ?_
    refine lq (sort_insertionSort_func_at0ls41_L2_S a1 a2 s2) (body := sort_insertionSort_func_at0ls41_L2 a1) (k := sort_insertionSort_func_at0ls41_L2_k s2) hM fun m2 s c2 hM hK2 => ?_
    obtain ⟨s5, s6⟩ := s
    have hM : sort_insertionSort_func_at0ls41_L2_b a1 s5 s6 = some c2 := hM
    unfold sort_insertionSort_func_at0ls41_L2_b at hM
    rcases cond_cases hM with ⟨h8, hM⟩ | ⟨h8, hM⟩
    · obtain ⟨v9, h10, hM⟩ := bind_some hM
      rcases cond_cases hM with ⟨h11, hM⟩ | ⟨h11, hM⟩
      · obtain ⟨v12, h13, hM⟩ := bind_some hM
        obtain ⟨v14, h15, hM⟩ := bind_some hM
        have hE : some (Ctl.next (List.set (List.set s5 (Int.toNat s6) v14) (Int.toNat (w64 (s6 - 1))) v12, w64 (s6 - 1))) = some c2 := hM
        have hE := Option.some.inj hE
        subst hE
        exact pc R 9999 [.as 19 true, .ad (.keep [0, 1, 2, 3, 6, 7, 16, 17, 18, 19, 20, 21, 22, 23, 24] [900, 920, 0]), .call true [900, 920] (.o (.c (.v (.bool v9)))) [(900, .box 31 [.sl 920]), (920, .row 57 4 (s5.map Booking.enc))] [], .as 26 true, .ix (Booking.enc v12), .ix (Booking.enc v14), .nm ((List.set (List.set s5 (Int.toNat s6) v14) (Int.toNat (w64 (s6 - 1))) v12).map Booking.enc)] [.keep [0, 1, 2, 3, 6, 7] [900, 920, 0]] (And.intro h8 (And.intro (And.intro (con_sw 922 920 (con_sw 902 900 (impl_BookWay_c1_ok s6 (w64 (s6 - 1)) s5 v9 h10))) (rfl : ([900, 920] : List Nat) = [900, 920])) (And.intro h11 (And.intro (swap_cond Booking.enc sw_ok57 h13 h15) True.intro)))) (by kernel_rfl) (li (Sf := sort_insertionSort_func_at0ls41_L2_S a1 a2 s2) (M := Mk (sort_insertionSort_func_at0ls41_L2 a1) (sort_insertionSort_func_at0ls41_L2_k s2) c1) (k := [.blk 2, .blk 1, .code (cAt Try.f100 [1, 1, 0, 0, 1, 1]), .inv (Jr R (sort_insertionSort_func_at0ls41_L1_S a1 a2) (Mk (sort_insertionSort_func_at0ls41_L1 a1 a2) (sort_insertionSort_func_at0ls41_L1_k) r) (m1 + 1)), .blk 0]) (Nat.lt_succ_self m2) hK2)
      · have hE : some (Ctl.brk s5) = some c2 := hM
        have hE := Option.some.inj hE
        subst hE
        exact pc R 5 [.as 19 true, .ad (.keep [0, 1, 2, 3, 6, 7, 16, 17, 18, 19, 20, 21, 22, 23, 24] [900, 920, 0]), .call true [900, 920] (.o (.c (.v (.bool v9)))) [(900, .box 31 [.sl 920]), (920, .row 57 4 (s5.map Booking.enc))] [], .as 26 false] [.keep [0, 1, 2, 3, 6] [900, 920, 0]] (And.intro h8 (And.intro (And.intro (con_sw 922 920 (con_sw 902 900 (impl_BookWay_c1_ok s6 (w64 (s6 - 1)) s5 v9 h10))) (rfl : ([900, 920] : List Nat) = [900, 920])) (And.intro h11 True.intro))) (by kernel_rfl) (K2 s5 hK2)
    · have hE : some (Ctl.brk s5) = some c2 := hM
      have hE := Option.some.inj hE
      subst hE
      exact pc R 5 [.as 19 false] [.keep [0, 1, 2, 3, 6] [900, 920, 0]] (And.intro h8 True.intro) (by kernel_rfl) (K2 s5 hK2)
  · have hE : some (Ctl.brk s1) = some c1 := hM
    have hE := Option.some.inj hE
    subst hE
    exact pc R 5 [.as 12 false] [.keep [0] [900, 920]] (And.intro h4 True.intro) (by kernel_rfl) (K1 s1 hK1)

-- sort.swapRange_func
def sort_swapRange_func_at0ls41_L1_b (a1 : Int) (a2 : Int) (a3 : Int) (s1 : (List Booking)) (s2 : Int) : Option (Ctl ((List Booking) × Int) (List Booking) (List Booking)) :=
  bif (decide (s2 < a3)) then
  (gi s1 (w64 (a1 + s2))).bind fun v5 =>
  (gi s1 (w64 (a2 + s2))).bind fun v7 =>
  some (.next (List.set (List.set s1 (Int.toNat (w64 (a1 + s2))) v7) (Int.toNat (w64 (a2 + s2))) v5, w64 (s2 + 1)))
  else
  some (.brk s1)
def sort_swapRange_func_at0ls41_L1 (a1 : Int) (a2 : Int) (a3 : Int) (s : (List Booking) × Int) : Option (Ctl ((List Booking) × Int) (List Booking) (List Booking)) := sort_swapRange_func_at0ls41_L1_b a1 a2 a3 s.1 s.2
def sort_swapRange_func_at0ls41_L1_s (a1 : Int) (a2 : Int) (a3 : Int) (s1 : (List Booking)) (s2 : Int) : St := ⟨[(0, .o (.agg [.fn 41 [900], .of (fun s => .func (.func 99) #[] #[s, .pointer (some ⟨0, 57, none⟩)]) 920])), (1, .o (.c (.v (.int .i64 a1)))), (2, .o (.c (.v (.int .i64 a2)))), (3, .o (.c (.v (.int .i64 a3)))), (4, .o (.c (.ptr 0 0))), (8, .o (.c (.v (.int .i64 s2))))], [(900, .box 31 [.sl 920]), (920, .row 57 4 (s1.map Booking.enc)), (0, .box 112 [.fn 41 [900], .of (fun s => .func (.func 99) #[] #[s, .pointer (some ⟨0, 57, none⟩)]) 920])]⟩
def sort_swapRange_func_at0ls41_L1_S (a1 : Int) (a2 : Int) (a3 : Int) (s : (List Booking) × Int) : St := sort_swapRange_func_at0ls41_L1_s a1 a2 a3 s.1 s.2
def sort_swapRange_func_at0ls41_L1_a (s3 : (List Booking)) : Option (List Booking) :=
  some s3
def sort_swapRange_func_at0ls41_L1_k (x : ((List Booking)) ⊕ ((List Booking))) : Option (List Booking) := match x with
  | .inl t => sort_swapRange_func_at0ls41_L1_a t
  | .inr y => some y
def sort_swapRange_func_at0ls41 (a0 : ((List Booking))) (a1 : Int) (a2 : Int) (a3 : Int) : Option (List Booking) :=
  (loopM (sort_swapRange_func_at0ls41_L1 a1 a2 a3) big (a0, 0)).bind (sort_swapRange_func_at0ls41_L1_k)
theorem sort_swapRange_func_at0ls41_ok (a0 : ((List Booking))) (a1 : Int) (a2 : Int) (a3 : Int) (r : (List Booking)) (hM : sort_swapRange_func_at0ls41 a0 a1 a2 a3 = some r) :
    Con Try.prog 121 [.agg [.fn 41 [900], .of (fun s => .func (.func 99) #[] #[s, .pointer (some ⟨0, 57, none⟩)]) 920], .c (.v (.int .i64 a1)), .c (.v (.int .i64 a2)), .c (.v (.int .i64 a3))] [(900, .box 31 [.sl 920]), (920, .row 57 4 (a0.map Booking.enc))] (.tup []) [(900, .box 31 [.sl 920]), (920, .row 57 4 (r.map Booking.enc))] [] := by
  unfold sort_swapRange_func_at0ls41 at hM
  refine cn (N := 23) (pids := [900, 920]) Try_mixed Try.func121 (by kernel_rfl) (by kernel_rfl) (by kernel_rfl) rfl fun ρ g w R => ?_
  have K1 : ∀ (s3 : (List Booking)), sort_swapRange_func_at0ls41_L1_a s3 = some r → Gr R [] (⟨[(0, .o (.agg [.fn 41 [900], .of (fun s => .func (.func 99) #[] #[s, .pointer (some ⟨0, 57, none⟩)]) 920]))], [(900, .box 31 [.sl 920]), (920, .row 57 4 (s3.map Booking.enc))]⟩) := by
    intro s3 hM
    unfold sort_swapRange_func_at0ls41_L1_a at hM
    have hE : some s3 = some r := hM
    have hE := Option.some.inj hE
    subst hE
    exact pr R 9999 [] [] [900, 920] [] True.intro (by kernel_rfl)
  refine pc R 9999 [.new 0] [.keep [0, 1, 2, 3, 4, 8] [900, 920, 0]] (k' := [.code (.loop (cAt Try.f121 [1, 1, 0, 0])), .blk 0]) (S' := sort_swapRange_func_at0ls41_L1_S a1 a2 a3 (a0, 0)) True.intro (by kernel_rfl) ?_
  refine lq (sort_swapRange_func_at0ls41_L1_S a1 a2 a3) (body := sort_swapRange_func_at0ls41_L1 a1 a2 a3) (k := sort_swapRange_func_at0ls41_L1_k) hM fun m1 s c1 hM hK1 => ?_
  obtain ⟨s1, s2⟩ := s
  have hM : sort_swapRange_func_at0ls41_L1_b a1 a2 a3 s1 s2 = some c1 := hM
  unfold sort_swapRange_func_at0ls41_L1_b at hM
  rcases cond_cases hM with ⟨h4, hM⟩ | ⟨h4, hM⟩
  · obtain ⟨v5, h6, hM⟩ := bind_some hM
    obtain ⟨v7, h8, hM⟩ := bind_some hM
    have hE : some (Ctl.next (List.set (List.set s1 (Int.toNat (w64 (a1 + s2))) v7) (Int.toNat (w64 (a2 + s2))) v5, w64 (s2 + 1))) = some c1 := hM
    have hE := Option.some.inj hE
    subst hE
    exact pc R 9999 [.as 11 true, .ix (Booking.enc v5), .ix (Booking.enc v7), .nm ((List.set (List.set s1 (Int.toNat (w64 (a1 + s2))) v7) (Int.toNat (w64 (a2 + s2))) v5).map Booking.enc)] [.keep [0, 1, 2, 3, 4, 8] [900, 920, 0]] (And.intro h4 (And.intro (swap_cond Booking.enc sw_ok57 h6 h8) True.intro)) (by kernel_rfl) (li (Sf := sort_swapRange_func_at0ls41_L1_S a1 a2 a3) (M := Mk (sort_swapRange_func_at0ls41_L1 a1 a2 a3) (sort_swapRange_func_at0ls41_L1_k) r) (k := [.blk 0]) (Nat.lt_succ_self m1) hK1)
  · have hE : some (Ctl.brk s1) = some c1 := hM
    have hE := Option.some.inj hE
    subst hE
    exact pc R 5 [.as 11 false] [.keep [0] [900, 920]] (And.intro h4 True.intro) (by kernel_rfl) (K1 s1 hK1)

-- sort.rotate_func
def sort_rotate_func_at0ls41_L1_b (a2 : Int) (s1 : (List Booking)) (s2 : Int) (s3 : Int) : Option (Ctl ((List Booking) × Int × Int) ((List Booking) × Int) (List Booking)) :=
  bif (s2 != s3) then
  bif (decide (s2 > s3)) then
  (sort_swapRange_func_at0ls41 s1 (w64 (a2 - s2)) a2 s3).bind fun v10 =>
  some (.next (v10, w64 (s2 - s3), s3))
  else
  (sort_swapRange_func_at0ls41 s1 (w64 (a2 - s2)) (w64 ((w64 (a2 + s3)) - s2)) s2).bind fun v12 =>
  some (.next (v12, s2, w64 (s3 - s2)))
  else
  some (.brk (s1, s2))
def sort_rotate_func_at0ls41_L1 (a2 : Int) (s : (List Booking) × Int × Int) : Option (Ctl ((List Booking) × Int × Int) ((List Booking) × Int) (List Booking)) := sort_rotate_func_at0ls41_L1_b a2 s.1 s.2.1 s.2.2
def sort_rotate_func_at0ls41_L1_s (a2 : Int) (s1 : (List Booking)) (s2 : Int) (s3 : Int) : St := ⟨[(0, .o (.agg [.fn 41 [900], .of (fun s => .func (.func 99) #[] #[s, .pointer (some ⟨0, 57, none⟩)]) 920])), (2, .o (.c (.v (.int .i64 a2)))), (4, .o (.c (.ptr 0 0))), (8, .o (.c (.v (.int .i64 s2)))), (9, .o (.c (.v (.int .i64 s3))))], [(900, .box 31 [.sl 920]), (920, .row 57 4 (s1.map Booking.enc)), (0, .box 112 [.fn 41 [900], .of (fun s => .func (.func 99) #[] #[s, .pointer (some ⟨0, 57, none⟩)]) 920])]⟩
def sort_rotate_func_at0ls41_L1_S (a2 : Int) (s : (List Booking) × Int × Int) : St := sort_rotate_func_at0ls41_L1_s a2 s.1 s.2.1 s.2.2
def sort_rotate_func_at0ls41_L1_a (a2 : Int) (s4 : (List Booking)) (s5 : Int) : Option (List Booking) :=
  (sort_swapRange_func_at0ls41 s4 (w64 (a2 - s5)) a2 s5).bind fun v6 =>
  some v6
def sort_rotate_func_at0ls41_L1_k (a2 : Int) (x : ((List Booking) × Int) ⊕ ((List Booking))) : Option (List Booking) := match x with
  | .inl t => sort_rotate_func_at0ls41_L1_a a2 t.1 t.2
  | .inr y => some y
def sort_rotate_func_at0ls41 (a0 : ((List Booking))) (a1 : Int) (a2 : Int) (a3 : Int) : Option (List Booking) :=
  (loopM (sort_rotate_func_at0ls41_L1 a2) big (a0, w64 (a2 - a1), w64 (a3 - a2))).bind (sort_rotate_func_at0ls41_L1_k a2)
theorem sort_rotate_func_at0ls41_ok (a0 : ((List Booking))) (a1 : Int) (a2 : Int) (a3 : Int) (r : (List Booking)) (hM : sort_rotate_func_at0ls41 a0 a1 a2 a3 = some r) :
    Con Try.prog 113 [.agg [.fn 41 [900], .of (fun s => .func (.func 99) #[] #[s, .pointer (some ⟨0, 57, none⟩)]) 920], .c (.v (.int .i64 a1)), .c (.v (.int .i64 a2)), .c (.v (.int .i64 a3))] [(900, .box 31 [.sl 920]), (920, .row 57 4 (a0.map Booking.enc))] (.tup []) [(900, .box 31 [.sl 920]), (920, .row 57 4 (r.map Booking.enc))] [] := by
  unfold sort_rotate_func_at0ls41 at hM
  refine cn (N := 53) (pids := [900, 920]) Try_mixed Try.func113 (by kernel_rfl) (by kernel_rfl) (by kernel_rfl) rfl fun ρ g w R => ?_
  have K1 : ∀ (s4 : (List Booking)) (s5 : Int), sort_rotate_func_at0ls41_L1_a a2 s4 s5 = some r → Gr R [.code (cAt Try.f113 [1, 1, 1, 1])] (⟨[(0, .o (.agg [.fn 41 [900], .of (fun s => .func (.func 99) #[] #[s, .pointer (some ⟨0, 57, none⟩)]) 920])), (2, .o (.c (.v (.int .i64 a2)))), (4, .o (.c (.ptr 0 0))), (8, .o (.c (.v (.int .i64 s5))))], [(900, .box 31 [.sl 920]), (920, .row 57 4 (s4.map Booking.enc)), (0, .box 112 [.fn 41 [900], .of (fun s => .func (.func 99) #[] #[s, .pointer (some ⟨0, 57, none⟩)]) 920])]⟩) := by
    intro s4 s5 hM
    unfold sort_rotate_func_at0ls41_L1_a at hM
    obtain ⟨v6, h7, hM⟩ := bind_some hM
    have hE : some v6 = some r := hM
    have hE := Option.some.inj hE
    subst hE
    exact pr R 9999 [.ad (.keep [0, 2, 4, 8, 46, 47, 48, 49, 50, 51] [900, 920, 0]), .call true [900, 920] (.tup []) [(900, .box 31 [.sl 920]), (920, .row 57 4 (v6.map Booking.enc))] []] [] [900, 920] [] (And.intro (And.intro (con_sw 920 920 (con_sw 900 900 (sort_swapRange_func_at0ls41_ok s4 (w64 (a2 - s5)) a2 s5 v6 h7))) (rfl : ([900, 920] : List Nat) = [900, 920])) True.intro) (by kernel_rfl)
  refine pc R 9999 [.new 0] [.keep [0, 2, 4, 8, 9] [900, 920, 0]] (k' := [.code (.loop (cAt Try.f113 [1, 1, 1, 0, 0, 0])), .blk 0, .code (cAt Try.f113 [1, 1, 1, 1])]) (S' := sort_rotate_func_at0ls41_L1_S a2 (a0, w64 (a2 - a1), w64 (a3 - a2))) True.intro (by kernel_rfl) ?_
  refine lq (sort_rotate_func_at0ls41_L1_S a2) (body := sort_rotate_func_at0ls41_L1 a2) (k := sort_rotate_func_at0ls41_L1_k a2) hM fun m1 s c1 hM hK1 => ?_
  obtain ⟨s1, s2, s3⟩ := s
  have hM : sort_rotate_func_at0ls41_L1_b a2 s1 s2 s3 = some c1 := hM
  unfold sort_rotate_func_at0ls41_L1_b at hM
  rcases cond_cases hM with ⟨h8, hM⟩ | ⟨h8, hM⟩
  · rcases cond_cases hM with ⟨h9, hM⟩ | ⟨h9, hM⟩
    · obtain ⟨v10, h11, hM⟩ := bind_some hM
      have hE : some (Ctl.next (v10, w64 (s2 - s3), s3)) = some c1 := hM
      have hE := Option.some.inj hE
      subst hE
      exact pc R 9999 [.as 18 true, .as 21 true, .ad (.keep [0, 2, 4, 8, 9, 16, 17, 18, 19, 20, 21, 22, 23, 24, 25, 26, 27] [900, 920, 0]), .call true [900, 920] (.tup []) [(900, .box 31 [.sl 920]), (920, .row 57 4 (v10.map Booking.enc))] []] [.keep [0, 2, 4, 8, 9] [900, 920, 0]] (And.intro h8 (And.intro h9 (And.intro (And.intro (con_sw 920 920 (con_sw 900 900 (sort_swapRange_func_at0ls41_ok s1 (w64 (a2 - s2)) a2 s3 v10 h11))) (rfl : ([900, 920] : List Nat) = [900, 920])) True.intro))) (by kernel_rfl) (li (Sf := sort_rotate_func_at0ls41_L1_S a2) (M := Mk (sort_rotate_func_at0ls41_L1 a2) (sort_rotate_func_at0ls41_L1_k a2) r) (k := [.blk 0, .code (cAt Try.f113 [1, 1, 1, 1])]) (Nat.lt_succ_self m1) hK1)
    · obtain ⟨v12, h13, hM⟩ := bind_some hM
      have hE : some (Ctl.next (v12, s2, w64 (s3 - s2))) = some c1 := hM
      have hE := Option.some.inj hE
      subst hE
      exact pc R 9999 [.as 18 true, .as 21 false, .ad (.keep [0, 2, 4, 8, 9, 16, 17, 18, 19, 20, 21, 32, 33, 34, 35, 36, 37, 38, 39, 40, 41] [900, 920, 0]), .call true [900, 920] (.tup []) [(900, .box 31 [.sl 920]), (920, .row 57 4 (v12.map Booking.enc))] []] [.keep [0, 2, 4, 8, 9] [900, 920, 0]] (And.intro h8 (And.intro h9 (And.intro (And.intro (con_sw 920 920 (con_sw 900 900 (sort_swapRange_func_at0ls41_ok s1 (w64 (a2 - s2)) (w64 ((w64 (a2 + s3)) - s2)) s2 v12 h13))) (rfl : ([900, 920] : List Nat) = [900, 920])) True.intro))) (by kernel_rfl) (li (Sf := sort_rotate_func_at0ls41_L1_S a2) (M := Mk (sort_rotate_func_at0ls41_L1 a2) (sort_rotate_func_at0ls41_L1_k a2) r) (k := [.blk 0, .code (cAt Try.f113 [1, 1, 1, 1])]) (Nat.lt_succ_self m1) hK1)
  · have hE : some (Ctl.brk (s1, s2)) = some c1 := hM
    have hE := Option.some.inj hE
    subst hE
    exact pc R 5 [.as 18 false] [.keep [0, 2, 4, 8] [900, 920, 0]] (And.intro h8 True.intro) (by kernel_rfl) (K1 s1 s2 hK1)
end Go.Sx
