/- The functions of the program as plain Lean, and that each runs so (printed by wip/gen). -/
import Derived.Test.YtnefegnodjaldaaGfW2
namespace Go.Sx
open Go.Proofs
set_option linter.unusedVariables false
set_option maxRecDepth 100000

-- loop.example/g03014/spec.l4Of
def spec_l4Of_at1ro (a0 : l1Cur) (a1 : Network) : Option (ByteArray × l1Cur) :=
  (spec_PlacesOf a1).bind fun v1 =>
  (spec_l1Once a0 9).bind fun v3 =>
  bif v3.1 then
  (spec_l1Place v3.2).bind fun v6 =>
  some (v6.1, v6.2)
  else
  (spec_l1Below v3.2 (v1.length : Int)).bind fun v8 =>
  (gi v1 v8.1).bind fun v10 =>
  some (v10, v8.2)
theorem spec_l4Of_at1ro_ok (a0 : l1Cur) (a1 : Network) (r : ByteArray × l1Cur) (hM : spec_l4Of_at1ro a0 a1 = some r) :
    Con Try.prog 55 [.c (.ptr 900 0), .agg [.rs 6 (a1.Legs.map Leg.enc), .rs 1 (a1.Off.map encI), .v (.int .i64 a1.Change)]] [(900, .box 112 [.rs 1 (a0.b.map encU8), .v (.int .i64 a0.i), .v (.int .i64 a0.h)])] (.o (.c (.v (.string r.1)))) [(900, .box 112 [.rs 1 (r.2.b.map encU8), .v (.int .i64 r.2.i), .v (.int .i64 r.2.h)])] [] := by
  unfold spec_l4Of_at1ro at hM
  refine cn (N := 19) (pids := [900]) Try_mixed Try.func55 (by kernel_rfl) (by kernel_rfl) (by kernel_rfl) rfl fun ρ g w R => ?_
  obtain ⟨v1, h2, hM⟩ := bind_some hM
  obtain ⟨v3, h4, hM⟩ := bind_some hM
  rcases cond_cases hM with ⟨h5, hM⟩ | ⟨h5, hM⟩
  · obtain ⟨v6, h7, hM⟩ := bind_some hM
    have hE : some (v6.1, v6.2) = some r := hM
    have hE := Option.some.inj hE
    subst hE
    exact pr R 9999 [.new 0, .call false [] (.o (.c (.sl 1))) [] [(1, .row 9 1 (v1.map encS))], .call true [900] (.o (.c (.v (.bool v3.1)))) [(900, .box 112 [.rs 1 (v3.2.b.map encU8), .v (.int .i64 v3.2.i), .v (.int .i64 v3.2.h)])] [], .as 9 true, .call true [900] (.o (.c (.v (.string v6.1)))) [(900, .box 112 [.rs 1 (v6.2.b.map encU8), .v (.int .i64 v6.2.i), .v (.int .i64 v6.2.h)])] []] [] [900] [] (And.intro (And.intro (con_sw 1000 1 (spec_PlacesOf_ok a1 v1 h2)) (rfl : ([] : List Nat) = [])) (And.intro (And.intro (con_sw 900 900 (spec_l1Once_ok a0 9 v3 h4)) (rfl : ([900] : List Nat) = [900])) (And.intro h5 (And.intro (And.intro (con_sw 900 900 (spec_l1Place_ok v3.2 v6 h7)) (rfl : ([900] : List Nat) = [900])) True.intro)))) (by kernel_rfl)
  · obtain ⟨v8, h9, hM⟩ := bind_some hM
    obtain ⟨v10, h11, hM⟩ := bind_some hM
    have hE : some (v10, v8.2) = some r := hM
    have hE := Option.some.inj hE
    subst hE
    exact pr R 9999 [.new 0, .call false [] (.o (.c (.sl 1))) [] [(1, .row 9 1 (v1.map encS))], .call true [900] (.o (.c (.v (.bool v3.1)))) [(900, .box 112 [.rs 1 (v3.2.b.map encU8), .v (.int .i64 v3.2.i), .v (.int .i64 v3.2.h)])] [], .as 9 false, .ln (v1.length), .call true [900] (.o (.c (.v (.int .i64 v8.1)))) [(900, .box 112 [.rs 1 (v8.2.b.map encU8), .v (.int .i64 v8.2.i), .v (.int .i64 v8.2.h)])] [], .ix (encS v10)] [] [900] [] (And.intro (And.intro (con_sw 1000 1 (spec_PlacesOf_ok a1 v1 h2)) (rfl : ([] : List Nat) = [])) (And.intro (And.intro (con_sw 900 900 (spec_l1Once_ok a0 9 v3 h4)) (rfl : ([900] : List Nat) = [900])) (And.intro h5 (And.intro (lenm encS v1) (And.intro (And.intro (con_sw 900 900 (spec_l1Below_ok v3.2 (v1.length : Int) v8 h9)) (rfl : ([900] : List Nat) = [900])) (And.intro (gi_lt encS h11) (And.intro ((gi_map encS h11).2) True.intro))))))) (by kernel_rfl)

-- loop.example/g03014/spec.l1Odd
def spec_l1Odd (a0 : l1Cur) : Option (Int × l1Cur) :=
  (spec_l1Int a0 ([(-1), 0, 1, 2, 255, 1440, 86400, 86401, 999999999, 1000000000, 1000000001, (-1000000001), 9223372036854775807, (-9223372036854775808)] : List Int)).bind fun v1 =>
  some (v1.1, v1.2)
theorem spec_l1Odd_ok (a0 : l1Cur) (r : Int × l1Cur) (hM : spec_l1Odd a0 = some r) :
    Con Try.prog 91 [.c (.ptr 900 0)] [(900, .box 112 [.rs 1 (a0.b.map encU8), .v (.int .i64 a0.i), .v (.int .i64 a0.h)])] (.o (.c (.v (.int .i64 r.1)))) [(900, .box 112 [.rs 1 (r.2.b.map encU8), .v (.int .i64 r.2.i), .v (.int .i64 r.2.h)])] [] := by
  unfold spec_l1Odd at hM
  refine cn (N := 6) (pids := [900]) Try_mixed Try.func91 (by kernel_rfl) (by kernel_rfl) (by kernel_rfl) rfl fun ρ g w R => ?_
  obtain ⟨v1, h2, hM⟩ := bind_some hM
  have hE : some (v1.1, v1.2) = some r := hM
  have hE := Option.some.inj hE
  subst hE
  exact pr R 9999 [.new 0, .ad (.keep [0, 2, 3, 4] [900, 0]), .call true [900, 0] (.o (.c (.v (.int .i64 v1.1)))) [(900, .box 112 [.rs 1 (v1.2.b.map encU8), .v (.int .i64 v1.2.i), .v (.int .i64 v1.2.h)]), (0, .row 3 1 (([(-1), 0, 1, 2, 255, 1440, 86400, 86401, 999999999, 1000000000, 1000000001, (-1000000001), 9223372036854775807, (-9223372036854775808)] : List Int).map encI))] []] [] [900] [] (And.intro (And.intro (con_sw 901 0 (con_sw 900 900 (spec_l1Int_ok a0 ([(-1), 0, 1, 2, 255, 1440, 86400, 86401, 999999999, 1000000000, 1000000001, (-1000000001), 9223372036854775807, (-9223372036854775808)] : List Int) v1 h2))) (rfl : ([900, 0] : List Nat) = [900, 0])) True.intro) (by kernel_rfl)

-- loop.example/g03014/spec.l4At
def spec_l4At (a0 : l1Cur) : Option (Int × l1Cur) :=
  (spec_l1Once a0 9).bind fun v1 =>
  bif v1.1 then
  (spec_l1Odd v1.2).bind fun v4 =>
  some (v4.1, v4.2)
  else
  (spec_l1Below v1.2 200).bind fun v6 =>
  some (w64 (60 * v6.1), v6.2)
theorem spec_l4At_ok (a0 : l1Cur) (r : Int × l1Cur) (hM : spec_l4At a0 = some r) :
    Con Try.prog 56 [.c (.ptr 900 0)] [(900, .box 112 [.rs 1 (a0.b.map encU8), .v (.int .i64 a0.i), .v (.int .i64 a0.h)])] (.o (.c (.v (.int .i64 r.1)))) [(900, .box 112 [.rs 1 (r.2.b.map encU8), .v (.int .i64 r.2.i), .v (.int .i64 r.2.h)])] [] := by
  unfold spec_l4At at hM
  refine cn (N := 10) (pids := [900]) Try_mixed Try.func56 (by kernel_rfl) (by kernel_rfl) (by kernel_rfl) rfl fun ρ g w R => ?_
  obtain ⟨v1, h2, hM⟩ := bind_some hM
  rcases cond_cases hM with ⟨h3, hM⟩ | ⟨h3, hM⟩
  · obtain ⟨v4, h5, hM⟩ := bind_some hM
    have hE : some (v4.1, v4.2) = some r := hM
    have hE := Option.some.inj hE
    subst hE
    exact pr R 9999 [.call true [900] (.o (.c (.v (.bool v1.1)))) [(900, .box 112 [.rs 1 (v1.2.b.map encU8), .v (.int .i64 v1.2.i), .v (.int .i64 v1.2.h)])] [], .as 4 true, .call true [900] (.o (.c (.v (.int .i64 v4.1)))) [(900, .box 112 [.rs 1 (v4.2.b.map encU8), .v (.int .i64 v4.2.i), .v (.int .i64 v4.2.h)])] []] [] [900] [] (And.intro (And.intro (con_sw 900 900 (spec_l1Once_ok a0 9 v1 h2)) (rfl : ([900] : List Nat) = [900])) (And.intro h3 (And.intro (And.intro (con_sw 900 900 (spec_l1Odd_ok v1.2 v4 h5)) (rfl : ([900] : List Nat) = [900])) True.intro))) (by kernel_rfl)
  · obtain ⟨v6, h7, hM⟩ := bind_some hM
    have hE : some (w64 (60 * v6.1), v6.2) = some r := hM
    have hE := Option.some.inj hE
    subst hE
    exact pr R 9999 [.call true [900] (.o (.c (.v (.bool v1.1)))) [(900, .box 112 [.rs 1 (v1.2.b.map encU8), .v (.int .i64 v1.2.i), .v (.int .i64 v1.2.h)])] [], .as 4 false, .call true [900] (.o (.c (.v (.int .i64 v6.1)))) [(900, .box 112 [.rs 1 (v6.2.b.map encU8), .v (.int .i64 v6.2.i), .v (.int .i64 v6.2.h)])] []] [] [900] [] (And.intro (And.intro (con_sw 900 900 (spec_l1Once_ok a0 9 v1 h2)) (rfl : ([900] : List Nat) = [900])) (And.intro h3 (And.intro (And.intro (con_sw 900 900 (spec_l1Below_ok v1.2 200 v6 h7)) (rfl : ([900] : List Nat) = [900])) True.intro))) (by kernel_rfl)

-- loop.example/g03014/spec.DrawEarliestAt
def spec_DrawEarliestAt_x1 (v3 : (Network × l1Cur)) (v5 : (ByteArray × l1Cur)) (v7 : (ByteArray × l1Cur)) (v9 : (Int × l1Cur)) : St := ⟨[(2, .o (.c (.ptr 0 0))), (3, .o (.c (.v (.string v5.1)))), (4, .o (.c (.v (.string v7.1)))), (5, .o (.c (.v (.int .i64 v9.1))))], [(0, .box 32 [.rs 6 (v3.1.Legs.map Leg.enc), .rs 1 (v3.1.Off.map encI), .v (.int .i64 v3.1.Change)])]⟩
def spec_DrawEarliestAt_s1 (v3 : (Network × l1Cur)) : St := ⟨[(2, .o (.c (.ptr 0 0))), (6, .o (.c (.ptr 1 0))), (7, .o (.c (.ptr 2 0)))], [(0, .box 32 [.v (.slice none 0 0), .v (.slice none 0 0), .v (.int .i64 0)]), (1, .box 112 [.rs 1 (v3.2.b.map encU8), .v (.int .i64 v3.2.i), .v (.int .i64 v3.2.h)]), (2, .box 32 [.rs 6 (v3.1.Legs.map Leg.enc), .rs 1 (v3.1.Off.map encI), .v (.int .i64 v3.1.Change)])]⟩
def spec_DrawEarliestAt_o1 (v5 : (ByteArray × l1Cur)) (v7 : (ByteArray × l1Cur)) (v9 : (Int × l1Cur)) : List (List Orc) := [[], [], [], [.call true [1] (.o (.c (.v (.string v5.1)))) [(1, .box 112 [.rs 1 (v5.2.b.map encU8), .v (.int .i64 v5.2.i), .v (.int .i64 v5.2.h)])] []], [], [], [.call true [1] (.o (.c (.v (.string v7.1)))) [(1, .box 112 [.rs 1 (v7.2.b.map encU8), .v (.int .i64 v7.2.i), .v (.int .i64 v7.2.h)])] []], [], [.call true [1] (.o (.c (.v (.int .i64 v9.1)))) [(1, .box 112 [.rs 1 (v9.2.b.map encU8), .v (.int .i64 v9.2.i), .v (.int .i64 v9.2.h)])] []], [], [], [], []]
theorem spec_DrawEarliestAt_y1 (v3 : (Network × l1Cur)) (v5 : (ByteArray × l1Cur)) (v7 : (ByteArray × l1Cur)) (v9 : (Int × l1Cur)) (L : List Nat) : subX Try.prog [] 21 (opsOf (cAt Try.f64 [1, 1, 1, 0])) (spec_DrawEarliestAt_o1 v5 v7 v9) L (spec_DrawEarliestAt_s1 v3) = subX Try.prog [] 21 (opsOf (cAt Try.f64 [1, 1, 1, 0])) (spec_DrawEarliestAt_o1 v5 v7 v9) L (spec_DrawEarliestAt_s1 v3) := rfl
def spec_DrawEarliestAt_j1 (v3 : (Network × l1Cur)) (v5 : (ByteArray × l1Cur)) (v7 : (ByteArray × l1Cur)) (v9 : (Int × l1Cur)) : Option (Network × ByteArray × ByteArray × Int) :=
  some ((Network.mk v3.1.Legs v3.1.Off v3.1.Change), v5.1, v7.1, v9.1)
def spec_DrawEarliestAt (a0 : (List Int)) : Option (Network × ByteArray × ByteArray × Int) :=
  (spec_l1New a0).bind fun v1 =>
  (spec_l4Net v1).bind fun v3 =>
  (spec_l4Of_at1ro v3.2 v3.1).bind fun v5 =>
  (spec_l4Of_at1ro v5.2 v3.1).bind fun v7 =>
  (spec_l4At v7.2).bind fun v9 =>
  spec_DrawEarliestAt_j1 v3 v5 v7 v9
theorem spec_DrawEarliestAt_ok (a0 : (List Int)) (r : Network × ByteArray × ByteArray × Int) (hM : spec_DrawEarliestAt a0 = some r) :
    Con Try.prog 64 [.c (.rs 1 (a0.map encU8))] [] (.tup [.agg [.rs 6 (r.1.Legs.map Leg.enc), .rs 1 (r.1.Off.map encI), .v (.int .i64 r.1.Change)], .c (.v (.string r.2.1)), .c (.v (.string r.2.2.1)), .c (.v (.int .i64 r.2.2.2))]) [] [] := by
  unfold spec_DrawEarliestAt at hM
  refine cn (N := 21) (pids := []) Try_mixed Try.func64 (by kernel_rfl) (by kernel_rfl) (by kernel_rfl) rfl fun ρ g w R => ?_
  obtain ⟨v1, h2, hM⟩ := bind_some hM
  obtain ⟨v3, h4, hM⟩ := bind_some hM
  obtain ⟨v5, h6, hM⟩ := bind_some hM
  obtain ⟨v7, h8, hM⟩ := bind_some hM
  obtain ⟨v9, h10, hM⟩ := bind_some hM
  have J1 : ∀ (_ : Unit), spec_DrawEarliestAt_j1 v3 v5 v7 v9 = some r → Gr R [.code .ret] (spec_DrawEarliestAt_x1 v3 v5 v7 v9) := by
    intro _ hM
    unfold spec_DrawEarliestAt_j1 at hM
    have hE : some ((Network.mk v3.1.Legs v3.1.Off v3.1.Change), v5.1, v7.1, v9.1) = some r := hM
    have hE := Option.some.inj hE
    subst hE
    exact pr R 9999 [] [] [] [] True.intro (by kernel_rfl)
  exact pc R 8 [.new 0, .call true [] (.o (.c (.ptr 1 0))) [] [(1, .box 112 [.rs 1 (v1.b.map encU8), .v (.int .i64 v1.i), .v (.int .i64 v1.h)])], .call true [1] (.o (.agg [.rs 6 (v3.1.Legs.map Leg.enc), .rs 1 (v3.1.Off.map encI), .v (.int .i64 v3.1.Change)])) [(1, .box 112 [.rs 1 (v3.2.b.map encU8), .v (.int .i64 v3.2.i), .v (.int .i64 v3.2.h)])] [], .new 2, .xg (spec_DrawEarliestAt_o1 v5 v7 v9) [.keep [2, 6, 7] [0, 1, 2]] [.keep [2, 3, 4, 5] [0]] (spec_DrawEarliestAt_x1 v3 v5 v7 v9) [[1, 4, 7], [0, 1, 4, 7], [1, 2, 4, 7], [1, 4, 5, 7], [0, 1, 2, 4, 7], [0, 1, 4, 5, 7], [1, 2, 3, 4, 7], [1, 2, 4, 5, 7], [0, 1, 2, 3, 4, 7], [0, 1, 2, 4, 5, 7], [1, 2, 3, 4, 5, 7], [0, 1, 2, 3, 4, 5, 7], [1, 2, 3, 4, 5, 6, 7], [0, 1, 2, 3, 4, 5, 6, 7], [1, 2, 3, 4, 5, 6, 7, 8], [0, 1, 2, 3, 4, 5, 6, 7, 8]]] [] (And.intro (And.intro (con_sw 1000 1 (spec_l1New_ok a0 v1 h2)) (rfl : ([] : List Nat) = [])) (And.intro (And.intro (con_sw 900 1 (spec_l4Net_ok v1 v3 h4)) (rfl : ([1] : List Nat) = [1])) (And.intro (spec_DrawEarliestAt_y1 v3 v5 v7 v9 [1, 4, 7]) (And.intro (spec_DrawEarliestAt_y1 v3 v5 v7 v9 [0, 1, 4, 7]) (And.intro (spec_DrawEarliestAt_y1 v3 v5 v7 v9 [1, 2, 4, 7]) (And.intro (spec_DrawEarliestAt_y1 v3 v5 v7 v9 [1, 4, 5, 7]) (And.intro (spec_DrawEarliestAt_y1 v3 v5 v7 v9 [0, 1, 2, 4, 7]) (And.intro (spec_DrawEarliestAt_y1 v3 v5 v7 v9 [0, 1, 4, 5, 7]) (And.intro (spec_DrawEarliestAt_y1 v3 v5 v7 v9 [0, 1, 2, 4, 7]) (And.intro (And.intro (con_sw 900 1 (spec_l4Of_at1ro_ok v3.2 v3.1 v5 h6)) (rfl : ([1] : List Nat) = [1])) (And.intro (spec_DrawEarliestAt_y1 v3 v5 v7 v9 [1, 2, 3, 4, 7]) (And.intro (spec_DrawEarliestAt_y1 v3 v5 v7 v9 [1, 2, 4, 5, 7]) (And.intro (spec_DrawEarliestAt_y1 v3 v5 v7 v9 [0, 1, 4, 5, 7]) (And.intro (spec_DrawEarliestAt_y1 v3 v5 v7 v9 [1, 2, 4, 5, 7]) (And.intro (And.intro (con_sw 900 1 (spec_l4Of_at1ro_ok v3.2 v3.1 v5 h6)) (rfl : ([1] : List Nat) = [1])) (And.intro (spec_DrawEarliestAt_y1 v3 v5 v7 v9 [0, 1, 2, 3, 4, 7]) (And.intro (spec_DrawEarliestAt_y1 v3 v5 v7 v9 [0, 1, 2, 4, 5, 7]) (And.intro (spec_DrawEarliestAt_y1 v3 v5 v7 v9 [0, 1, 2, 4, 5, 7]) (And.intro (spec_DrawEarliestAt_y1 v3 v5 v7 v9 [0, 1, 2, 3, 4, 7]) (And.intro (spec_DrawEarliestAt_y1 v3 v5 v7 v9 [1, 2, 3, 4, 5, 7]) (And.intro (spec_DrawEarliestAt_y1 v3 v5 v7 v9 [0, 1, 2, 4, 5, 7]) (And.intro (And.intro (con_sw 900 1 (spec_l4Of_at1ro_ok v3.2 v3.1 v5 h6)) (rfl : ([1] : List Nat) = [1])) (And.intro (spec_DrawEarliestAt_y1 v3 v5 v7 v9 [1, 2, 3, 4, 5, 7]) (And.intro (spec_DrawEarliestAt_y1 v3 v5 v7 v9 [0, 1, 2, 3, 4, 5, 7]) (And.intro (And.intro (con_sw 900 1 (spec_l4Of_at1ro_ok v3.2 v3.1 v5 h6)) (rfl : ([1] : List Nat) = [1])) (And.intro (spec_DrawEarliestAt_y1 v3 v5 v7 v9 [0, 1, 2, 3, 4, 5, 7]) (And.intro (spec_DrawEarliestAt_y1 v3 v5 v7 v9 [0, 1, 2, 3, 4, 5, 7]) (And.intro (And.intro (con_sw 900 1 (spec_l4Of_at1ro_ok v5.2 v3.1 v7 h8)) (rfl : ([1] : List Nat) = [1])) (And.intro (spec_DrawEarliestAt_y1 v3 v5 v7 v9 [1, 2, 3, 4, 5, 6, 7]) (And.intro (And.intro (con_sw 900 1 (spec_l4Of_at1ro_ok v5.2 v3.1 v7 h8)) (rfl : ([1] : List Nat) = [1])) (And.intro (spec_DrawEarliestAt_y1 v3 v5 v7 v9 [0, 1, 2, 3, 4, 5, 6, 7]) (And.intro (spec_DrawEarliestAt_y1 v3 v5 v7 v9 [0, 1, 2, 3, 4, 5, 6, 7]) (And.intro (And.intro (con_sw 900 1 (spec_l4At_ok v7.2 v9 h10)) (rfl : ([1] : List Nat) = [1])) (And.intro (spec_DrawEarliestAt_y1 v3 v5 v7 v9 [1, 2, 3, 4, 5, 6, 7, 8]) (And.intro (And.intro (con_sw 900 1 (spec_l4At_ok v7.2 v9 h10)) (rfl : ([1] : List Nat) = [1])) (And.intro (spec_DrawEarliestAt_y1 v3 v5 v7 v9 [0, 1, 2, 3, 4, 5, 6, 7, 8]) (And.intro (spec_DrawEarliestAt_y1 v3 v5 v7 v9 [0, 1, 2, 3, 4, 5, 6, 7, 8]) (And.intro (rfl : (spec_DrawEarliestAt_x1 v3 v5 v7 v9) = (spec_DrawEarliestAt_x1 v3 v5 v7 v9)) True.intro)))))))))))))))))))))))))))))))))))))) (by kernel_rfl) (J1 () hM)

-- loop.example/g03014/spec.DrawFindWay
def spec_DrawFindWay (a0 : (List Int)) : Option (Network × ByteArray × ByteArray × Int) :=
  (spec_DrawEarliestAt a0).bind fun v1 =>
  some ((Network.mk v1.1.Legs v1.1.Off v1.1.Change), v1.2.1, v1.2.2.1, v1.2.2.2)
theorem spec_DrawFindWay_ok (a0 : (List Int)) (r : Network × ByteArray × ByteArray × Int) (hM : spec_DrawFindWay a0 = some r) :
    Con Try.prog 23 [.c (.rs 1 (a0.map encU8))] [] (.tup [.agg [.rs 6 (r.1.Legs.map Leg.enc), .rs 1 (r.1.Off.map encI), .v (.int .i64 r.1.Change)], .c (.v (.string r.2.1)), .c (.v (.string r.2.2.1)), .c (.v (.int .i64 r.2.2.2))]) [] [] := by
  unfold spec_DrawFindWay at hM
  refine cn (N := 12) (pids := []) Try_mixed Try.func23 (by kernel_rfl) (by kernel_rfl) (by kernel_rfl) rfl fun ρ g w R => ?_
  obtain ⟨v1, h2, hM⟩ := bind_some hM
  have hE : some ((Network.mk v1.1.Legs v1.1.Off v1.1.Change), v1.2.1, v1.2.2.1, v1.2.2.2) = some r := hM
  have hE := Option.some.inj hE
  subst hE
  exact pr R 9999 [.new 0, .call true [] (.tup [.agg [.rs 6 (v1.1.Legs.map Leg.enc), .rs 1 (v1.1.Off.map encI), .v (.int .i64 v1.1.Change)], .c (.v (.string v1.2.1)), .c (.v (.string v1.2.2.1)), .c (.v (.int .i64 v1.2.2.2))]) [] []] [] [] [] (And.intro (And.intro (spec_DrawEarliestAt_ok a0 v1 h2) (rfl : ([] : List Nat) = [])) True.intro) (by kernel_rfl)

-- loop.example/g03014/impl.BestArrivals
def impl_BestArrivals_x1 (v6 : (List Int)) : St := ⟨[(8, .o (.c (.sl 2)))], [(2, .row 3 1 (v6.map encI))]⟩
def impl_BestArrivals (a0 : Network) (a1 : ByteArray) (a2 : Int) (a3 : Int) : Option (List Int) :=
  (impl_IsNetwork a0).bind fun v1 =>
  bif (!v1) then
  some ([] : List Int)
  else
  (impl_nextOf a0).bind fun v4 =>
  (impl_arrivals_at1fn83 a0 v4 a1 a2 a3).bind fun v6 =>
  some v6
theorem impl_BestArrivals_ok (a0 : Network) (a1 : ByteArray) (a2 : Int) (a3 : Int) (r : (List Int)) (hM : impl_BestArrivals a0 a1 a2 a3 = some r) :
    Con Try.prog 66 [.agg [.rs 6 (a0.Legs.map Leg.enc), .rs 1 (a0.Off.map encI), .v (.int .i64 a0.Change)], .c (.v (.string a1)), .c (.v (.int .i64 a2)), .c (.v (.int .i64 a3))] [] (.o (.c (.sl 1000))) [] [(1000, .row 3 1 (r.map encI))] := by
  unfold impl_BestArrivals at hM
  refine cn (N := 19) (pids := []) Try_mixed Try.func66 (by kernel_rfl) (by kernel_rfl) (by kernel_rfl) rfl fun ρ g w R => ?_
  obtain ⟨v1, h2, hM⟩ := bind_some hM
  rcases cond_cases hM with ⟨h3, hM⟩ | ⟨h3, hM⟩
  · have hE : some ([] : List Int) = some r := hM
    have hE := Option.some.inj hE
    subst hE
    exact pr R 9999 [.new 0, .call false [] (.o (.c (.v (.bool v1)))) [] [], .as 11 true] [.nl 8 1000 3 1] [] [1000] (And.intro (impl_IsNetwork_ok a0 v1 h2) (And.intro h3 True.intro)) (by kernel_rfl)
  · obtain ⟨v4, h5, hM⟩ := bind_some hM
    obtain ⟨v6, h7, hM⟩ := bind_some hM
    have hE : some v6 = some r := hM
    have hE := Option.some.inj hE
    subst hE
    exact pr R 9999 [.new 0, .call false [] (.o (.c (.v (.bool v1)))) [] [], .as 11 false, .xo [[], [], [.call true [] (.o (.c (.fn 83 [1]))) [] [(1, .box 32 [.rs 6 (v4.Legs.map Leg.enc), .rs 1 (v4.Off.map encI), .v (.int .i64 v4.Change)])]], [], [], [], [.call true [1] (.o (.c (.sl 2))) [(1, .box 32 [.rs 6 (v4.Legs.map Leg.enc), .rs 1 (v4.Off.map encI), .v (.int .i64 v4.Change)])] [(2, .row 3 1 (v6.map encI))]], []] [.keep [8] [2]] (impl_BestArrivals_x1 v6)] [.sw 2 1000] [] [1000] (And.intro (impl_IsNetwork_ok a0 v1 h2) (And.intro h3 (And.intro (And.intro (con_sw 1000 1 (impl_nextOf_ok a0 v4 h5)) (rfl : ([] : List Nat) = [])) (And.intro (And.intro (con_sw 901 1 (con_sw 1000 2 (impl_arrivals_at1fn83_ok a0 v4 a1 a2 a3 v6 h7))) (rfl : ([1] : List Nat) = [1])) (And.intro (rfl : (impl_BestArrivals_x1 v6) = (impl_BestArrivals_x1 v6)) (And.intro (And.intro (con_sw 1000 1 (impl_nextOf_ok a0 v4 h5)) (rfl : ([] : List Nat) = [])) (And.intro (And.intro (con_sw 901 1 (con_sw 1000 2 (impl_arrivals_at1fn83_ok a0 v4 a1 a2 a3 v6 h7))) (rfl : ([1] : List Nat) = [1])) (And.intro (rfl : (impl_BestArrivals_x1 v6) = (impl_BestArrivals_x1 v6)) (And.intro (And.intro (con_sw 1000 1 (impl_nextOf_ok a0 v4 h5)) (rfl : ([] : List Nat) = [])) (And.intro (And.intro (con_sw 901 1 (con_sw 1000 2 (impl_arrivals_at1fn83_ok a0 v4 a1 a2 a3 v6 h7))) (rfl : ([1] : List Nat) = [1])) (And.intro (rfl : (impl_BestArrivals_x1 v6) = (impl_BestArrivals_x1 v6)) True.intro))))))))))) (by kernel_rfl)

-- loop.example/g03014/impl.EarliestAt
def impl_EarliestAt (a0 : Network) (a1 : ByteArray) (a2 : ByteArray) (a3 : Int) : Option Int :=
  (impl_PlacesOf a0).bind fun v1 =>
  (impl_BestArrivals a0 a1 a3 (v1.length : Int)).bind fun v3 =>
  (impl_placeAt v1 a2).bind fun v5 =>
  bif (decide (v5 < 0)) then
  some (-1)
  else
  bif ((v3.length : Int) == 0) then
  some (-1)
  else
  (gi v3 v5).bind fun v9 =>
  some v9
theorem impl_EarliestAt_ok (a0 : Network) (a1 : ByteArray) (a2 : ByteArray) (a3 : Int) (r : Int) (hM : impl_EarliestAt a0 a1 a2 a3 = some r) :
    Con Try.prog 24 [.agg [.rs 6 (a0.Legs.map Leg.enc), .rs 1 (a0.Off.map encI), .v (.int .i64 a0.Change)], .c (.v (.string a1)), .c (.v (.string a2)), .c (.v (.int .i64 a3))] [] (.o (.c (.v (.int .i64 r)))) [] [] := by
  unfold impl_EarliestAt at hM
  refine cn (N := 34) (pids := []) Try_mixed Try.func24 (by kernel_rfl) (by kernel_rfl) (by kernel_rfl) rfl fun ρ g w R => ?_
  obtain ⟨v1, h2, hM⟩ := bind_some hM
  obtain ⟨v3, h4, hM⟩ := bind_some hM
  obtain ⟨v5, h6, hM⟩ := bind_some hM
  rcases cond_cases hM with ⟨h7, hM⟩ | ⟨h7, hM⟩
  · have hE : some (-1) = some r := hM
    have hE := Option.some.inj hE
    subst hE
    exact pr R 9999 [.new 0, .call false [] (.o (.c (.sl 1))) [] [(1, .row 9 1 (v1.map encS))], .ln (v1.length), .call false [] (.o (.c (.sl 2))) [] [(2, .row 3 1 (v3.map encI))], .call false [] (.o (.c (.v (.int .i64 v5)))) [] [], .as 25 true] [] [] [] (And.intro (And.intro (con_sw 1000 1 (impl_PlacesOf_ok a0 v1 h2)) (rfl : ([] : List Nat) = [])) (And.intro (lenm encS v1) (And.intro (And.intro (con_sw 1000 2 (impl_BestArrivals_ok a0 a1 a3 (v1.length : Int) v3 h4)) (rfl : ([] : List Nat) = [])) (And.intro (impl_placeAt_ok v1 a2 v5 h6) (And.intro h7 True.intro))))) (by kernel_rfl)
  · rcases cond_cases hM with ⟨h8, hM⟩ | ⟨h8, hM⟩
    · have hE : some (-1) = some r := hM
      have hE := Option.some.inj hE
      subst hE
      exact pr R 9999 [.new 0, .call false [] (.o (.c (.sl 1))) [] [(1, .row 9 1 (v1.map encS))], .ln (v1.length), .call false [] (.o (.c (.sl 2))) [] [(2, .row 3 1 (v3.map encI))], .call false [] (.o (.c (.v (.int .i64 v5)))) [] [], .as 25 false, .ln (v3.length), .as 29 true] [] [] [] (And.intro (And.intro (con_sw 1000 1 (impl_PlacesOf_ok a0 v1 h2)) (rfl : ([] : List Nat) = [])) (And.intro (lenm encS v1) (And.intro (And.intro (con_sw 1000 2 (impl_BestArrivals_ok a0 a1 a3 (v1.length : Int) v3 h4)) (rfl : ([] : List Nat) = [])) (And.intro (impl_placeAt_ok v1 a2 v5 h6) (And.intro h7 (And.intro (lenm encI v3) (And.intro h8 True.intro))))))) (by kernel_rfl)
    · obtain ⟨v9, h10, hM⟩ := bind_some hM
      have hE : some v9 = some r := hM
      have hE := Option.some.inj hE
      subst hE
      exact pr R 9999 [.new 0, .call false [] (.o (.c (.sl 1))) [] [(1, .row 9 1 (v1.map encS))], .ln (v1.length), .call false [] (.o (.c (.sl 2))) [] [(2, .row 3 1 (v3.map encI))], .call false [] (.o (.c (.v (.int .i64 v5)))) [] [], .as 25 false, .ln (v3.length), .as 29 false, .ix (encI v9)] [] [] [] (And.intro (And.intro (con_sw 1000 1 (impl_PlacesOf_ok a0 v1 h2)) (rfl : ([] : List Nat) = [])) (And.intro (lenm encS v1) (And.intro (And.intro (con_sw 1000 2 (impl_BestArrivals_ok a0 a1 a3 (v1.length : Int) v3 h4)) (rfl : ([] : List Nat) = [])) (And.intro (impl_placeAt_ok v1 a2 v5 h6) (And.intro h7 (And.intro (lenm encI v3) (And.intro h8 (And.intro (gi_lt encI h10) (And.intro ((gi_map encI h10).2) True.intro))))))))) (by kernel_rfl)

-- loop.example/g03014/impl.Max
def impl_Max (a0 : Int) (a1 : Int) : Option Int :=
  some (if a1 > a0 then a1 else a0)
theorem impl_Max_ok (a0 : Int) (a1 : Int) (r : Int) (hM : impl_Max a0 a1 = some r) :
    Con Try.prog 21 [.c (.v (.int .i64 a0)), .c (.v (.int .i64 a1))] [] (.o (.c (.v (.int .i64 r)))) [] [] := by
  unfold impl_Max at hM
  refine cn (N := 8) (pids := []) Try_mixed Try.func21 (by kernel_rfl) (by kernel_rfl) (by kernel_rfl) rfl fun ρ g w R => ?_
  have hE : some (if a1 > a0 then a1 else a0) = some r := hM
  have hE := Option.some.inj hE
  subst hE
  exact pr R 9999 [] [] [] [] True.intro (by kernel_rfl)

-- loop.example/g03014/impl.RunsOn
def impl_RunsOn (a0 : Network) (a1 : Int) (a2 : Int) : Option Bool :=
  (impl_IsNetwork a0).bind fun v1 =>
  bif v1 then
  (impl_runs a0 a1 a2).bind fun v4 =>
  some v4
  else
  some false
theorem impl_RunsOn_ok (a0 : Network) (a1 : Int) (a2 : Int) (r : Bool) (hM : impl_RunsOn a0 a1 a2 = some r) :
    Con Try.prog 100 [.agg [.rs 6 (a0.Legs.map Leg.enc), .rs 1 (a0.Off.map encI), .v (.int .i64 a0.Change)], .c (.v (.int .i64 a1)), .c (.v (.int .i64 a2))] [] (.o (.c (.v (.bool r)))) [] [] := by
  unfold impl_RunsOn at hM
  refine cn (N := 15) (pids := []) Try_mixed Try.func100 (by kernel_rfl) (by kernel_rfl) (by kernel_rfl) rfl fun ρ g w R => ?_
  obtain ⟨v1, h2, hM⟩ := bind_some hM
  rcases cond_cases hM with ⟨h3, hM⟩ | ⟨h3, hM⟩
  · obtain ⟨v4, h5, hM⟩ := bind_some hM
    have hE : some v4 = some r := hM
    have hE := Option.some.inj hE
    subst hE
    exact pr R 9999 [.new 0, .call false [] (.o (.c (.v (.bool v1)))) [] [], .as 9 true, .call false [] (.o (.c (.v (.bool v4)))) [] []] [] [] [] (And.intro (impl_IsNetwork_ok a0 v1 h2) (And.intro h3 (And.intro (impl_runs_ok a0 a1 a2 v4 h5) True.intro))) (by kernel_rfl)
  · have hE : some false = some r := hM
    have hE := Option.some.inj hE
    subst hE
    exact pr R 9999 [.new 0, .call false [] (.o (.c (.v (.bool v1)))) [] [], .as 9 false] [] [] [] (And.intro (impl_IsNetwork_ok a0 v1 h2) (And.intro h3 True.intro)) (by kernel_rfl)

-- loop.example/g03014/impl.IsTrip
def impl_IsTrip (a0 : Network) (a1 : Trip) : Option Bool :=
  (impl_RunsOn a0 a1.Leg a1.Day).bind fun v1 =>
  some v1
theorem impl_IsTrip_ok (a0 : Network) (a1 : Trip) (r : Bool) (hM : impl_IsTrip a0 a1 = some r) :
    Con Try.prog 62 [.agg [.rs 6 (a0.Legs.map Leg.enc), .rs 1 (a0.Off.map encI), .v (.int .i64 a0.Change)], .c (.v (.agg (Trip.enc a1).toArray))] [] (.o (.c (.v (.bool r)))) [] [] := by
  unfold impl_IsTrip at hM
  refine cn (N := 11) (pids := []) Try_mixed Try.func62 (by kernel_rfl) (by kernel_rfl) (by kernel_rfl) rfl fun ρ g w R => ?_
  obtain ⟨v1, h2, hM⟩ := bind_some hM
  have hE : some v1 = some r := hM
  have hE := Option.some.inj hE
  subst hE
  exact pr R 9999 [.new 0, .new 1, .call false [] (.o (.c (.v (.bool v1)))) [] []] [] [] [] (And.intro (impl_RunsOn_ok a0 a1.Leg a1.Day v1 h2) True.intro) (by kernel_rfl)

-- loop.example/g03014/impl.IsWay
def impl_IsWay_L1_b (a0 : Network) (a1 : (List Trip)) (s12 : Int) (s13 : ByteArray) (s14 : Int) : Option (Ctl (Int × ByteArray × Int) ByteArray Bool) :=
  bif (decide (s14 < (a1.length : Int))) then
  (gi a1 s14).bind fun v17 =>
  (impl_IsTrip a0 v17).bind fun v19 =>
  bif (!v19) then
  some (.ret false)
  else
  (gi a0.Legs v17.Leg).bind fun v22 =>
  bif (!(v22.From.toList == s13.toList)) then
  some (.ret false)
  else
  (impl_starts a0 v17).bind fun v25 =>
  bif (decide (v25 < s12)) then
  some (.ret false)
  else
  (gi a0.Legs v17.Leg).bind fun v28 =>
  (gi a1 s14).bind fun v30 =>
  (impl_ends a0 v30).bind fun v32 =>
  some (.next (w64 (v32 + a0.Change), v28.To, w64 (s14 + 1)))
  else
  some (.brk s13)
def impl_IsWay_L1 (a0 : Network) (a1 : (List Trip)) (s : Int × ByteArray × Int) : Option (Ctl (Int × ByteArray × Int) ByteArray Bool) := impl_IsWay_L1_b a0 a1 s.1 s.2.1 s.2.2
def impl_IsWay_L1_s (a0 : Network) (a1 : (List Trip)) (a3 : ByteArray) (s12 : Int) (s13 : ByteArray) (s14 : Int) : St := ⟨[(1, .o (.c (.rs 2 (a1.map Trip.enc)))), (3, .o (.c (.v (.string a3)))), (4, .o (.c (.v (.int .i64 s12)))), (5, .o (.c (.ptr 0 0))), (12, .o (.c (.v (.string s13)))), (33, .o (.c (.rs 2 (a1.map Trip.enc)))), (34, .o (.c (.v (.int .i64 (a1.length : Int))))), (35, .o (.c (.v (.int .i64 s14))))], [(0, .box 32 [.rs 6 (a0.Legs.map Leg.enc), .rs 1 (a0.Off.map encI), .v (.int .i64 a0.Change)])]⟩
def impl_IsWay_L1_S (a0 : Network) (a1 : (List Trip)) (a3 : ByteArray) (s : Int × ByteArray × Int) : St := impl_IsWay_L1_s a0 a1 a3 s.1 s.2.1 s.2.2
def impl_IsWay_L1_a (a3 : ByteArray) (s15 : ByteArray) : Option Bool :=
  some (s15.toList == a3.toList)
def impl_IsWay_L1_k (a3 : ByteArray) (x : (ByteArray) ⊕ (Bool)) : Option Bool := match x with
  | .inl t => impl_IsWay_L1_a a3 t
  | .inr y => some y
def impl_IsWay (a0 : Network) (a1 : (List Trip)) (a2 : ByteArray) (a3 : ByteArray) (a4 : Int) : Option Bool :=
  (impl_PlacesOf a0).bind fun v1 =>
  (impl_IsNetwork a0).bind fun v3 =>
  bif (!v3) then
  some false
  else
  (impl_placeAt v1 a2).bind fun v6 =>
  bif (decide (v6 < 0)) then
  some false
  else
  (impl_placeAt v1 a3).bind fun v9 =>
  bif (decide (v9 < 0)) then
  some false
  else
  (loopM (impl_IsWay_L1 a0 a1) big (a4, a2, 0)).bind (impl_IsWay_L1_k a3)
theorem impl_IsWay_ok (a0 : Network) (a1 : (List Trip)) (a2 : ByteArray) (a3 : ByteArray) (a4 : Int) (r : Bool) (hM : impl_IsWay a0 a1 a2 a3 a4 = some r) :
    Con Try.prog 25 [.agg [.rs 6 (a0.Legs.map Leg.enc), .rs 1 (a0.Off.map encI), .v (.int .i64 a0.Change)], .c (.rs 2 (a1.map Trip.enc)), .c (.v (.string a2)), .c (.v (.string a3)), .c (.v (.int .i64 a4))] [] (.o (.c (.v (.bool r)))) [] [] := by
  unfold impl_IsWay at hM
  refine cn (N := 82) (pids := []) Try_mixed Try.func25 (by kernel_rfl) (by kernel_rfl) (by kernel_rfl) rfl fun ρ g w R => ?_
  obtain ⟨v1, h2, hM⟩ := bind_some hM
  obtain ⟨v3, h4, hM⟩ := bind_some hM
  rcases cond_cases hM with ⟨h5, hM⟩ | ⟨h5, hM⟩
  · have hE : some false = some r := hM
    have hE := Option.some.inj hE
    subst hE
    exact pr R 9999 [.new 0, .call false [] (.o (.c (.sl 1))) [] [(1, .row 9 1 (v1.map encS))], .call false [] (.o (.c (.v (.bool v3)))) [] [], .as 20 true] [] [] [] (And.intro (And.intro (con_sw 1000 1 (impl_PlacesOf_ok a0 v1 h2)) (rfl : ([] : List Nat) = [])) (And.intro (impl_IsNetwork_ok a0 v3 h4) (And.intro h5 True.intro))) (by kernel_rfl)
  · obtain ⟨v6, h7, hM⟩ := bind_some hM
    rcases cond_cases hM with ⟨h8, hM⟩ | ⟨h8, hM⟩
    · have hE : some false = some r := hM
      have hE := Option.some.inj hE
      subst hE
      exact pr R 9999 [.new 0, .call false [] (.o (.c (.sl 1))) [] [(1, .row 9 1 (v1.map encS))], .call false [] (.o (.c (.v (.bool v3)))) [] [], .as 20 false, .call false [] (.o (.c (.v (.int .i64 v6)))) [] [], .as 26 true] [] [] [] (And.intro (And.intro (con_sw 1000 1 (impl_PlacesOf_ok a0 v1 h2)) (rfl : ([] : List Nat) = [])) (And.intro (impl_IsNetwork_ok a0 v3 h4) (And.intro h5 (And.intro (impl_placeAt_ok v1 a2 v6 h7) (And.intro h8 True.intro))))) (by kernel_rfl)
    · obtain ⟨v9, h10, hM⟩ := bind_some hM
      rcases cond_cases hM with ⟨h11, hM⟩ | ⟨h11, hM⟩
      · have hE : some false = some r := hM
        have hE := Option.some.inj hE
        subst hE
        exact pr R 9999 [.new 0, .call false [] (.o (.c (.sl 1))) [] [(1, .row 9 1 (v1.map encS))], .call false [] (.o (.c (.v (.bool v3)))) [] [], .as 20 false, .call false [] (.o (.c (.v (.int .i64 v6)))) [] [], .as 26 false, .call false [] (.o (.c (.v (.int .i64 v9)))) [] [], .as 31 true] [] [] [] (And.intro (And.intro (con_sw 1000 1 (impl_PlacesOf_ok a0 v1 h2)) (rfl : ([] : List Nat) = [])) (And.intro (impl_IsNetwork_ok a0 v3 h4) (And.intro h5 (And.intro (impl_placeAt_ok v1 a2 v6 h7) (And.intro h8 (And.intro (impl_placeAt_ok v1 a3 v9 h10) (And.intro h11 True.intro))))))) (by kernel_rfl)
      · have K1 : ∀ (s15 : ByteArray), impl_IsWay_L1_a a3 s15 = some r → Gr R [.code (cAt Try.f25 [1, 1, 1, 1, 1])] (⟨[(3, .o (.c (.v (.string a3)))), (12, .o (.c (.v (.string s15))))], []⟩) := by
          intro s15 hM
          unfold impl_IsWay_L1_a at hM
          have hE : some (s15.toList == a3.toList) = some r := hM
          have hE := Option.some.inj hE
          subst hE
          exact pr R 9999 [] [] [] [] True.intro (by kernel_rfl)
        refine pc R 9999 [.new 0, .call false [] (.o (.c (.sl 1))) [] [(1, .row 9 1 (v1.map encS))], .call false [] (.o (.c (.v (.bool v3)))) [] [], .as 20 false, .call false [] (.o (.c (.v (.int .i64 v6)))) [] [], .as 26 false, .call false [] (.o (.c (.v (.int .i64 v9)))) [] [], .as 31 false, .ln (a1.length)] [.keep [1, 3, 4, 5, 12, 33, 34, 35] [0]] (k' := [.code (.loop (cAt Try.f25 [1, 1, 1, 1, 0, 1, 0, 0])), .blk 0, .code (cAt Try.f25 [1, 1, 1, 1, 1])]) (S' := impl_IsWay_L1_S a0 a1 a3 (a4, a2, 0)) (And.intro (And.intro (con_sw 1000 1 (impl_PlacesOf_ok a0 v1 h2)) (rfl : ([] : List Nat) = [])) (And.intro (impl_IsNetwork_ok a0 v3 h4) (And.intro h5 (And.intro (impl_placeAt_ok v1 a2 v6 h7) (And.intro h8 (And.intro (impl_placeAt_ok v1 a3 v9 h10) (And.intro h11 (And.intro (lenm Trip.enc a1) True.intro)))))))) (by kernel_rfl) ?_
        refine lq (impl_IsWay_L1_S a0 a1 a3) (body := impl_IsWay_L1 a0 a1) (k := impl_IsWay_L1_k a3) hM fun m1 s c1 hM hK1 => ?_
        obtain ⟨s12, s13, s14⟩ := s
        have hM : impl_IsWay_L1_b a0 a1 s12 s13 s14 = some c1 := hM
        unfold impl_IsWay_L1_b at hM
        rcases cond_cases hM with ⟨h16, hM⟩ | ⟨h16, hM⟩
        · obtain ⟨v17, h18, hM⟩ := bind_some hM
          obtain ⟨v19, h20, hM⟩ := bind_some hM
          rcases cond_cases hM with ⟨h21, hM⟩ | ⟨h21, hM⟩
          · have hE : some (Ctl.ret false) = some c1 := hM
            have hE := Option.some.inj hE
            subst hE
            have hE : some false = some r := hK1
            have hE := Option.some.inj hE
            subst hE
            exact pr R 9999 [.as 36 true, .ix (Trip.enc v17), .new 2, .call false [] (.o (.c (.v (.bool v19)))) [] [], .as 44 true] [] [] [] (And.intro h16 (And.intro (gi_map Trip.enc h18) (And.intro (impl_IsTrip_ok a0 v17 v19 h20) (And.intro h21 True.intro)))) (by kernel_rfl)
          · obtain ⟨v22, h23, hM⟩ := bind_some hM
            rcases cond_cases hM with ⟨h24, hM⟩ | ⟨h24, hM⟩
            · have hE : some (Ctl.ret false) = some c1 := hM
              have hE := Option.some.inj hE
              subst hE
              have hE : some false = some r := hK1
              have hE := Option.some.inj hE
              subst hE
              exact pr R 9999 [.as 36 true, .ix (Trip.enc v17), .new 2, .call false [] (.o (.c (.v (.bool v19)))) [] [], .as 44 false, .ix (Leg.enc v22), .as 55 true] [] [] [] (And.intro h16 (And.intro (gi_map Trip.enc h18) (And.intro (impl_IsTrip_ok a0 v17 v19 h20) (And.intro h21 (And.intro (gi_map Leg.enc h23) (And.intro h24 True.intro)))))) (by kernel_rfl)
            · obtain ⟨v25, h26, hM⟩ := bind_some hM
              rcases cond_cases hM with ⟨h27, hM⟩ | ⟨h27, hM⟩
              · have hE : some (Ctl.ret false) = some c1 := hM
                have hE := Option.some.inj hE
                subst hE
                have hE : some false = some r := hK1
                have hE := Option.some.inj hE
                subst hE
                exact pr R 9999 [.as 36 true, .ix (Trip.enc v17), .new 2, .call false [] (.o (.c (.v (.bool v19)))) [] [], .as 44 false, .ix (Leg.enc v22), .as 55 false, .call false [] (.o (.c (.v (.int .i64 v25)))) [] [], .as 61 true] [] [] [] (And.intro h16 (And.intro (gi_map Trip.enc h18) (And.intro (impl_IsTrip_ok a0 v17 v19 h20) (And.intro h21 (And.intro (gi_map Leg.enc h23) (And.intro h24 (And.intro (impl_starts_ok a0 v17 v25 h26) (And.intro h27 True.intro)))))))) (by kernel_rfl)
              · obtain ⟨v28, h29, hM⟩ := bind_some hM
                obtain ⟨v30, h31, hM⟩ := bind_some hM
                obtain ⟨v32, h33, hM⟩ := bind_some hM
                have hE : some (Ctl.next (w64 (v32 + a0.Change), v28.To, w64 (s14 + 1))) = some c1 := hM
                have hE := Option.some.inj hE
                subst hE
                exact pc R 9999 [.as 36 true, .ix (Trip.enc v17), .new 2, .call false [] (.o (.c (.v (.bool v19)))) [] [], .as 44 false, .ix (Leg.enc v22), .as 55 false, .call false [] (.o (.c (.v (.int .i64 v25)))) [] [], .as 61 false, .ix (Leg.enc v28), .ix (Trip.enc v30), .call false [] (.o (.c (.v (.int .i64 v32)))) [] []] [.keep [1, 3, 4, 5, 12, 33, 34, 35] [0]] (And.intro h16 (And.intro (gi_map Trip.enc h18) (And.intro (impl_IsTrip_ok a0 v17 v19 h20) (And.intro h21 (And.intro (gi_map Leg.enc h23) (And.intro h24 (And.intro (impl_starts_ok a0 v17 v25 h26) (And.intro h27 (And.intro (gi_map Leg.enc h29) (And.intro (gi_map Trip.enc h31) (And.intro (impl_ends_ok a0 v30 v32 h33) True.intro))))))))))) (by kernel_rfl) (li (Sf := impl_IsWay_L1_S a0 a1 a3) (M := Mk (impl_IsWay_L1 a0 a1) (impl_IsWay_L1_k a3) r) (k := [.blk 0, .code (cAt Try.f25 [1, 1, 1, 1, 1])]) (Nat.lt_succ_self m1) hK1)
        · have hE : some (Ctl.brk s13) = some c1 := hM
          have hE := Option.some.inj hE
          subst hE
          exact pc R 5 [.as 36 false] [.keep [3, 12] []] (And.intro h16 True.intro) (by kernel_rfl) (K1 s13 hK1)

-- loop.example/g03014/impl.WayEnds
def impl_WayEnds_L1_b (a0 : Network) (a1 : (List Trip)) (s4 : Int) (s5 : Int) : Option (Ctl (Int × Int) Int Int) :=
  bif (decide (s5 < (a1.length : Int))) then
  (gi a1 s5).bind fun v8 =>
  (impl_IsTrip a0 v8).bind fun v10 =>
  bif (!v10) then
  some (.ret (-1))
  else
  (impl_ends a0 v8).bind fun v13 =>
  some (.next (v13, w64 (s5 + 1)))
  else
  some (.brk s4)
def impl_WayEnds_L1 (a0 : Network) (a1 : (List Trip)) (s : Int × Int) : Option (Ctl (Int × Int) Int Int) := impl_WayEnds_L1_b a0 a1 s.1 s.2
def impl_WayEnds_L1_s (a0 : Network) (a1 : (List Trip)) (s4 : Int) (s5 : Int) : St := ⟨[(2, .o (.c (.v (.int .i64 s4)))), (3, .o (.c (.ptr 0 0))), (12, .o (.c (.rs 2 (a1.map Trip.enc)))), (13, .o (.c (.v (.int .i64 (a1.length : Int))))), (14, .o (.c (.v (.int .i64 s5))))], [(0, .box 32 [.rs 6 (a0.Legs.map Leg.enc), .rs 1 (a0.Off.map encI), .v (.int .i64 a0.Change)])]⟩
def impl_WayEnds_L1_S (a0 : Network) (a1 : (List Trip)) (s : Int × Int) : St := impl_WayEnds_L1_s a0 a1 s.1 s.2
def impl_WayEnds_L1_a (s6 : Int) : Option Int :=
  some s6
def impl_WayEnds_L1_k (x : (Int) ⊕ (Int)) : Option Int := match x with
  | .inl t => impl_WayEnds_L1_a t
  | .inr y => some y
def impl_WayEnds (a0 : Network) (a1 : (List Trip)) (a2 : Int) : Option Int :=
  (impl_IsNetwork a0).bind fun v1 =>
  bif (!v1) then
  some (-1)
  else
  (loopM (impl_WayEnds_L1 a0 a1) big (a2, 0)).bind (impl_WayEnds_L1_k)
theorem impl_WayEnds_ok (a0 : Network) (a1 : (List Trip)) (a2 : Int) (r : Int) (hM : impl_WayEnds a0 a1 a2 = some r) :
    Con Try.prog 22 [.agg [.rs 6 (a0.Legs.map Leg.enc), .rs 1 (a0.Off.map encI), .v (.int .i64 a0.Change)], .c (.rs 2 (a1.map Trip.enc)), .c (.v (.int .i64 a2))] [] (.o (.c (.v (.int .i64 r)))) [] [] := by
  unfold impl_WayEnds at hM
  refine cn (N := 27) (pids := []) Try_mixed Try.func22 (by kernel_rfl) (by kernel_rfl) (by kernel_rfl) rfl fun ρ g w R => ?_
  obtain ⟨v1, h2, hM⟩ := bind_some hM
  rcases cond_cases hM with ⟨h3, hM⟩ | ⟨h3, hM⟩
  · have hE : some (-1) = some r := hM
    have hE := Option.some.inj hE
    subst hE
    exact pr R 9999 [.new 0, .call false [] (.o (.c (.v (.bool v1)))) [] [], .as 11 true] [] [] [] (And.intro (impl_IsNetwork_ok a0 v1 h2) (And.intro h3 True.intro)) (by kernel_rfl)
  · have K1 : ∀ (s6 : Int), impl_WayEnds_L1_a s6 = some r → Gr R [.code (cAt Try.f22 [1, 1, 1])] (⟨[(2, .o (.c (.v (.int .i64 s6))))], []⟩) := by
      intro s6 hM
      unfold impl_WayEnds_L1_a at hM
      have hE : some s6 = some r := hM
      have hE := Option.some.inj hE
      subst hE
      exact pr R 9999 [] [] [] [] True.intro (by kernel_rfl)
    refine pc R 9999 [.new 0, .call false [] (.o (.c (.v (.bool v1)))) [] [], .as 11 false, .ln (a1.length)] [.keep [2, 3, 12, 13, 14] [0]] (k' := [.code (.loop (cAt Try.f22 [1, 1, 0, 1, 0, 0])), .blk 0, .code (cAt Try.f22 [1, 1, 1])]) (S' := impl_WayEnds_L1_S a0 a1 (a2, 0)) (And.intro (impl_IsNetwork_ok a0 v1 h2) (And.intro h3 (And.intro (lenm Trip.enc a1) True.intro))) (by kernel_rfl) ?_
    refine lq (impl_WayEnds_L1_S a0 a1) (body := impl_WayEnds_L1 a0 a1) (k := impl_WayEnds_L1_k) hM fun m1 s c1 hM hK1 => ?_
    obtain ⟨s4, s5⟩ := s
    have hM : impl_WayEnds_L1_b a0 a1 s4 s5 = some c1 := hM
    unfold impl_WayEnds_L1_b at hM
    rcases cond_cases hM with ⟨h7, hM⟩ | ⟨h7, hM⟩
    · obtain ⟨v8, h9, hM⟩ := bind_some hM
      obtain ⟨v10, h11, hM⟩ := bind_some hM
      rcases cond_cases hM with ⟨h12, hM⟩ | ⟨h12, hM⟩
      · have hE : some (Ctl.ret (-1)) = some c1 := hM
        have hE := Option.some.inj hE
        subst hE
        have hE : some (-1) = some r := hK1
        have hE := Option.some.inj hE
        subst hE
        exact pr R 9999 [.as 15 true, .ix (Trip.enc v8), .new 1, .call false [] (.o (.c (.v (.bool v10)))) [] [], .as 21 true] [] [] [] (And.intro h7 (And.intro (gi_map Trip.enc h9) (And.intro (impl_IsTrip_ok a0 v8 v10 h11) (And.intro h12 True.intro)))) (by kernel_rfl)
      · obtain ⟨v13, h14, hM⟩ := bind_some hM
        have hE : some (Ctl.next (v13, w64 (s5 + 1))) = some c1 := hM
        have hE := Option.some.inj hE
        subst hE
        exact pc R 9999 [.as 15 true, .ix (Trip.enc v8), .new 1, .call false [] (.o (.c (.v (.bool v10)))) [] [], .as 21 false, .call false [] (.o (.c (.v (.int .i64 v13)))) [] []] [.keep [2, 3, 12, 13, 14] [0]] (And.intro h7 (And.intro (gi_map Trip.enc h9) (And.intro (impl_IsTrip_ok a0 v8 v10 h11) (And.intro h12 (And.intro (impl_ends_ok a0 v8 v13 h14) True.intro))))) (by kernel_rfl) (li (Sf := impl_WayEnds_L1_S a0 a1) (M := Mk (impl_WayEnds_L1 a0 a1) (impl_WayEnds_L1_k) r) (k := [.blk 0, .code (cAt Try.f22 [1, 1, 1])]) (Nat.lt_succ_self m1) hK1)
    · have hE : some (Ctl.brk s4) = some c1 := hM
      have hE := Option.some.inj hE
      subst hE
      exact pc R 5 [.as 15 false] [.keep [2] []] (And.intro h7 True.intro) (by kernel_rfl) (K1 s4 hK1)

-- loop.example/g03014/impl.SlackOf
def impl_SlackOf_L2_b (a0 : Network) (a1 : (List Trip)) (s5 : Int) (s6 : Int) : Option (Ctl (Int × Int) Int Int) :=
  bif (decide (s6 < (a1.length : Int))) then
  (gi a1 s6).bind fun v9 =>
  (impl_starts a0 v9).bind fun v11 =>
  (gi a1 (w64 (s6 - 1))).bind fun v13 =>
  (impl_ends a0 v13).bind fun v15 =>
  some (.next (if (w64 ((w64 (v11 - v15)) - a0.Change)) < s5 then (w64 ((w64 (v11 - v15)) - a0.Change)) else s5, w64 (s6 + 1)))
  else
  some (.brk s5)
def impl_SlackOf_L2 (a0 : Network) (a1 : (List Trip)) (s : Int × Int) : Option (Ctl (Int × Int) Int Int) := impl_SlackOf_L2_b a0 a1 s.1 s.2
def impl_SlackOf_L2_s (a0 : Network) (a1 : (List Trip)) (s5 : Int) (s6 : Int) : St := ⟨[(1, .o (.c (.rs 2 (a1.map Trip.enc)))), (2, .o (.c (.ptr 0 0))), (7, .o (.c (.v (.int .i64 s5)))), (8, .o (.c (.v (.int .i64 s6))))], [(0, .box 32 [.rs 6 (a0.Legs.map Leg.enc), .rs 1 (a0.Off.map encI), .v (.int .i64 a0.Change)])]⟩
def impl_SlackOf_L2_S (a0 : Network) (a1 : (List Trip)) (s : Int × Int) : St := impl_SlackOf_L2_s a0 a1 s.1 s.2
def impl_SlackOf_L2_a (s7 : Int) : Option Int :=
  some s7
def impl_SlackOf_L2_k (x : (Int) ⊕ (Int)) : Option Int := match x with
  | .inl t => impl_SlackOf_L2_a t
  | .inr y => some y
def impl_SlackOf_L1_b (a0 : Network) (a1 : (List Trip)) (s4 : Int) : Option (Ctl Int Unit Int) :=
  bif (decide (s4 < (a1.length : Int))) then
  (gi a1 s4).bind fun v18 =>
  (impl_IsTrip a0 v18).bind fun v20 =>
  bif (!v20) then
  some (.ret (-1))
  else
  some (.next (w64 (s4 + 1)))
  else
  some (.brk ())
def impl_SlackOf_L1 (a0 : Network) (a1 : (List Trip)) (s : Int) : Option (Ctl Int Unit Int) := impl_SlackOf_L1_b a0 a1 s
def impl_SlackOf_L1_s (a0 : Network) (a1 : (List Trip)) (s4 : Int) : St := ⟨[(1, .o (.c (.rs 2 (a1.map Trip.enc)))), (2, .o (.c (.ptr 0 0))), (12, .o (.c (.rs 2 (a1.map Trip.enc)))), (13, .o (.c (.v (.int .i64 (a1.length : Int))))), (14, .o (.c (.v (.int .i64 s4))))], [(0, .box 32 [.rs 6 (a0.Legs.map Leg.enc), .rs 1 (a0.Off.map encI), .v (.int .i64 a0.Change)])]⟩
def impl_SlackOf_L1_S (a0 : Network) (a1 : (List Trip)) (s : Int) : St := impl_SlackOf_L1_s a0 a1 s
def impl_SlackOf_L1_a (a0 : Network) (a1 : (List Trip)) : Option Int :=
  (loopM (impl_SlackOf_L2 a0 a1) big (100000, 1)).bind (impl_SlackOf_L2_k)
def impl_SlackOf_L1_k (a0 : Network) (a1 : (List Trip)) (x : (Unit) ⊕ (Int)) : Option Int := match x with
  | .inl t => impl_SlackOf_L1_a a0 a1
  | .inr y => some y
def impl_SlackOf (a0 : Network) (a1 : (List Trip)) : Option Int :=
  (impl_IsNetwork a0).bind fun v1 =>
  bif (!v1) then
  some (-1)
  else
  (loopM (impl_SlackOf_L1 a0 a1) big 0).bind (impl_SlackOf_L1_k a0 a1)
theorem impl_SlackOf_ok (a0 : Network) (a1 : (List Trip)) (r : Int) (hM : impl_SlackOf a0 a1 = some r) :
    Con Try.prog 26 [.agg [.rs 6 (a0.Legs.map Leg.enc), .rs 1 (a0.Off.map encI), .v (.int .i64 a0.Change)], .c (.rs 2 (a1.map Trip.enc))] [] (.o (.c (.v (.int .i64 r)))) [] [] := by
  unfold impl_SlackOf at hM
  refine cn (N := 49) (pids := []) Try_mixed Try.func26 (by kernel_rfl) (by kernel_rfl) (by kernel_rfl) rfl fun ρ g w R => ?_
  obtain ⟨v1, h2, hM⟩ := bind_some hM
  rcases cond_cases hM with ⟨h3, hM⟩ | ⟨h3, hM⟩
  · have hE : some (-1) = some r := hM
    have hE := Option.some.inj hE
    subst hE
    exact pr R 9999 [.new 0, .call false [] (.o (.c (.v (.bool v1)))) [] [], .as 11 true] [] [] [] (And.intro (impl_IsNetwork_ok a0 v1 h2) (And.intro h3 True.intro)) (by kernel_rfl)
  · have K1 : ∀ (_ : Unit), impl_SlackOf_L1_a a0 a1 = some r → Gr R [.code (cAt Try.f26 [1, 1, 1])] (⟨[(1, .o (.c (.rs 2 (a1.map Trip.enc)))), (2, .o (.c (.ptr 0 0)))], [(0, .box 32 [.rs 6 (a0.Legs.map Leg.enc), .rs 1 (a0.Off.map encI), .v (.int .i64 a0.Change)])]⟩) := by
      intro _ hM
      unfold impl_SlackOf_L1_a at hM
      have K2 : ∀ (s7 : Int), impl_SlackOf_L2_a s7 = some r → Gr R [.code (cAt Try.f26 [1, 1, 1, 1, 1])] (⟨[(7, .o (.c (.v (.int .i64 s7))))], []⟩) := by
        intro s7 hM
        unfold impl_SlackOf_L2_a at hM
        have hE : some s7 = some r := hM
        have hE := Option.some.inj hE
        subst hE
        exact pr R 9999 [] [] [] [] True.intro (by kernel_rfl)
      refine pc R 9999 [] [.keep [1, 2, 7, 8] [0]] (k' := [.code (.loop (cAt Try.f26 [1, 1, 1, 1, 0, 1, 0, 0])), .blk 2, .code (cAt Try.f26 [1, 1, 1, 1, 1])]) (S' := impl_SlackOf_L2_S a0 a1 (100000, 1)) True.intro (by kernel_rfl) ?_
      refine lq (impl_SlackOf_L2_S a0 a1) (body := impl_SlackOf_L2 a0 a1) (k := impl_SlackOf_L2_k) hM fun m2 s c2 hM hK2 => ?_
      obtain ⟨s5, s6⟩ := s
      have hM : impl_SlackOf_L2_b a0 a1 s5 s6 = some c2 := hM
      unfold impl_SlackOf_L2_b at hM
      rcases cond_cases hM with ⟨h8, hM⟩ | ⟨h8, hM⟩
      · obtain ⟨v9, h10, hM⟩ := bind_some hM
        obtain ⟨v11, h12, hM⟩ := bind_some hM
        obtain ⟨v13, h14, hM⟩ := bind_some hM
        obtain ⟨v15, h16, hM⟩ := bind_some hM
        have hE : some (Ctl.next (if (w64 ((w64 (v11 - v15)) - a0.Change)) < s5 then (w64 ((w64 (v11 - v15)) - a0.Change)) else s5, w64 (s6 + 1))) = some c2 := hM
        have hE := Option.some.inj hE
        subst hE
        exact pc R 9999 [.ln (a1.length), .as 26 true, .ix (Trip.enc v9), .call false [] (.o (.c (.v (.int .i64 v11)))) [] [], .ix (Trip.enc v13), .call false [] (.o (.c (.v (.int .i64 v15)))) [] []] [.keep [1, 2, 7, 8] [0]] (And.intro (lenm Trip.enc a1) (And.intro h8 (And.intro (gi_map Trip.enc h10) (And.intro (impl_starts_ok a0 v9 v11 h12) (And.intro (gi_map Trip.enc h14) (And.intro (impl_ends_ok a0 v13 v15 h16) True.intro)))))) (by kernel_rfl) (li (Sf := impl_SlackOf_L2_S a0 a1) (M := Mk (impl_SlackOf_L2 a0 a1) (impl_SlackOf_L2_k) r) (k := [.blk 2, .code (cAt Try.f26 [1, 1, 1, 1, 1])]) (Nat.lt_succ_self m2) hK2)
      · have hE : some (Ctl.brk s5) = some c2 := hM
        have hE := Option.some.inj hE
        subst hE
        exact pc R 5 [.ln (a1.length), .as 26 false] [.keep [7] []] (And.intro (lenm Trip.enc a1) (And.intro h8 True.intro)) (by kernel_rfl) (K2 s5 hK2)
    refine pc R 9999 [.new 0, .call false [] (.o (.c (.v (.bool v1)))) [] [], .as 11 false, .ln (a1.length)] [.keep [1, 2, 12, 13, 14] [0]] (k' := [.code (.loop (cAt Try.f26 [1, 1, 0, 1, 0, 0])), .blk 0, .code (cAt Try.f26 [1, 1, 1])]) (S' := impl_SlackOf_L1_S a0 a1 0) (And.intro (impl_IsNetwork_ok a0 v1 h2) (And.intro h3 (And.intro (lenm Trip.enc a1) True.intro))) (by kernel_rfl) ?_
    refine lq (impl_SlackOf_L1_S a0 a1) (body := impl_SlackOf_L1 a0 a1) (k := impl_SlackOf_L1_k a0 a1) hM fun m1 s c1 hM hK1 => ?_
    obtain ⟨s4, hs⟩ : ∃ z, z = s := ⟨_, rfl⟩
    subst hs
    have hM : impl_SlackOf_L1_b a0 a1 s4 = some c1 := hM
    unfold impl_SlackOf_L1_b at hM
    rcases cond_cases hM with ⟨h17, hM⟩ | ⟨h17, hM⟩
    · obtain ⟨v18, h19, hM⟩ := bind_some hM
      obtain ⟨v20, h21, hM⟩ := bind_some hM
      rcases cond_cases hM with ⟨h22, hM⟩ | ⟨h22, hM⟩
      · have hE : some (Ctl.ret (-1)) = some c1 := hM
        have hE := Option.some.inj hE
        subst hE
        have hE : some (-1) = some r := hK1
        have hE := Option.some.inj hE
        subst hE
        exact pr R 9999 [.as 15 true, .ix (Trip.enc v18), .new 1, .call false [] (.o (.c (.v (.bool v20)))) [] [], .as 21 true] [] [] [] (And.intro h17 (And.intro (gi_map Trip.enc h19) (And.intro (impl_IsTrip_ok a0 v18 v20 h21) (And.intro h22 True.intro)))) (by kernel_rfl)
      · have hE : some (Ctl.next (w64 (s4 + 1))) = some c1 := hM
        have hE := Option.some.inj hE
        subst hE
        exact pc R 9999 [.as 15 true, .ix (Trip.enc v18), .new 1, .call false [] (.o (.c (.v (.bool v20)))) [] [], .as 21 false] [.keep [1, 2, 12, 13, 14] [0]] (And.intro h17 (And.intro (gi_map Trip.enc h19) (And.intro (impl_IsTrip_ok a0 v18 v20 h21) (And.intro h22 True.intro)))) (by kernel_rfl) (li (Sf := impl_SlackOf_L1_S a0 a1) (M := Mk (impl_SlackOf_L1 a0 a1) (impl_SlackOf_L1_k a0 a1) r) (k := [.blk 0, .code (cAt Try.f26 [1, 1, 1])]) (Nat.lt_succ_self m1) hK1)
    · have hE : some (Ctl.brk ()) = some c1 := hM
      have hE := Option.some.inj hE
      subst hE
      exact pc R 5 [.as 15 false] [.keep [1, 2] [0]] (And.intro h17 True.intro) (by kernel_rfl) (K1 () hK1)

-- loop.example/g03014/impl.ChoicesOf
def impl_ChoicesOf_L1_b (a0 : Network) (a1 : ByteArray) (a3 : Int) (v1 : (List ByteArray)) (v3 : Int) (s5 : (List Choice)) (s6 : Int) : Option (Ctl ((List Choice) × Int) (List Choice) (List Choice)) :=
  bif (decide (s6 ≤ (v1.length : Int))) then
  bif (decide (v3 ≥ 0)) then
  (impl_BestArrivals a0 a1 a3 s6).bind fun v10 =>
  bif ((v10.length : Int) == 0) then
  some (.next (s5, w64 (s6 + 1)))
  else
  (gi v10 v3).bind fun v13 =>
  bif (v13 == (-1)) then
  some (.next (s5, w64 (s6 + 1)))
  else
  bif ((s5.length : Int) == 0) then
  (gi v10 v3).bind fun v17 =>
  (ap 16 s5 ([(Choice.mk s6 v17)] : List Choice)).bind fun v19 =>
  some (.next (v19, w64 (s6 + 1)))
  else
  (gi v10 v3).bind fun v21 =>
  (gi s5 (w64 ((s5.length : Int) - 1))).bind fun v23 =>
  bif (decide (v21 < v23.Ends)) then
  (gi v10 v3).bind fun v26 =>
  (ap 16 s5 ([(Choice.mk s6 v26)] : List Choice)).bind fun v28 =>
  some (.next (v28, w64 (s6 + 1)))
  else
  some (.next (s5, w64 (s6 + 1)))
  else
  some (.brk s5)
  else
  some (.brk s5)
def impl_ChoicesOf_L1 (a0 : Network) (a1 : ByteArray) (a3 : Int) (v1 : (List ByteArray)) (v3 : Int) (s : (List Choice) × Int) : Option (Ctl ((List Choice) × Int) (List Choice) (List Choice)) := impl_ChoicesOf_L1_b a0 a1 a3 v1 v3 s.1 s.2
def impl_ChoicesOf_L1_s (a0 : Network) (a1 : ByteArray) (a3 : Int) (v1 : (List ByteArray)) (v3 : Int) (s5 : (List Choice)) (s6 : Int) : St := ⟨[(1, .o (.c (.v (.string a1)))), (3, .o (.c (.v (.int .i64 a3)))), (4, .o (.c (.ptr 0 0))), (9, .o (.c (.sl 1))), (10, .o (.c (.v (.int .i64 v3)))), (11, .o (.c (.sl 2))), (12, .o (.c (.v (.int .i64 s6))))], [(0, .box 32 [.rs 6 (a0.Legs.map Leg.enc), .rs 1 (a0.Off.map encI), .v (.int .i64 a0.Change)]), (1, .row 9 1 (v1.map encS)), (2, .row 58 2 (s5.map Choice.enc))]⟩
def impl_ChoicesOf_L1_S (a0 : Network) (a1 : ByteArray) (a3 : Int) (v1 : (List ByteArray)) (v3 : Int) (s : (List Choice) × Int) : St := impl_ChoicesOf_L1_s a0 a1 a3 v1 v3 s.1 s.2
def impl_ChoicesOf_L1_a (s7 : (List Choice)) : Option (List Choice) :=
  some s7
def impl_ChoicesOf_L1_k (x : ((List Choice)) ⊕ ((List Choice))) : Option (List Choice) := match x with
  | .inl t => impl_ChoicesOf_L1_a t
  | .inr y => some y
def impl_ChoicesOf (a0 : Network) (a1 : ByteArray) (a2 : ByteArray) (a3 : Int) : Option (List Choice) :=
  (impl_PlacesOf a0).bind fun v1 =>
  (impl_placeAt v1 a2).bind fun v3 =>
  (loopM (impl_ChoicesOf_L1 a0 a1 a3 v1 v3) big (([] : List Choice), 0)).bind (impl_ChoicesOf_L1_k)
theorem impl_ChoicesOf_ok (a0 : Network) (a1 : ByteArray) (a2 : ByteArray) (a3 : Int) (r : (List Choice)) (hM : impl_ChoicesOf a0 a1 a2 a3 = some r) :
    Con Try.prog 27 [.agg [.rs 6 (a0.Legs.map Leg.enc), .rs 1 (a0.Off.map encI), .v (.int .i64 a0.Change)], .c (.v (.string a1)), .c (.v (.string a2)), .c (.v (.int .i64 a3))] [] (.o (.c (.sl 1000))) [] [(1000, .row 58 2 (r.map Choice.enc))] := by
  unfold impl_ChoicesOf at hM
  refine cn (N := 72) (pids := []) Try_mixed Try.func27 (by kernel_rfl) (by kernel_rfl) (by kernel_rfl) rfl fun ρ g w R => ?_
  obtain ⟨v1, h2, hM⟩ := bind_some hM
  obtain ⟨v3, h4, hM⟩ := bind_some hM
  have K1 : ∀ (s7 : (List Choice)), impl_ChoicesOf_L1_a s7 = some r → Gr R [.code (cAt Try.f27 [1, 1, 1, 1, 1])] (⟨[(11, .o (.c (.sl 2)))], [(2, .row 58 2 (s7.map Choice.enc))]⟩) := by
    intro s7 hM
    unfold impl_ChoicesOf_L1_a at hM
    have hE : some s7 = some r := hM
    have hE := Option.some.inj hE
    subst hE
    exact pr R 9999 [] [.sw 2 1000] [] [1000] True.intro (by kernel_rfl)
  refine pc R 9999 [.new 0, .call false [] (.o (.c (.sl 1))) [] [(1, .row 9 1 (v1.map encS))], .call false [] (.o (.c (.v (.int .i64 v3)))) [] [], .new 2] [.keep [1, 3, 4, 9, 10, 11, 12] [0, 1, 2]] (k' := [.code (.loop (cAt Try.f27 [1, 1, 1, 1, 0, 1, 0, 0])), .blk 0, .code (cAt Try.f27 [1, 1, 1, 1, 1])]) (S' := impl_ChoicesOf_L1_S a0 a1 a3 v1 v3 (([] : List Choice), 0)) (And.intro (And.intro (con_sw 1000 1 (impl_PlacesOf_ok a0 v1 h2)) (rfl : ([] : List Nat) = [])) (And.intro (impl_placeAt_ok v1 a2 v3 h4) True.intro)) (by kernel_rfl) ?_
  refine lq (impl_ChoicesOf_L1_S a0 a1 a3 v1 v3) (body := impl_ChoicesOf_L1 a0 a1 a3 v1 v3) (k := impl_ChoicesOf_L1_k) hM fun m1 s c1 hM hK1 => ?_
  obtain ⟨s5, s6⟩ := s
  have hM : impl_ChoicesOf_L1_b a0 a1 a3 v1 v3 s5 s6 = some c1 := hM
  unfold impl_ChoicesOf_L1_b at hM
  rcases cond_cases hM with ⟨h8, hM⟩ | ⟨h8, hM⟩
  · rcases cond_cases hM with ⟨h9, hM⟩ | ⟨h9, hM⟩
    · obtain ⟨v10, h11, hM⟩ := bind_some hM
      rcases cond_cases hM with ⟨h12, hM⟩ | ⟨h12, hM⟩
      · have hE : some (Ctl.next (s5, w64 (s6 + 1))) = some c1 := hM
        have hE := Option.some.inj hE
        subst hE
        exact pc R 9999 [.ln (v1.length), .as 24 true, .as 27 true, .call false [] (.o (.c (.sl 3))) [] [(3, .row 3 1 (v10.map encI))], .ln (v10.length), .as 38 true] [.keep [1, 3, 4, 9, 10, 11, 12] [0, 1, 2]] (And.intro (lenm encS v1) (And.intro h8 (And.intro h9 (And.intro (And.intro (con_sw 1000 3 (impl_BestArrivals_ok a0 a1 a3 s6 v10 h11)) (rfl : ([] : List Nat) = [])) (And.intro (lenm encI v10) (And.intro h12 True.intro)))))) (by kernel_rfl) (li (Sf := impl_ChoicesOf_L1_S a0 a1 a3 v1 v3) (M := Mk (impl_ChoicesOf_L1 a0 a1 a3 v1 v3) (impl_ChoicesOf_L1_k) r) (k := [.blk 0, .code (cAt Try.f27 [1, 1, 1, 1, 1])]) (Nat.lt_succ_self m1) hK1)
      · obtain ⟨v13, h14, hM⟩ := bind_some hM
        rcases cond_cases hM with ⟨h15, hM⟩ | ⟨h15, hM⟩
        · have hE : some (Ctl.next (s5, w64 (s6 + 1))) = some c1 := hM
          have hE := Option.some.inj hE
          subst hE
          exact pc R 9999 [.ln (v1.length), .as 24 true, .as 27 true, .call false [] (.o (.c (.sl 3))) [] [(3, .row 3 1 (v10.map encI))], .ln (v10.length), .as 38 false, .ix (encI v13), .as 44 true] [.keep [1, 3, 4, 9, 10, 11, 12] [0, 1, 2]] (And.intro (lenm encS v1) (And.intro h8 (And.intro h9 (And.intro (And.intro (con_sw 1000 3 (impl_BestArrivals_ok a0 a1 a3 s6 v10 h11)) (rfl : ([] : List Nat) = [])) (And.intro (lenm encI v10) (And.intro h12 (And.intro (gi_lt encI h14) (And.intro ((gi_map encI h14).2) (And.intro h15 True.intro))))))))) (by kernel_rfl) (li (Sf := impl_ChoicesOf_L1_S a0 a1 a3 v1 v3) (M := Mk (impl_ChoicesOf_L1 a0 a1 a3 v1 v3) (impl_ChoicesOf_L1_k) r) (k := [.blk 0, .code (cAt Try.f27 [1, 1, 1, 1, 1])]) (Nat.lt_succ_self m1) hK1)
        · rcases cond_cases hM with ⟨h16, hM⟩ | ⟨h16, hM⟩
          · obtain ⟨v17, h18, hM⟩ := bind_some hM
            obtain ⟨v19, h20, hM⟩ := bind_some hM
            have hE : some (Ctl.next (v19, w64 (s6 + 1))) = some c1 := hM
            have hE := Option.some.inj hE
            subst hE
            exact pc R 9999 [.ln (v1.length), .as 24 true, .as 27 true, .call false [] (.o (.c (.sl 3))) [] [(3, .row 3 1 (v10.map encI))], .ln (v10.length), .as 38 false, .ix (encI v13), .as 44 false, .ln (s5.length), .as 48 true, .ix (encI v17), .new 4, .new 5, .nm (v19.map Choice.enc)] [.sw 5 2, .keep [1, 3, 4, 9, 10, 11, 12] [0, 1, 2]] (And.intro (lenm encS v1) (And.intro h8 (And.intro h9 (And.intro (And.intro (con_sw 1000 3 (impl_BestArrivals_ok a0 a1 a3 s6 v10 h11)) (rfl : ([] : List Nat) = [])) (And.intro (lenm encI v10) (And.intro h12 (And.intro (gi_lt encI h14) (And.intro ((gi_map encI h14).2) (And.intro h15 (And.intro (lenm Choice.enc s5) (And.intro h16 (And.intro (gi_lt encI h18) (And.intro ((gi_map encI h18).2) (And.intro (ap_ok Choice.enc h20) True.intro)))))))))))))) (by kernel_rfl) (li (Sf := impl_ChoicesOf_L1_S a0 a1 a3 v1 v3) (M := Mk (impl_ChoicesOf_L1 a0 a1 a3 v1 v3) (impl_ChoicesOf_L1_k) r) (k := [.blk 0, .code (cAt Try.f27 [1, 1, 1, 1, 1])]) (Nat.lt_succ_self m1) hK1)
          · obtain ⟨v21, h22, hM⟩ := bind_some hM
            obtain ⟨v23, h24, hM⟩ := bind_some hM
            rcases cond_cases hM with ⟨h25, hM⟩ | ⟨h25, hM⟩
            · obtain ⟨v26, h27, hM⟩ := bind_some hM
              obtain ⟨v28, h29, hM⟩ := bind_some hM
              have hE : some (Ctl.next (v28, w64 (s6 + 1))) = some c1 := hM
              have hE := Option.some.inj hE
              subst hE
              exact pc R 9999 [.ln (v1.length), .as 24 true, .as 27 true, .call false [] (.o (.c (.sl 3))) [] [(3, .row 3 1 (v10.map encI))], .ln (v10.length), .as 38 false, .ix (encI v13), .as 44 false, .ln (s5.length), .as 48 false, .ix (encI v21), .ln (s5.length), .ix (Choice.enc v23), .as 61 true, .ix (encI v26), .new 6, .new 7, .nm (v28.map Choice.enc)] [.sw 7 2, .keep [1, 3, 4, 9, 10, 11, 12] [0, 1, 2]] (And.intro (lenm encS v1) (And.intro h8 (And.intro h9 (And.intro (And.intro (con_sw 1000 3 (impl_BestArrivals_ok a0 a1 a3 s6 v10 h11)) (rfl : ([] : List Nat) = [])) (And.intro (lenm encI v10) (And.intro h12 (And.intro (gi_lt encI h14) (And.intro ((gi_map encI h14).2) (And.intro h15 (And.intro (lenm Choice.enc s5) (And.intro h16 (And.intro (gi_lt encI h22) (And.intro ((gi_map encI h22).2) (And.intro (lenm Choice.enc s5) (And.intro (gi_lt Choice.enc h24) (And.intro ((gi_map Choice.enc h24).2) (And.intro h25 (And.intro (gi_lt encI h27) (And.intro ((gi_map encI h27).2) (And.intro (ap_ok Choice.enc h29) True.intro)))))))))))))))))))) (by kernel_rfl) (li (Sf := impl_ChoicesOf_L1_S a0 a1 a3 v1 v3) (M := Mk (impl_ChoicesOf_L1 a0 a1 a3 v1 v3) (impl_ChoicesOf_L1_k) r) (k := [.blk 0, .code (cAt Try.f27 [1, 1, 1, 1, 1])]) (Nat.lt_succ_self m1) hK1)
            · have hE : some (Ctl.next (s5, w64 (s6 + 1))) = some c1 := hM
              have hE := Option.some.inj hE
              subst hE
              exact pc R 9999 [.ln (v1.length), .as 24 true, .as 27 true, .call false [] (.o (.c (.sl 3))) [] [(3, .row 3 1 (v10.map encI))], .ln (v10.length), .as 38 false, .ix (encI v13), .as 44 false, .ln (s5.length), .as 48 false, .ix (encI v21), .ln (s5.length), .ix (Choice.enc v23), .as 61 false] [.keep [1, 3, 4, 9, 10, 11, 12] [0, 1, 2]] (And.intro (lenm encS v1) (And.intro h8 (And.intro h9 (And.intro (And.intro (con_sw 1000 3 (impl_BestArrivals_ok a0 a1 a3 s6 v10 h11)) (rfl : ([] : List Nat) = [])) (And.intro (lenm encI v10) (And.intro h12 (And.intro (gi_lt encI h14) (And.intro ((gi_map encI h14).2) (And.intro h15 (And.intro (lenm Choice.enc s5) (And.intro h16 (And.intro (gi_lt encI h22) (And.intro ((gi_map encI h22).2) (And.intro (lenm Choice.enc s5) (And.intro (gi_lt Choice.enc h24) (And.intro ((gi_map Choice.enc h24).2) (And.intro h25 True.intro))))))))))))))))) (by kernel_rfl) (li (Sf := impl_ChoicesOf_L1_S a0 a1 a3 v1 v3) (M := Mk (impl_ChoicesOf_L1 a0 a1 a3 v1 v3) (impl_ChoicesOf_L1_k) r) (k := [.blk 0, .code (cAt Try.f27 [1, 1, 1, 1, 1])]) (Nat.lt_succ_self m1) hK1)
    · have hE : some (Ctl.brk s5) = some c1 := hM
      have hE := Option.some.inj hE
      subst hE
      exact pc R 5 [.ln (v1.length), .as 24 true, .as 27 false] [.keep [11] [2]] (And.intro (lenm encS v1) (And.intro h8 (And.intro h9 True.intro))) (by kernel_rfl) (K1 s5 hK1)
  · have hE : some (Ctl.brk s5) = some c1 := hM
    have hE := Option.some.inj hE
    subst hE
    exact pc R 5 [.ln (v1.length), .as 24 false] [.keep [11] [2]] (And.intro (lenm encS v1) (And.intro h8 True.intro)) (by kernel_rfl) (K1 s5 hK1)

-- loop.example/g03014/laws.FnWay
def laws_FnWay (a0 : (List Int)) : Option Bool :=
  (laws_big a0).bind fun v1 =>
  bif v1 then
  some true
  else
  (spec_DrawFindWay a0).bind fun v4 =>
  (impl_FindWay v4.1 v4.2.1 v4.2.2.1 v4.2.2.2).bind fun v6 =>
  (impl_EarliestAt v4.1 v4.2.1 v4.2.2.1 v4.2.2.2).bind fun v8 =>
  bif (!v6.2) then
  bif (v8 == (-1)) then
  some ((v6.1.length : Int) == 0)
  else
  some false
  else
  (impl_Max v4.2.2.2 0).bind fun v12 =>
  (impl_IsWay v4.1 v6.1 v4.2.1 v4.2.2.1 v12).bind fun v14 =>
  bif (!v14) then
  some false
  else
  (impl_IsWay v4.1 v6.1 v4.2.1 v4.2.2.1 v4.2.2.2).bind fun v17 =>
  bif (!v17) then
  some false
  else
  (impl_WayEnds v4.1 v6.1 v12).bind fun v20 =>
  bif (v20 != v8) then
  some false
  else
  (impl_SlackOf v4.1 v6.1).bind fun v23 =>
  bif (decide (v23 < 0)) then
  some false
  else
  bif (decide (v8 < v12)) then
  some false
  else
  (impl_ChoicesOf v4.1 v4.2.1 v4.2.2.1 v4.2.2.2).bind fun v27 =>
  bif (decide ((v27.length : Int) > 0)) then
  (gi v27 (w64 ((v27.length : Int) - 1))).bind fun v30 =>
  bif (v30.Ends == v8) then
  (gi v27 (w64 ((v27.length : Int) - 1))).bind fun v33 =>
  some (v33.Legs == (v6.1.length : Int))
  else
  some false
  else
  some false
theorem laws_FnWay_ok (a0 : (List Int)) (r : Bool) (hM : laws_FnWay a0 = some r) :
    Con Try.prog 5 [.c (.rs 1 (a0.map encU8))] [] (.o (.c (.v (.bool r)))) [] [] := by
  unfold laws_FnWay at hM
  refine cn (N := 111) (pids := []) Try_mixed Try.func5 (by kernel_rfl) (by kernel_rfl) (by kernel_rfl) rfl fun ρ g w R => ?_
  obtain ⟨v1, h2, hM⟩ := bind_some hM
  rcases cond_cases hM with ⟨h3, hM⟩ | ⟨h3, hM⟩
  · have hE : some true = some r := hM
    have hE := Option.some.inj hE
    subst hE
    exact pr R 9999 [.call false [] (.o (.c (.v (.bool v1)))) [] [], .as 13 true] [] [] [] (And.intro (laws_big_ok a0 v1 h2) (And.intro h3 True.intro)) (by kernel_rfl)
  · obtain ⟨v4, h5, hM⟩ := bind_some hM
    obtain ⟨v6, h7, hM⟩ := bind_some hM
    obtain ⟨v8, h9, hM⟩ := bind_some hM
    rcases cond_cases hM with ⟨h10, hM⟩ | ⟨h10, hM⟩
    · rcases cond_cases hM with ⟨h11, hM⟩ | ⟨h11, hM⟩
      · have hE : some ((v6.1.length : Int) == 0) = some r := hM
        have hE := Option.some.inj hE
        subst hE
        exact pr R 9999 [.call false [] (.o (.c (.v (.bool v1)))) [] [], .as 13 false, .call true [] (.tup [.agg [.rs 6 (v4.1.Legs.map Leg.enc), .rs 1 (v4.1.Off.map encI), .v (.int .i64 v4.1.Change)], .c (.v (.string v4.2.1)), .c (.v (.string v4.2.2.1)), .c (.v (.int .i64 v4.2.2.2))]) [] [], .new 0, .call false [] (.tup [.c (.sl 1), .c (.v (.bool v6.2))]) [] [(1, .row 46 2 (v6.1.map Trip.enc))], .call false [] (.o (.c (.v (.int .i64 v8)))) [] [], .as 35 true, .as 38 true, .ln (v6.1.length)] [] [] [] (And.intro (laws_big_ok a0 v1 h2) (And.intro h3 (And.intro (And.intro (spec_DrawFindWay_ok a0 v4 h5) (rfl : ([] : List Nat) = [])) (And.intro (And.intro (con_sw 1000 1 (impl_FindWay_ok v4.1 v4.2.1 v4.2.2.1 v4.2.2.2 v6 h7)) (rfl : ([] : List Nat) = [])) (And.intro (impl_EarliestAt_ok v4.1 v4.2.1 v4.2.2.1 v4.2.2.2 v8 h9) (And.intro h10 (And.intro h11 (And.intro (lenm Trip.enc v6.1) True.intro)))))))) (by kernel_rfl)
      · have hE : some false = some r := hM
        have hE := Option.some.inj hE
        subst hE
        exact pr R 9999 [.call false [] (.o (.c (.v (.bool v1)))) [] [], .as 13 false, .call true [] (.tup [.agg [.rs 6 (v4.1.Legs.map Leg.enc), .rs 1 (v4.1.Off.map encI), .v (.int .i64 v4.1.Change)], .c (.v (.string v4.2.1)), .c (.v (.string v4.2.2.1)), .c (.v (.int .i64 v4.2.2.2))]) [] [], .new 0, .call false [] (.tup [.c (.sl 1), .c (.v (.bool v6.2))]) [] [(1, .row 46 2 (v6.1.map Trip.enc))], .call false [] (.o (.c (.v (.int .i64 v8)))) [] [], .as 35 true, .as 38 false] [] [] [] (And.intro (laws_big_ok a0 v1 h2) (And.intro h3 (And.intro (And.intro (spec_DrawFindWay_ok a0 v4 h5) (rfl : ([] : List Nat) = [])) (And.intro (And.intro (con_sw 1000 1 (impl_FindWay_ok v4.1 v4.2.1 v4.2.2.1 v4.2.2.2 v6 h7)) (rfl : ([] : List Nat) = [])) (And.intro (impl_EarliestAt_ok v4.1 v4.2.1 v4.2.2.1 v4.2.2.2 v8 h9) (And.intro h10 (And.intro h11 True.intro))))))) (by kernel_rfl)
    · obtain ⟨v12, h13, hM⟩ := bind_some hM
      obtain ⟨v14, h15, hM⟩ := bind_some hM
      rcases cond_cases hM with ⟨h16, hM⟩ | ⟨h16, hM⟩
      · have hE : some false = some r := hM
        have hE := Option.some.inj hE
        subst hE
        exact pr R 9999 [.call false [] (.o (.c (.v (.bool v1)))) [] [], .as 13 false, .call true [] (.tup [.agg [.rs 6 (v4.1.Legs.map Leg.enc), .rs 1 (v4.1.Off.map encI), .v (.int .i64 v4.1.Change)], .c (.v (.string v4.2.1)), .c (.v (.string v4.2.2.1)), .c (.v (.int .i64 v4.2.2.2))]) [] [], .new 0, .call false [] (.tup [.c (.sl 1), .c (.v (.bool v6.2))]) [] [(1, .row 46 2 (v6.1.map Trip.enc))], .call false [] (.o (.c (.v (.int .i64 v8)))) [] [], .as 35 false, .call false [] (.o (.c (.v (.int .i64 v12)))) [] [], .call false [] (.o (.c (.v (.bool v14)))) [] [], .as 52 true] [] [] [] (And.intro (laws_big_ok a0 v1 h2) (And.intro h3 (And.intro (And.intro (spec_DrawFindWay_ok a0 v4 h5) (rfl : ([] : List Nat) = [])) (And.intro (And.intro (con_sw 1000 1 (impl_FindWay_ok v4.1 v4.2.1 v4.2.2.1 v4.2.2.2 v6 h7)) (rfl : ([] : List Nat) = [])) (And.intro (impl_EarliestAt_ok v4.1 v4.2.1 v4.2.2.1 v4.2.2.2 v8 h9) (And.intro h10 (And.intro (impl_Max_ok v4.2.2.2 0 v12 h13) (And.intro (impl_IsWay_ok v4.1 v6.1 v4.2.1 v4.2.2.1 v12 v14 h15) (And.intro h16 True.intro))))))))) (by kernel_rfl)
      · obtain ⟨v17, h18, hM⟩ := bind_some hM
        rcases cond_cases hM with ⟨h19, hM⟩ | ⟨h19, hM⟩
        · have hE : some false = some r := hM
          have hE := Option.some.inj hE
          subst hE
          exact pr R 9999 [.call false [] (.o (.c (.v (.bool v1)))) [] [], .as 13 false, .call true [] (.tup [.agg [.rs 6 (v4.1.Legs.map Leg.enc), .rs 1 (v4.1.Off.map encI), .v (.int .i64 v4.1.Change)], .c (.v (.string v4.2.1)), .c (.v (.string v4.2.2.1)), .c (.v (.int .i64 v4.2.2.2))]) [] [], .new 0, .call false [] (.tup [.c (.sl 1), .c (.v (.bool v6.2))]) [] [(1, .row 46 2 (v6.1.map Trip.enc))], .call false [] (.o (.c (.v (.int .i64 v8)))) [] [], .as 35 false, .call false [] (.o (.c (.v (.int .i64 v12)))) [] [], .call false [] (.o (.c (.v (.bool v14)))) [] [], .as 52 false, .call false [] (.o (.c (.v (.bool v17)))) [] [], .as 61 true] [] [] [] (And.intro (laws_big_ok a0 v1 h2) (And.intro h3 (And.intro (And.intro (spec_DrawFindWay_ok a0 v4 h5) (rfl : ([] : List Nat) = [])) (And.intro (And.intro (con_sw 1000 1 (impl_FindWay_ok v4.1 v4.2.1 v4.2.2.1 v4.2.2.2 v6 h7)) (rfl : ([] : List Nat) = [])) (And.intro (impl_EarliestAt_ok v4.1 v4.2.1 v4.2.2.1 v4.2.2.2 v8 h9) (And.intro h10 (And.intro (impl_Max_ok v4.2.2.2 0 v12 h13) (And.intro (impl_IsWay_ok v4.1 v6.1 v4.2.1 v4.2.2.1 v12 v14 h15) (And.intro h16 (And.intro (impl_IsWay_ok v4.1 v6.1 v4.2.1 v4.2.2.1 v4.2.2.2 v17 h18) (And.intro h19 True.intro))))))))))) (by kernel_rfl)
        · obtain ⟨v20, h21, hM⟩ := bind_some hM
          rcases cond_cases hM with ⟨h22, hM⟩ | ⟨h22, hM⟩
          · have hE : some false = some r := hM
            have hE := Option.some.inj hE
            subst hE
            exact pr R 9999 [.call false [] (.o (.c (.v (.bool v1)))) [] [], .as 13 false, .call true [] (.tup [.agg [.rs 6 (v4.1.Legs.map Leg.enc), .rs 1 (v4.1.Off.map encI), .v (.int .i64 v4.1.Change)], .c (.v (.string v4.2.1)), .c (.v (.string v4.2.2.1)), .c (.v (.int .i64 v4.2.2.2))]) [] [], .new 0, .call false [] (.tup [.c (.sl 1), .c (.v (.bool v6.2))]) [] [(1, .row 46 2 (v6.1.map Trip.enc))], .call false [] (.o (.c (.v (.int .i64 v8)))) [] [], .as 35 false, .call false [] (.o (.c (.v (.int .i64 v12)))) [] [], .call false [] (.o (.c (.v (.bool v14)))) [] [], .as 52 false, .call false [] (.o (.c (.v (.bool v17)))) [] [], .as 61 false, .call false [] (.o (.c (.v (.int .i64 v20)))) [] [], .as 69 true] [] [] [] (And.intro (laws_big_ok a0 v1 h2) (And.intro h3 (And.intro (And.intro (spec_DrawFindWay_ok a0 v4 h5) (rfl : ([] : List Nat) = [])) (And.intro (And.intro (con_sw 1000 1 (impl_FindWay_ok v4.1 v4.2.1 v4.2.2.1 v4.2.2.2 v6 h7)) (rfl : ([] : List Nat) = [])) (And.intro (impl_EarliestAt_ok v4.1 v4.2.1 v4.2.2.1 v4.2.2.2 v8 h9) (And.intro h10 (And.intro (impl_Max_ok v4.2.2.2 0 v12 h13) (And.intro (impl_IsWay_ok v4.1 v6.1 v4.2.1 v4.2.2.1 v12 v14 h15) (And.intro h16 (And.intro (impl_IsWay_ok v4.1 v6.1 v4.2.1 v4.2.2.1 v4.2.2.2 v17 h18) (And.intro h19 (And.intro (impl_WayEnds_ok v4.1 v6.1 v12 v20 h21) (And.intro h22 True.intro))))))))))))) (by kernel_rfl)
          · obtain ⟨v23, h24, hM⟩ := bind_some hM
            rcases cond_cases hM with ⟨h25, hM⟩ | ⟨h25, hM⟩
            · have hE : some false = some r := hM
              have hE := Option.some.inj hE
              subst hE
              exact pr R 9999 [.call false [] (.o (.c (.v (.bool v1)))) [] [], .as 13 false, .call true [] (.tup [.agg [.rs 6 (v4.1.Legs.map Leg.enc), .rs 1 (v4.1.Off.map encI), .v (.int .i64 v4.1.Change)], .c (.v (.string v4.2.1)), .c (.v (.string v4.2.2.1)), .c (.v (.int .i64 v4.2.2.2))]) [] [], .new 0, .call false [] (.tup [.c (.sl 1), .c (.v (.bool v6.2))]) [] [(1, .row 46 2 (v6.1.map Trip.enc))], .call false [] (.o (.c (.v (.int .i64 v8)))) [] [], .as 35 false, .call false [] (.o (.c (.v (.int .i64 v12)))) [] [], .call false [] (.o (.c (.v (.bool v14)))) [] [], .as 52 false, .call false [] (.o (.c (.v (.bool v17)))) [] [], .as 61 false, .call false [] (.o (.c (.v (.int .i64 v20)))) [] [], .as 69 false, .call false [] (.o (.c (.v (.int .i64 v23)))) [] [], .as 75 true] [] [] [] (And.intro (laws_big_ok a0 v1 h2) (And.intro h3 (And.intro (And.intro (spec_DrawFindWay_ok a0 v4 h5) (rfl : ([] : List Nat) = [])) (And.intro (And.intro (con_sw 1000 1 (impl_FindWay_ok v4.1 v4.2.1 v4.2.2.1 v4.2.2.2 v6 h7)) (rfl : ([] : List Nat) = [])) (And.intro (impl_EarliestAt_ok v4.1 v4.2.1 v4.2.2.1 v4.2.2.2 v8 h9) (And.intro h10 (And.intro (impl_Max_ok v4.2.2.2 0 v12 h13) (And.intro (impl_IsWay_ok v4.1 v6.1 v4.2.1 v4.2.2.1 v12 v14 h15) (And.intro h16 (And.intro (impl_IsWay_ok v4.1 v6.1 v4.2.1 v4.2.2.1 v4.2.2.2 v17 h18) (And.intro h19 (And.intro (impl_WayEnds_ok v4.1 v6.1 v12 v20 h21) (And.intro h22 (And.intro (impl_SlackOf_ok v4.1 v6.1 v23 h24) (And.intro h25 True.intro))))))))))))))) (by kernel_rfl)
            · rcases cond_cases hM with ⟨h26, hM⟩ | ⟨h26, hM⟩
              · have hE : some false = some r := hM
                have hE := Option.some.inj hE
                subst hE
                exact pr R 9999 [.call false [] (.o (.c (.v (.bool v1)))) [] [], .as 13 false, .call true [] (.tup [.agg [.rs 6 (v4.1.Legs.map Leg.enc), .rs 1 (v4.1.Off.map encI), .v (.int .i64 v4.1.Change)], .c (.v (.string v4.2.1)), .c (.v (.string v4.2.2.1)), .c (.v (.int .i64 v4.2.2.2))]) [] [], .new 0, .call false [] (.tup [.c (.sl 1), .c (.v (.bool v6.2))]) [] [(1, .row 46 2 (v6.1.map Trip.enc))], .call false [] (.o (.c (.v (.int .i64 v8)))) [] [], .as 35 false, .call false [] (.o (.c (.v (.int .i64 v12)))) [] [], .call false [] (.o (.c (.v (.bool v14)))) [] [], .as 52 false, .call false [] (.o (.c (.v (.bool v17)))) [] [], .as 61 false, .call false [] (.o (.c (.v (.int .i64 v20)))) [] [], .as 69 false, .call false [] (.o (.c (.v (.int .i64 v23)))) [] [], .as 75 false, .as 79 true] [] [] [] (And.intro (laws_big_ok a0 v1 h2) (And.intro h3 (And.intro (And.intro (spec_DrawFindWay_ok a0 v4 h5) (rfl : ([] : List Nat) = [])) (And.intro (And.intro (con_sw 1000 1 (impl_FindWay_ok v4.1 v4.2.1 v4.2.2.1 v4.2.2.2 v6 h7)) (rfl : ([] : List Nat) = [])) (And.intro (impl_EarliestAt_ok v4.1 v4.2.1 v4.2.2.1 v4.2.2.2 v8 h9) (And.intro h10 (And.intro (impl_Max_ok v4.2.2.2 0 v12 h13) (And.intro (impl_IsWay_ok v4.1 v6.1 v4.2.1 v4.2.2.1 v12 v14 h15) (And.intro h16 (And.intro (impl_IsWay_ok v4.1 v6.1 v4.2.1 v4.2.2.1 v4.2.2.2 v17 h18) (And.intro h19 (And.intro (impl_WayEnds_ok v4.1 v6.1 v12 v20 h21) (And.intro h22 (And.intro (impl_SlackOf_ok v4.1 v6.1 v23 h24) (And.intro h25 (And.intro h26 True.intro)))))))))))))))) (by kernel_rfl)
              · obtain ⟨v27, h28, hM⟩ := bind_some hM
                rcases cond_cases hM with ⟨h29, hM⟩ | ⟨h29, hM⟩
                · obtain ⟨v30, h31, hM⟩ := bind_some hM
                  rcases cond_cases hM with ⟨h32, hM⟩ | ⟨h32, hM⟩
                  · obtain ⟨v33, h34, hM⟩ := bind_some hM
                    have hE : some (v33.Legs == (v6.1.length : Int)) = some r := hM
                    have hE := Option.some.inj hE
                    subst hE
                    exact pr R 9999 [.call false [] (.o (.c (.v (.bool v1)))) [] [], .as 13 false, .call true [] (.tup [.agg [.rs 6 (v4.1.Legs.map Leg.enc), .rs 1 (v4.1.Off.map encI), .v (.int .i64 v4.1.Change)], .c (.v (.string v4.2.1)), .c (.v (.string v4.2.2.1)), .c (.v (.int .i64 v4.2.2.2))]) [] [], .new 0, .call false [] (.tup [.c (.sl 1), .c (.v (.bool v6.2))]) [] [(1, .row 46 2 (v6.1.map Trip.enc))], .call false [] (.o (.c (.v (.int .i64 v8)))) [] [], .as 35 false, .call false [] (.o (.c (.v (.int .i64 v12)))) [] [], .call false [] (.o (.c (.v (.bool v14)))) [] [], .as 52 false, .call false [] (.o (.c (.v (.bool v17)))) [] [], .as 61 false, .call false [] (.o (.c (.v (.int .i64 v20)))) [] [], .as 69 false, .call false [] (.o (.c (.v (.int .i64 v23)))) [] [], .as 75 false, .as 79 false, .call false [] (.o (.c (.sl 2))) [] [(2, .row 58 2 (v27.map Choice.enc))], .ln (v27.length), .as 88 true, .ln (v27.length), .ix (Choice.enc v30), .as 99 true, .ln (v27.length), .ix (Choice.enc v33), .ln (v6.1.length)] [] [] [] (And.intro (laws_big_ok a0 v1 h2) (And.intro h3 (And.intro (And.intro (spec_DrawFindWay_ok a0 v4 h5) (rfl : ([] : List Nat) = [])) (And.intro (And.intro (con_sw 1000 1 (impl_FindWay_ok v4.1 v4.2.1 v4.2.2.1 v4.2.2.2 v6 h7)) (rfl : ([] : List Nat) = [])) (And.intro (impl_EarliestAt_ok v4.1 v4.2.1 v4.2.2.1 v4.2.2.2 v8 h9) (And.intro h10 (And.intro (impl_Max_ok v4.2.2.2 0 v12 h13) (And.intro (impl_IsWay_ok v4.1 v6.1 v4.2.1 v4.2.2.1 v12 v14 h15) (And.intro h16 (And.intro (impl_IsWay_ok v4.1 v6.1 v4.2.1 v4.2.2.1 v4.2.2.2 v17 h18) (And.intro h19 (And.intro (impl_WayEnds_ok v4.1 v6.1 v12 v20 h21) (And.intro h22 (And.intro (impl_SlackOf_ok v4.1 v6.1 v23 h24) (And.intro h25 (And.intro h26 (And.intro (And.intro (con_sw 1000 2 (impl_ChoicesOf_ok v4.1 v4.2.1 v4.2.2.1 v4.2.2.2 v27 h28)) (rfl : ([] : List Nat) = [])) (And.intro (lenm Choice.enc v27) (And.intro h29 (And.intro (lenm Choice.enc v27) (And.intro (gi_lt Choice.enc h31) (And.intro ((gi_map Choice.enc h31).2) (And.intro h32 (And.intro (lenm Choice.enc v27) (And.intro (gi_lt Choice.enc h34) (And.intro ((gi_map Choice.enc h34).2) (And.intro (lenm Trip.enc v6.1) True.intro))))))))))))))))))))))))))) (by kernel_rfl)
                  · have hE : some false = some r := hM
                    have hE := Option.some.inj hE
                    subst hE
                    exact pr R 9999 [.call false [] (.o (.c (.v (.bool v1)))) [] [], .as 13 false, .call true [] (.tup [.agg [.rs 6 (v4.1.Legs.map Leg.enc), .rs 1 (v4.1.Off.map encI), .v (.int .i64 v4.1.Change)], .c (.v (.string v4.2.1)), .c (.v (.string v4.2.2.1)), .c (.v (.int .i64 v4.2.2.2))]) [] [], .new 0, .call false [] (.tup [.c (.sl 1), .c (.v (.bool v6.2))]) [] [(1, .row 46 2 (v6.1.map Trip.enc))], .call false [] (.o (.c (.v (.int .i64 v8)))) [] [], .as 35 false, .call false [] (.o (.c (.v (.int .i64 v12)))) [] [], .call false [] (.o (.c (.v (.bool v14)))) [] [], .as 52 false, .call false [] (.o (.c (.v (.bool v17)))) [] [], .as 61 false, .call false [] (.o (.c (.v (.int .i64 v20)))) [] [], .as 69 false, .call false [] (.o (.c (.v (.int .i64 v23)))) [] [], .as 75 false, .as 79 false, .call false [] (.o (.c (.sl 2))) [] [(2, .row 58 2 (v27.map Choice.enc))], .ln (v27.length), .as 88 true, .ln (v27.length), .ix (Choice.enc v30), .as 99 false] [] [] [] (And.intro (laws_big_ok a0 v1 h2) (And.intro h3 (And.intro (And.intro (spec_DrawFindWay_ok a0 v4 h5) (rfl : ([] : List Nat) = [])) (And.intro (And.intro (con_sw 1000 1 (impl_FindWay_ok v4.1 v4.2.1 v4.2.2.1 v4.2.2.2 v6 h7)) (rfl : ([] : List Nat) = [])) (And.intro (impl_EarliestAt_ok v4.1 v4.2.1 v4.2.2.1 v4.2.2.2 v8 h9) (And.intro h10 (And.intro (impl_Max_ok v4.2.2.2 0 v12 h13) (And.intro (impl_IsWay_ok v4.1 v6.1 v4.2.1 v4.2.2.1 v12 v14 h15) (And.intro h16 (And.intro (impl_IsWay_ok v4.1 v6.1 v4.2.1 v4.2.2.1 v4.2.2.2 v17 h18) (And.intro h19 (And.intro (impl_WayEnds_ok v4.1 v6.1 v12 v20 h21) (And.intro h22 (And.intro (impl_SlackOf_ok v4.1 v6.1 v23 h24) (And.intro h25 (And.intro h26 (And.intro (And.intro (con_sw 1000 2 (impl_ChoicesOf_ok v4.1 v4.2.1 v4.2.2.1 v4.2.2.2 v27 h28)) (rfl : ([] : List Nat) = [])) (And.intro (lenm Choice.enc v27) (And.intro h29 (And.intro (lenm Choice.enc v27) (And.intro (gi_lt Choice.enc h31) (And.intro ((gi_map Choice.enc h31).2) (And.intro h32 True.intro))))))))))))))))))))))) (by kernel_rfl)
                · have hE : some false = some r := hM
                  have hE := Option.some.inj hE
                  subst hE
                  exact pr R 9999 [.call false [] (.o (.c (.v (.bool v1)))) [] [], .as 13 false, .call true [] (.tup [.agg [.rs 6 (v4.1.Legs.map Leg.enc), .rs 1 (v4.1.Off.map encI), .v (.int .i64 v4.1.Change)], .c (.v (.string v4.2.1)), .c (.v (.string v4.2.2.1)), .c (.v (.int .i64 v4.2.2.2))]) [] [], .new 0, .call false [] (.tup [.c (.sl 1), .c (.v (.bool v6.2))]) [] [(1, .row 46 2 (v6.1.map Trip.enc))], .call false [] (.o (.c (.v (.int .i64 v8)))) [] [], .as 35 false, .call false [] (.o (.c (.v (.int .i64 v12)))) [] [], .call false [] (.o (.c (.v (.bool v14)))) [] [], .as 52 false, .call false [] (.o (.c (.v (.bool v17)))) [] [], .as 61 false, .call false [] (.o (.c (.v (.int .i64 v20)))) [] [], .as 69 false, .call false [] (.o (.c (.v (.int .i64 v23)))) [] [], .as 75 false, .as 79 false, .call false [] (.o (.c (.sl 2))) [] [(2, .row 58 2 (v27.map Choice.enc))], .ln (v27.length), .as 88 false] [] [] [] (And.intro (laws_big_ok a0 v1 h2) (And.intro h3 (And.intro (And.intro (spec_DrawFindWay_ok a0 v4 h5) (rfl : ([] : List Nat) = [])) (And.intro (And.intro (con_sw 1000 1 (impl_FindWay_ok v4.1 v4.2.1 v4.2.2.1 v4.2.2.2 v6 h7)) (rfl : ([] : List Nat) = [])) (And.intro (impl_EarliestAt_ok v4.1 v4.2.1 v4.2.2.1 v4.2.2.2 v8 h9) (And.intro h10 (And.intro (impl_Max_ok v4.2.2.2 0 v12 h13) (And.intro (impl_IsWay_ok v4.1 v6.1 v4.2.1 v4.2.2.1 v12 v14 h15) (And.intro h16 (And.intro (impl_IsWay_ok v4.1 v6.1 v4.2.1 v4.2.2.1 v4.2.2.2 v17 h18) (And.intro h19 (And.intro (impl_WayEnds_ok v4.1 v6.1 v12 v20 h21) (And.intro h22 (And.intro (impl_SlackOf_ok v4.1 v6.1 v23 h24) (And.intro h25 (And.intro h26 (And.intro (And.intro (con_sw 1000 2 (impl_ChoicesOf_ok v4.1 v4.2.1 v4.2.2.1 v4.2.2.2 v27 h28)) (rfl : ([] : List Nat) = [])) (And.intro (lenm Choice.enc v27) (And.intro h29 True.intro))))))))))))))))))) (by kernel_rfl)

-- loop.example/g03014/laws.index
def laws_index_L1_b (a0 : (List ByteArray)) (a1 : ByteArray) (s1 : Int) : Option (Ctl Int Unit Int) :=
  bif (decide (s1 < (a0.length : Int))) then
  (gi a0 s1).bind fun v3 =>
  bif (v3.toList == a1.toList) then
  some (.ret s1)
  else
  some (.next (w64 (s1 + 1)))
  else
  some (.brk ())
def laws_index_L1 (a0 : (List ByteArray)) (a1 : ByteArray) (s : Int) : Option (Ctl Int Unit Int) := laws_index_L1_b a0 a1 s
def laws_index_L1_s (a0 : (List ByteArray)) (a1 : ByteArray) (s1 : Int) : St := ⟨[(0, .o (.c (.rs 1 (a0.map encS)))), (1, .o (.c (.v (.string a1)))), (5, .o (.c (.v (.int .i64 s1))))], []⟩
def laws_index_L1_S (a0 : (List ByteArray)) (a1 : ByteArray) (s : Int) : St := laws_index_L1_s a0 a1 s
def laws_index_L1_a : Option Int :=
  some (-1)
def laws_index_L1_k (x : (Unit) ⊕ (Int)) : Option Int := match x with
  | .inl t => laws_index_L1_a
  | .inr y => some y
def laws_index (a0 : (List ByteArray)) (a1 : ByteArray) : Option Int :=
  (loopM (laws_index_L1 a0 a1) big 0).bind (laws_index_L1_k)
theorem laws_index_ok (a0 : (List ByteArray)) (a1 : ByteArray) (r : Int) (hM : laws_index a0 a1 = some r) :
    Con Try.prog 29 [.c (.rs 1 (a0.map encS)), .c (.v (.string a1))] [] (.o (.c (.v (.int .i64 r)))) [] [] := by
  unfold laws_index at hM
  refine cn (N := 19) (pids := []) Try_mixed Try.func29 (by kernel_rfl) (by kernel_rfl) (by kernel_rfl) rfl fun ρ g w R => ?_
  have K1 : ∀ (_ : Unit), laws_index_L1_a = some r → Gr R [.code (cAt Try.f29 [1, 1])] (⟨[], []⟩) := by
    intro _ hM
    unfold laws_index_L1_a at hM
    have hE : some (-1) = some r := hM
    have hE := Option.some.inj hE
    subst hE
    exact pr R 9999 [] [] [] [] True.intro (by kernel_rfl)
  refine pc R 9999 [] [.keep [0, 1, 5] []] (k' := [.code (.loop (cAt Try.f29 [1, 0, 1, 0, 0])), .blk 0, .code (cAt Try.f29 [1, 1])]) (S' := laws_index_L1_S a0 a1 0) True.intro (by kernel_rfl) ?_
  refine lq (laws_index_L1_S a0 a1) (body := laws_index_L1 a0 a1) (k := laws_index_L1_k) hM fun m1 s c1 hM hK1 => ?_
  obtain ⟨s1, hs⟩ : ∃ z, z = s := ⟨_, rfl⟩
  subst hs
  have hM : laws_index_L1_b a0 a1 s1 = some c1 := hM
  unfold laws_index_L1_b at hM
  rcases cond_cases hM with ⟨h2, hM⟩ | ⟨h2, hM⟩
  · obtain ⟨v3, h4, hM⟩ := bind_some hM
    rcases cond_cases hM with ⟨h5, hM⟩ | ⟨h5, hM⟩
    · have hE : some (Ctl.ret s1) = some c1 := hM
      have hE := Option.some.inj hE
      subst hE
      have hE : some s1 = some r := hK1
      have hE := Option.some.inj hE
      subst hE
      exact pr R 9999 [.ln (a0.length), .as 9 true, .ix (encS v3), .as 17 true] [] [] [] (And.intro (lenm encS a0) (And.intro h2 (And.intro (gi_map encS h4) (And.intro h5 True.intro)))) (by kernel_rfl)
    · have hE : some (Ctl.next (w64 (s1 + 1))) = some c1 := hM
      have hE := Option.some.inj hE
      subst hE
      exact pc R 9999 [.ln (a0.length), .as 9 true, .ix (encS v3), .as 17 false] [.keep [0, 1, 5] []] (And.intro (lenm encS a0) (And.intro h2 (And.intro (gi_map encS h4) (And.intro h5 True.intro)))) (by kernel_rfl) (li (Sf := laws_index_L1_S a0 a1) (M := Mk (laws_index_L1 a0 a1) (laws_index_L1_k) r) (k := [.blk 0, .code (cAt Try.f29 [1, 1])]) (Nat.lt_succ_self m1) hK1)
  · have hE : some (Ctl.brk ()) = some c1 := hM
    have hE := Option.some.inj hE
    subst hE
    exact pc R 5 [.ln (a0.length), .as 9 false] [.keep [] []] (And.intro (lenm encS a0) (And.intro h2 True.intro)) (by kernel_rfl) (K1 () hK1)

-- loop.example/g03014/laws.at
def laws_at (a0 : (List Int)) (a1 : Int) : Option Int :=
  bif (decide (a1 ≥ (a0.length : Int))) then
  some 0
  else
  (gi a0 a1).bind fun v2 =>
  some (w64 v2)
theorem laws_at_ok (a0 : (List Int)) (a1 : Int) (r : Int) (hM : laws_at a0 a1 = some r) :
    Con Try.prog 20 [.c (.rs 1 (a0.map encU8)), .c (.v (.int .i64 a1))] [] (.o (.c (.v (.int .i64 r)))) [] [] := by
  unfold laws_at at hM
  refine cn (N := 14) (pids := []) Try_mixed Try.func20 (by kernel_rfl) (by kernel_rfl) (by kernel_rfl) rfl fun ρ g w R => ?_
  rcases cond_cases hM with ⟨h1, hM⟩ | ⟨h1, hM⟩
  · have hE : some 0 = some r := hM
    have hE := Option.some.inj hE
    subst hE
    exact pr R 9999 [.ln (a0.length), .as 8 true] [] [] [] (And.intro (lenm encU8 a0) (And.intro h1 True.intro)) (by kernel_rfl)
  · obtain ⟨v2, h3, hM⟩ := bind_some hM
    have hE : some (w64 v2) = some r := hM
    have hE := Option.some.inj hE
    subst hE
    exact pr R 9999 [.ln (a0.length), .as 8 false, .ix (encU8 v2)] [] [] [] (And.intro (lenm encU8 a0) (And.intro h1 (And.intro (gi_map encU8 h3) True.intro))) (by kernel_rfl)

-- loop.example/g03014/impl.NextTrip
def impl_NextTrip (a0 : Network) (a1 : Int) (a2 : Int) : Option (Trip × Bool) :=
  (impl_IsNetwork a0).bind fun v1 =>
  bif (!v1) then
  some ((Trip.mk ((Trip.mk 0 0).Leg) ((Trip.mk 0 0).Day)), false)
  else
  (impl_next a0 a1 a2).bind fun v4 =>
  some (v4.1, v4.2)
theorem impl_NextTrip_ok (a0 : Network) (a1 : Int) (a2 : Int) (r : Trip × Bool) (hM : impl_NextTrip a0 a1 a2 = some r) :
    Con Try.prog 31 [.agg [.rs 6 (a0.Legs.map Leg.enc), .rs 1 (a0.Off.map encI), .v (.int .i64 a0.Change)], .c (.v (.int .i64 a1)), .c (.v (.int .i64 a2))] [] (.tup [.c (.v (.agg (Trip.enc r.1).toArray)), .c (.v (.bool r.2))]) [] [] := by
  unfold impl_NextTrip at hM
  refine cn (N := 23) (pids := []) Try_mixed Try.func31 (by kernel_rfl) (by kernel_rfl) (by kernel_rfl) rfl fun ρ g w R => ?_
  obtain ⟨v1, h2, hM⟩ := bind_some hM
  rcases cond_cases hM with ⟨h3, hM⟩ | ⟨h3, hM⟩
  · have hE : some ((Trip.mk ((Trip.mk 0 0).Leg) ((Trip.mk 0 0).Day)), false) = some r := hM
    have hE := Option.some.inj hE
    subst hE
    exact pr R 9999 [.new 0, .new 1, .call false [] (.o (.c (.v (.bool v1)))) [] [], .as 12 true] [] [] [] (And.intro (impl_IsNetwork_ok a0 v1 h2) (And.intro h3 True.intro)) (by kernel_rfl)
  · obtain ⟨v4, h5, hM⟩ := bind_some hM
    have hE : some (v4.1, v4.2) = some r := hM
    have hE := Option.some.inj hE
    subst hE
    exact pr R 9999 [.new 0, .new 1, .call false [] (.o (.c (.v (.bool v1)))) [] [], .as 12 false, .call false [] (.tup [.c (.v (.agg (Trip.enc v4.1).toArray)), .c (.v (.bool v4.2))]) [] [], .new 2] [] [] [] (And.intro (impl_IsNetwork_ok a0 v1 h2) (And.intro h3 (And.intro (impl_next_ok a0 a1 a2 v4 h5) True.intro))) (by kernel_rfl)

-- loop.example/g03014/impl.EndsAt
def impl_EndsAt (a0 : Network) (a1 : Trip) : Option Int :=
  (impl_IsTrip a0 a1).bind fun v1 =>
  bif (!v1) then
  some (-1)
  else
  (impl_ends a0 a1).bind fun v4 =>
  some v4
theorem impl_EndsAt_ok (a0 : Network) (a1 : Trip) (r : Int) (hM : impl_EndsAt a0 a1 = some r) :
    Con Try.prog 32 [.agg [.rs 6 (a0.Legs.map Leg.enc), .rs 1 (a0.Off.map encI), .v (.int .i64 a0.Change)], .c (.v (.agg (Trip.enc a1).toArray))] [] (.o (.c (.v (.int .i64 r)))) [] [] := by
  unfold impl_EndsAt at hM
  refine cn (N := 12) (pids := []) Try_mixed Try.func32 (by kernel_rfl) (by kernel_rfl) (by kernel_rfl) rfl fun ρ g w R => ?_
  obtain ⟨v1, h2, hM⟩ := bind_some hM
  rcases cond_cases hM with ⟨h3, hM⟩ | ⟨h3, hM⟩
  · have hE : some (-1) = some r := hM
    have hE := Option.some.inj hE
    subst hE
    exact pr R 9999 [.new 0, .new 1, .call false [] (.o (.c (.v (.bool v1)))) [] [], .as 8 true] [] [] [] (And.intro (impl_IsTrip_ok a0 a1 v1 h2) (And.intro h3 True.intro)) (by kernel_rfl)
  · obtain ⟨v4, h5, hM⟩ := bind_some hM
    have hE : some v4 = some r := hM
    have hE := Option.some.inj hE
    subst hE
    exact pr R 9999 [.new 0, .new 1, .call false [] (.o (.c (.v (.bool v1)))) [] [], .as 8 false, .call false [] (.o (.c (.v (.int .i64 v4)))) [] []] [] [] [] (And.intro (impl_IsTrip_ok a0 a1 v1 h2) (And.intro h3 (And.intro (impl_ends_ok a0 a1 v4 h5) True.intro))) (by kernel_rfl)

-- loop.example/g03014/laws.FnWalk
def laws_FnWalk_x4 (a0 : (List Int)) (v4 : (Network × ByteArray × ByteArray × Int)) (s16 : ByteArray) (s17 : Int) (s18 : (List Trip)) (s19 : Int) (v37 : Int) (v41 : (Trip × Bool)) : St := ⟨[(0, .o (.c (.rs 1 (a0.map encU8)))), (3, .o (.c (.ptr 0 0))), (4, .o (.c (.v (.string v4.2.1)))), (6, .o (.c (.v (.int .i64 v4.2.2.2)))), (7, .o (.c (.v (.string s16)))), (8, .o (.c (.v (.int .i64 s17)))), (9, .o (.c (.sl 2))), (10, .o (.c (.v (.int .i64 s19)))), (11, .o (.c (.v (.int .i64 v37)))), (12, .o (.c (.ptr 4 0))), (13, .o (.c (.v (.bool v41.2))))], [(0, .box 32 [.rs 6 (v4.1.Legs.map Leg.enc), .rs 1 (v4.1.Off.map encI), .v (.int .i64 v4.1.Change)]), (2, .row 46 2 (s18.map Trip.enc)), (4, .box 46 [.v (.int .i64 v41.1.Leg), .v (.int .i64 v41.1.Day)])]⟩
def laws_FnWalk_s4 (a0 : (List Int)) (v4 : (Network × ByteArray × ByteArray × Int)) (s16 : ByteArray) (s17 : Int) (s18 : (List Trip)) (s19 : Int) (v37 : Int) : St := ⟨[(0, .o (.c (.rs 1 (a0.map encU8)))), (3, .o (.c (.ptr 0 0))), (4, .o (.c (.v (.string v4.2.1)))), (6, .o (.c (.v (.int .i64 v4.2.2.2)))), (7, .o (.c (.v (.string s16)))), (8, .o (.c (.v (.int .i64 s17)))), (9, .o (.c (.sl 2))), (10, .o (.c (.v (.int .i64 s19)))), (11, .o (.c (.v (.int .i64 v37))))], [(0, .box 32 [.rs 6 (v4.1.Legs.map Leg.enc), .rs 1 (v4.1.Off.map encI), .v (.int .i64 v4.1.Change)]), (2, .row 46 2 (s18.map Trip.enc))]⟩
def laws_FnWalk_o4 (v39 : Int) (v41 : (Trip × Bool)) : List (List Orc) := [[], [], [], [], [], [], [.call false [] (.o (.c (.v (.int .i64 v39)))) [] []], [], [], [], [.call false [] (.tup [.c (.v (.agg (Trip.enc v41.1).toArray)), .c (.v (.bool v41.2))]) [] []], [], [], [], [.new 4], [], []]
theorem laws_FnWalk_y4 (a0 : (List Int)) (v4 : (Network × ByteArray × ByteArray × Int)) (s16 : ByteArray) (s17 : Int) (s18 : (List Trip)) (s19 : Int) (v37 : Int) (v39 : Int) (v41 : (Trip × Bool)) (L : List Nat) : subX Try.prog [] 144 (opsOf (cAt Try.f6 [1, 1, 1, 1, 1, 1, 1, 0, 1, 0, 0, 1, 0, 0, 1, 0])) (laws_FnWalk_o4 v39 v41) L (laws_FnWalk_s4 a0 v4 s16 s17 s18 s19 v37) = subX Try.prog [] 144 (opsOf (cAt Try.f6 [1, 1, 1, 1, 1, 1, 1, 0, 1, 0, 0, 1, 0, 0, 1, 0])) (laws_FnWalk_o4 v39 v41) L (laws_FnWalk_s4 a0 v4 s16 s17 s18 s19 v37) := rfl
def laws_FnWalk_j1 (v4 : (Network × ByteArray × ByteArray × Int)) (s16 : ByteArray) (s17 : Int) (s18 : (List Trip)) (s19 : Int) (v37 : Int) (v41 : (Trip × Bool)) : Option (Ctl (ByteArray × Int × (List Trip) × Int) (ByteArray × (List Trip)) Bool) :=
  bif (!v41.2) then
  some (.next (s16, s17, s18, w64 (s19 + 1)))
  else
  (gi v4.1.Legs v37).bind fun v44 =>
  bif (!(v44.From.toList == s16.toList)) then
  some (.next (s16, s17, s18, w64 (s19 + 1)))
  else
  (ap 16 s18 ([v41.1] : List Trip)).bind fun v47 =>
  (gi v4.1.Legs v37).bind fun v49 =>
  (impl_EndsAt v4.1 v41.1).bind fun v51 =>
  some (.next (v49.To, w64 (v51 + v4.1.Change), v47, w64 (s19 + 1)))
def laws_FnWalk_L1_b (a0 : (List Int)) (v4 : (Network × ByteArray × ByteArray × Int)) (s16 : ByteArray) (s17 : Int) (s18 : (List Trip)) (s19 : Int) : Option (Ctl (ByteArray × Int × (List Trip) × Int) (ByteArray × (List Trip)) Bool) :=
  bif (decide (s19 < 5)) then
  (laws_at a0 (w64 (s19 + 1))).bind fun v35 =>
  (rM v35 (v4.1.Legs.length : Int)).bind fun v37 =>
  (laws_at a0 (w64 (s19 + 7))).bind fun v39 =>
  (impl_NextTrip v4.1 v37 (w64 (s17 + (w64 (30 * (Int.tmod v39 3)))))).bind fun v41 =>
  laws_FnWalk_j1 v4 s16 s17 s18 s19 v37 v41
  else
  some (.brk (s16, s18))
def laws_FnWalk_L1 (a0 : (List Int)) (v4 : (Network × ByteArray × ByteArray × Int)) (s : ByteArray × Int × (List Trip) × Int) : Option (Ctl (ByteArray × Int × (List Trip) × Int) (ByteArray × (List Trip)) Bool) := laws_FnWalk_L1_b a0 v4 s.1 s.2.1 s.2.2.1 s.2.2.2
def laws_FnWalk_L1_s (a0 : (List Int)) (v4 : (Network × ByteArray × ByteArray × Int)) (s16 : ByteArray) (s17 : Int) (s18 : (List Trip)) (s19 : Int) : St := ⟨[(0, .o (.c (.rs 1 (a0.map encU8)))), (3, .o (.c (.ptr 0 0))), (4, .o (.c (.v (.string v4.2.1)))), (6, .o (.c (.v (.int .i64 v4.2.2.2)))), (7, .o (.c (.v (.string s16)))), (8, .o (.c (.v (.int .i64 s17)))), (9, .o (.c (.sl 2))), (10, .o (.c (.v (.int .i64 s19))))], [(0, .box 32 [.rs 6 (v4.1.Legs.map Leg.enc), .rs 1 (v4.1.Off.map encI), .v (.int .i64 v4.1.Change)]), (2, .row 46 2 (s18.map Trip.enc))]⟩
def laws_FnWalk_L1_S (a0 : (List Int)) (v4 : (Network × ByteArray × ByteArray × Int)) (s : ByteArray × Int × (List Trip) × Int) : St := laws_FnWalk_L1_s a0 v4 s.1 s.2.1 s.2.2.1 s.2.2.2
def laws_FnWalk_L1_a (v4 : (Network × ByteArray × ByteArray × Int)) (s20 : ByteArray) (s21 : (List Trip)) : Option Bool :=
  (impl_WayEnds v4.1 s21 v4.2.2.2).bind fun v22 =>
  (impl_FindWay v4.1 v4.2.1 s20 v4.2.2.2).bind fun v24 =>
  (impl_WayEnds v4.1 v24.1 v4.2.2.2).bind fun v26 =>
  (impl_IsWay v4.1 s21 v4.2.1 s20 v4.2.2.2).bind fun v28 =>
  bif v28 then
  bif v24.2 then
  bif (decide (v26 ≤ v22)) then
  bif (decide (v26 < v22)) then
  some true
  else
  some (decide ((v24.1.length : Int) ≤ (s21.length : Int)))
  else
  some false
  else
  some false
  else
  some false
def laws_FnWalk_L1_k (v4 : (Network × ByteArray × ByteArray × Int)) (x : (ByteArray × (List Trip)) ⊕ (Bool)) : Option Bool := match x with
  | .inl t => laws_FnWalk_L1_a v4 t.1 t.2
  | .inr y => some y
def laws_FnWalk (a0 : (List Int)) : Option Bool :=
  (laws_big a0).bind fun v1 =>
  bif v1 then
  some true
  else
  (spec_DrawFindWay a0).bind fun v4 =>
  (spec_IsNetwork v4.1).bind fun v6 =>
  bif (!v6) then
  some true
  else
  bif (decide (v4.2.2.2 < 0)) then
  some true
  else
  bif (decide (v4.2.2.2 > 100000)) then
  some true
  else
  (spec_PlacesOf v4.1).bind fun v11 =>
  (laws_index v11 v4.2.1).bind fun v13 =>
  bif (decide (v13 < 0)) then
  some true
  else
  (loopM (laws_FnWalk_L1 a0 v4) big (v4.2.1, v4.2.2.2, ([] : List Trip), 0)).bind (laws_FnWalk_L1_k v4)
theorem laws_FnWalk_ok (a0 : (List Int)) (r : Bool) (hM : laws_FnWalk a0 = some r) :
    Con Try.prog 6 [.c (.rs 1 (a0.map encU8))] [] (.o (.c (.v (.bool r)))) [] [] := by
  unfold laws_FnWalk at hM
  refine cn (N := 144) (pids := []) Try_mixed Try.func6 (by kernel_rfl) (by kernel_rfl) (by kernel_rfl) rfl fun ρ g w R => ?_
  obtain ⟨v1, h2, hM⟩ := bind_some hM
  rcases cond_cases hM with ⟨h3, hM⟩ | ⟨h3, hM⟩
  · have hE : some true = some r := hM
    have hE := Option.some.inj hE
    subst hE
    exact pr R 9999 [.call false [] (.o (.c (.v (.bool v1)))) [] [], .as 19 true] [] [] [] (And.intro (laws_big_ok a0 v1 h2) (And.intro h3 True.intro)) (by kernel_rfl)
  · obtain ⟨v4, h5, hM⟩ := bind_some hM
    obtain ⟨v6, h7, hM⟩ := bind_some hM
    rcases cond_cases hM with ⟨h8, hM⟩ | ⟨h8, hM⟩
    · have hE : some true = some r := hM
      have hE := Option.some.inj hE
      subst hE
      exact pr R 9999 [.call false [] (.o (.c (.v (.bool v1)))) [] [], .as 19 false, .call true [] (.tup [.agg [.rs 6 (v4.1.Legs.map Leg.enc), .rs 1 (v4.1.Off.map encI), .v (.int .i64 v4.1.Change)], .c (.v (.string v4.2.1)), .c (.v (.string v4.2.2.1)), .c (.v (.int .i64 v4.2.2.2))]) [] [], .new 0, .call false [] (.o (.c (.v (.bool v6)))) [] [], .as 30 true] [] [] [] (And.intro (laws_big_ok a0 v1 h2) (And.intro h3 (And.intro (And.intro (spec_DrawFindWay_ok a0 v4 h5) (rfl : ([] : List Nat) = [])) (And.intro (spec_IsNetwork_ok v4.1 v6 h7) (And.intro h8 True.intro))))) (by kernel_rfl)
    · rcases cond_cases hM with ⟨h9, hM⟩ | ⟨h9, hM⟩
      · have hE : some true = some r := hM
        have hE := Option.some.inj hE
        subst hE
        exact pr R 9999 [.call false [] (.o (.c (.v (.bool v1)))) [] [], .as 19 false, .call true [] (.tup [.agg [.rs 6 (v4.1.Legs.map Leg.enc), .rs 1 (v4.1.Off.map encI), .v (.int .i64 v4.1.Change)], .c (.v (.string v4.2.1)), .c (.v (.string v4.2.2.1)), .c (.v (.int .i64 v4.2.2.2))]) [] [], .new 0, .call false [] (.o (.c (.v (.bool v6)))) [] [], .as 30 false, .as 34 true] [] [] [] (And.intro (laws_big_ok a0 v1 h2) (And.intro h3 (And.intro (And.intro (spec_DrawFindWay_ok a0 v4 h5) (rfl : ([] : List Nat) = [])) (And.intro (spec_IsNetwork_ok v4.1 v6 h7) (And.intro h8 (And.intro h9 True.intro)))))) (by kernel_rfl)
      · rcases cond_cases hM with ⟨h10, hM⟩ | ⟨h10, hM⟩
        · have hE : some true = some r := hM
          have hE := Option.some.inj hE
          subst hE
          exact pr R 9999 [.call false [] (.o (.c (.v (.bool v1)))) [] [], .as 19 false, .call true [] (.tup [.agg [.rs 6 (v4.1.Legs.map Leg.enc), .rs 1 (v4.1.Off.map encI), .v (.int .i64 v4.1.Change)], .c (.v (.string v4.2.1)), .c (.v (.string v4.2.2.1)), .c (.v (.int .i64 v4.2.2.2))]) [] [], .new 0, .call false [] (.o (.c (.v (.bool v6)))) [] [], .as 30 false, .as 34 false, .as 38 true] [] [] [] (And.intro (laws_big_ok a0 v1 h2) (And.intro h3 (And.intro (And.intro (spec_DrawFindWay_ok a0 v4 h5) (rfl : ([] : List Nat) = [])) (And.intro (spec_IsNetwork_ok v4.1 v6 h7) (And.intro h8 (And.intro h9 (And.intro h10 True.intro))))))) (by kernel_rfl)
        · obtain ⟨v11, h12, hM⟩ := bind_some hM
          obtain ⟨v13, h14, hM⟩ := bind_some hM
          rcases cond_cases hM with ⟨h15, hM⟩ | ⟨h15, hM⟩
          · have hE : some true = some r := hM
            have hE := Option.some.inj hE
            subst hE
            exact pr R 9999 [.call false [] (.o (.c (.v (.bool v1)))) [] [], .as 19 false, .call true [] (.tup [.agg [.rs 6 (v4.1.Legs.map Leg.enc), .rs 1 (v4.1.Off.map encI), .v (.int .i64 v4.1.Change)], .c (.v (.string v4.2.1)), .c (.v (.string v4.2.2.1)), .c (.v (.int .i64 v4.2.2.2))]) [] [], .new 0, .call false [] (.o (.c (.v (.bool v6)))) [] [], .as 30 false, .as 34 false, .as 38 false, .call false [] (.o (.c (.sl 1))) [] [(1, .row 9 1 (v11.map encS))], .call false [] (.o (.c (.v (.int .i64 v13)))) [] [], .as 44 true] [] [] [] (And.intro (laws_big_ok a0 v1 h2) (And.intro h3 (And.intro (And.intro (spec_DrawFindWay_ok a0 v4 h5) (rfl : ([] : List Nat) = [])) (And.intro (spec_IsNetwork_ok v4.1 v6 h7) (And.intro h8 (And.intro h9 (And.intro h10 (And.intro (And.intro (con_sw 1000 1 (spec_PlacesOf_ok v4.1 v11 h12)) (rfl : ([] : List Nat) = [])) (And.intro (laws_index_ok v11 v4.2.1 v13 h14) (And.intro h15 True.intro)))))))))) (by kernel_rfl)
          · have K1 : ∀ (s20 : ByteArray) (s21 : (List Trip)), laws_FnWalk_L1_a v4 s20 s21 = some r → Gr R [.code (cAt Try.f6 [1, 1, 1, 1, 1, 1, 1, 1])] (⟨[(3, .o (.c (.ptr 0 0))), (4, .o (.c (.v (.string v4.2.1)))), (6, .o (.c (.v (.int .i64 v4.2.2.2)))), (7, .o (.c (.v (.string s20)))), (9, .o (.c (.sl 2)))], [(0, .box 32 [.rs 6 (v4.1.Legs.map Leg.enc), .rs 1 (v4.1.Off.map encI), .v (.int .i64 v4.1.Change)]), (2, .row 46 2 (s21.map Trip.enc))]⟩) := by
              intro s20 s21 hM
              unfold laws_FnWalk_L1_a at hM
              obtain ⟨v22, h23, hM⟩ := bind_some hM
              obtain ⟨v24, h25, hM⟩ := bind_some hM
              obtain ⟨v26, h27, hM⟩ := bind_some hM
              obtain ⟨v28, h29, hM⟩ := bind_some hM
              rcases cond_cases hM with ⟨h30, hM⟩ | ⟨h30, hM⟩
              · rcases cond_cases hM with ⟨h31, hM⟩ | ⟨h31, hM⟩
                · rcases cond_cases hM with ⟨h32, hM⟩ | ⟨h32, hM⟩
                  · rcases cond_cases hM with ⟨h33, hM⟩ | ⟨h33, hM⟩
                    · have hE : some true = some r := hM
                      have hE := Option.some.inj hE
                      subst hE
                      exact pr R 9999 [.call false [] (.o (.c (.v (.int .i64 v22)))) [] [], .call false [] (.tup [.c (.sl 3), .c (.v (.bool v24.2))]) [] [(3, .row 46 2 (v24.1.map Trip.enc))], .call false [] (.o (.c (.v (.int .i64 v26)))) [] [], .call false [] (.o (.c (.v (.bool v28)))) [] [], .as 124 true, .as 127 true, .as 132 true, .as 136 true] [] [] [] (And.intro (impl_WayEnds_ok v4.1 s21 v4.2.2.2 v22 h23) (And.intro (And.intro (con_sw 1000 3 (impl_FindWay_ok v4.1 v4.2.1 s20 v4.2.2.2 v24 h25)) (rfl : ([] : List Nat) = [])) (And.intro (impl_WayEnds_ok v4.1 v24.1 v4.2.2.2 v26 h27) (And.intro (impl_IsWay_ok v4.1 s21 v4.2.1 s20 v4.2.2.2 v28 h29) (And.intro h30 (And.intro h31 (And.intro h32 (And.intro h33 True.intro)))))))) (by kernel_rfl)
                    · have hE : some (decide ((v24.1.length : Int) ≤ (s21.length : Int))) = some r := hM
                      have hE := Option.some.inj hE
                      subst hE
                      exact pr R 9999 [.call false [] (.o (.c (.v (.int .i64 v22)))) [] [], .call false [] (.tup [.c (.sl 3), .c (.v (.bool v24.2))]) [] [(3, .row 46 2 (v24.1.map Trip.enc))], .call false [] (.o (.c (.v (.int .i64 v26)))) [] [], .call false [] (.o (.c (.v (.bool v28)))) [] [], .as 124 true, .as 127 true, .as 132 true, .as 136 false, .ln (v24.1.length), .ln (s21.length)] [] [] [] (And.intro (impl_WayEnds_ok v4.1 s21 v4.2.2.2 v22 h23) (And.intro (And.intro (con_sw 1000 3 (impl_FindWay_ok v4.1 v4.2.1 s20 v4.2.2.2 v24 h25)) (rfl : ([] : List Nat) = [])) (And.intro (impl_WayEnds_ok v4.1 v24.1 v4.2.2.2 v26 h27) (And.intro (impl_IsWay_ok v4.1 s21 v4.2.1 s20 v4.2.2.2 v28 h29) (And.intro h30 (And.intro h31 (And.intro h32 (And.intro h33 (And.intro (lenm Trip.enc v24.1) (And.intro (lenm Trip.enc s21) True.intro)))))))))) (by kernel_rfl)
                  · have hE : some false = some r := hM
                    have hE := Option.some.inj hE
                    subst hE
                    exact pr R 9999 [.call false [] (.o (.c (.v (.int .i64 v22)))) [] [], .call false [] (.tup [.c (.sl 3), .c (.v (.bool v24.2))]) [] [(3, .row 46 2 (v24.1.map Trip.enc))], .call false [] (.o (.c (.v (.int .i64 v26)))) [] [], .call false [] (.o (.c (.v (.bool v28)))) [] [], .as 124 true, .as 127 true, .as 132 false] [] [] [] (And.intro (impl_WayEnds_ok v4.1 s21 v4.2.2.2 v22 h23) (And.intro (And.intro (con_sw 1000 3 (impl_FindWay_ok v4.1 v4.2.1 s20 v4.2.2.2 v24 h25)) (rfl : ([] : List Nat) = [])) (And.intro (impl_WayEnds_ok v4.1 v24.1 v4.2.2.2 v26 h27) (And.intro (impl_IsWay_ok v4.1 s21 v4.2.1 s20 v4.2.2.2 v28 h29) (And.intro h30 (And.intro h31 (And.intro h32 True.intro))))))) (by kernel_rfl)
                · have hE : some false = some r := hM
                  have hE := Option.some.inj hE
                  subst hE
                  exact pr R 9999 [.call false [] (.o (.c (.v (.int .i64 v22)))) [] [], .call false [] (.tup [.c (.sl 3), .c (.v (.bool v24.2))]) [] [(3, .row 46 2 (v24.1.map Trip.enc))], .call false [] (.o (.c (.v (.int .i64 v26)))) [] [], .call false [] (.o (.c (.v (.bool v28)))) [] [], .as 124 true, .as 127 false] [] [] [] (And.intro (impl_WayEnds_ok v4.1 s21 v4.2.2.2 v22 h23) (And.intro (And.intro (con_sw 1000 3 (impl_FindWay_ok v4.1 v4.2.1 s20 v4.2.2.2 v24 h25)) (rfl : ([] : List Nat) = [])) (And.intro (impl_WayEnds_ok v4.1 v24.1 v4.2.2.2 v26 h27) (And.intro (impl_IsWay_ok v4.1 s21 v4.2.1 s20 v4.2.2.2 v28 h29) (And.intro h30 (And.intro h31 True.intro)))))) (by kernel_rfl)
              · have hE : some false = some r := hM
                have hE := Option.some.inj hE
                subst hE
                exact pr R 9999 [.call false [] (.o (.c (.v (.int .i64 v22)))) [] [], .call false [] (.tup [.c (.sl 3), .c (.v (.bool v24.2))]) [] [(3, .row 46 2 (v24.1.map Trip.enc))], .call false [] (.o (.c (.v (.int .i64 v26)))) [] [], .call false [] (.o (.c (.v (.bool v28)))) [] [], .as 124 false] [] [] [] (And.intro (impl_WayEnds_ok v4.1 s21 v4.2.2.2 v22 h23) (And.intro (And.intro (con_sw 1000 3 (impl_FindWay_ok v4.1 v4.2.1 s20 v4.2.2.2 v24 h25)) (rfl : ([] : List Nat) = [])) (And.intro (impl_WayEnds_ok v4.1 v24.1 v4.2.2.2 v26 h27) (And.intro (impl_IsWay_ok v4.1 s21 v4.2.1 s20 v4.2.2.2 v28 h29) (And.intro h30 True.intro))))) (by kernel_rfl)
            refine pc R 9999 [.call false [] (.o (.c (.v (.bool v1)))) [] [], .as 19 false, .call true [] (.tup [.agg [.rs 6 (v4.1.Legs.map Leg.enc), .rs 1 (v4.1.Off.map encI), .v (.int .i64 v4.1.Change)], .c (.v (.string v4.2.1)), .c (.v (.string v4.2.2.1)), .c (.v (.int .i64 v4.2.2.2))]) [] [], .new 0, .call false [] (.o (.c (.v (.bool v6)))) [] [], .as 30 false, .as 34 false, .as 38 false, .call false [] (.o (.c (.sl 1))) [] [(1, .row 9 1 (v11.map encS))], .call false [] (.o (.c (.v (.int .i64 v13)))) [] [], .as 44 false, .new 2] [.keep [0, 3, 4, 6, 7, 8, 9, 10] [0, 2]] (k' := [.code (.loop (cAt Try.f6 [1, 1, 1, 1, 1, 1, 1, 0, 1, 0, 0])), .blk 0, .code (cAt Try.f6 [1, 1, 1, 1, 1, 1, 1, 1])]) (S' := laws_FnWalk_L1_S a0 v4 (v4.2.1, v4.2.2.2, ([] : List Trip), 0)) (And.intro (laws_big_ok a0 v1 h2) (And.intro h3 (And.intro (And.intro (spec_DrawFindWay_ok a0 v4 h5) (rfl : ([] : List Nat) = [])) (And.intro (spec_IsNetwork_ok v4.1 v6 h7) (And.intro h8 (And.intro h9 (And.intro h10 (And.intro (And.intro (con_sw 1000 1 (spec_PlacesOf_ok v4.1 v11 h12)) (rfl : ([] : List Nat) = [])) (And.intro (laws_index_ok v11 v4.2.1 v13 h14) (And.intro h15 True.intro)))))))))) (by kernel_rfl) ?_
            refine lq (laws_FnWalk_L1_S a0 v4) (body := laws_FnWalk_L1 a0 v4) (k := laws_FnWalk_L1_k v4) hM fun m1 s c1 hM hK1 => ?_
            obtain ⟨s16, s17, s18, s19⟩ := s
            have hM : laws_FnWalk_L1_b a0 v4 s16 s17 s18 s19 = some c1 := hM
            unfold laws_FnWalk_L1_b at hM
            rcases cond_cases hM with ⟨h34, hM⟩ | ⟨h34, hM⟩
            · obtain ⟨v35, h36, hM⟩ := bind_some hM
              obtain ⟨v37, h38, hM⟩ := bind_some hM
              obtain ⟨v39, h40, hM⟩ := bind_some hM
              obtain ⟨v41, h42, hM⟩ := bind_some hM
              have J1 : ∀ (_ : Unit), laws_FnWalk_j1 v4 s16 s17 s18 s19 v37 v41 = some c1 → Gr R [.code (cAt Try.f6 [1, 1, 1, 1, 1, 1, 1, 0, 1, 0, 0, 1, 0, 0, 1, 1]), .blk 1, .code (cAt Try.f6 [1, 1, 1, 1, 1, 1, 1, 0, 1, 0, 0, 1, 1]), .inv (Jr R (laws_FnWalk_L1_S a0 v4) (Mk (laws_FnWalk_L1 a0 v4) (laws_FnWalk_L1_k v4) r) (m1 + 1)), .blk 0, .code (cAt Try.f6 [1, 1, 1, 1, 1, 1, 1, 1])] (laws_FnWalk_x4 a0 v4 s16 s17 s18 s19 v37 v41) := by
                intro _ hM
                unfold laws_FnWalk_j1 at hM
                rcases cond_cases hM with ⟨h43, hM⟩ | ⟨h43, hM⟩
                · have hE : some (Ctl.next (s16, s17, s18, w64 (s19 + 1))) = some c1 := hM
                  have hE := Option.some.inj hE
                  subst hE
                  exact pc R 9999 [.as 76 true] [.keep [0, 3, 4, 6, 7, 8, 9, 10] [0, 2]] (And.intro h43 True.intro) (by kernel_rfl) (li (Sf := laws_FnWalk_L1_S a0 v4) (M := Mk (laws_FnWalk_L1 a0 v4) (laws_FnWalk_L1_k v4) r) (k := [.blk 0, .code (cAt Try.f6 [1, 1, 1, 1, 1, 1, 1, 1])]) (Nat.lt_succ_self m1) hK1)
                · obtain ⟨v44, h45, hM⟩ := bind_some hM
                  rcases cond_cases hM with ⟨h46, hM⟩ | ⟨h46, hM⟩
                  · have hE : some (Ctl.next (s16, s17, s18, w64 (s19 + 1))) = some c1 := hM
                    have hE := Option.some.inj hE
                    subst hE
                    exact pc R 9999 [.as 76 false, .ix (Leg.enc v44), .as 85 true] [.keep [0, 3, 4, 6, 7, 8, 9, 10] [0, 2]] (And.intro h43 (And.intro (gi_map Leg.enc h45) (And.intro h46 True.intro))) (by kernel_rfl) (li (Sf := laws_FnWalk_L1_S a0 v4) (M := Mk (laws_FnWalk_L1 a0 v4) (laws_FnWalk_L1_k v4) r) (k := [.blk 0, .code (cAt Try.f6 [1, 1, 1, 1, 1, 1, 1, 1])]) (Nat.lt_succ_self m1) hK1)
                  · obtain ⟨v47, h48, hM⟩ := bind_some hM
                    obtain ⟨v49, h50, hM⟩ := bind_some hM
                    obtain ⟨v51, h52, hM⟩ := bind_some hM
                    have hE : some (Ctl.next (v49.To, w64 (v51 + v4.1.Change), v47, w64 (s19 + 1))) = some c1 := hM
                    have hE := Option.some.inj hE
                    subst hE
                    exact pc R 9999 [.as 76 false, .ix (Leg.enc v44), .as 85 false, .new 5, .new 6, .nm (v47.map Trip.enc), .ix (Leg.enc v49), .call false [] (.o (.c (.v (.int .i64 v51)))) [] []] [.sw 6 2, .keep [0, 3, 4, 6, 7, 8, 9, 10] [0, 2]] (And.intro h43 (And.intro (gi_map Leg.enc h45) (And.intro h46 (And.intro (ap_ok Trip.enc h48) (And.intro (gi_map Leg.enc h50) (And.intro (impl_EndsAt_ok v4.1 v41.1 v51 h52) True.intro)))))) (by kernel_rfl) (li (Sf := laws_FnWalk_L1_S a0 v4) (M := Mk (laws_FnWalk_L1 a0 v4) (laws_FnWalk_L1_k v4) r) (k := [.blk 0, .code (cAt Try.f6 [1, 1, 1, 1, 1, 1, 1, 1])]) (Nat.lt_succ_self m1) hK1)
              exact pc R 11 [.as 49 true, .call false [] (.o (.c (.v (.int .i64 v35)))) [] [], .ln (v4.1.Legs.length), .run 59 (.int .i64 v37), .xg (laws_FnWalk_o4 v39 v41) [.keep [0, 3, 4, 6, 7, 8, 9, 10, 11] [0, 2]] [.keep [0, 3, 4, 6, 7, 8, 9, 10, 11, 12, 13] [0, 2, 4]] (laws_FnWalk_x4 a0 v4 s16 s17 s18 s19 v37 v41) [[1, 2, 3, 4, 5], [0, 1, 2, 3, 4, 5], [1, 2, 3, 4, 5, 6, 7, 8, 9], [1, 2, 3, 4, 5, 14], [0, 1, 2, 3, 4, 5, 6, 7, 8, 9], [0, 1, 2, 3, 4, 5, 14], [1, 2, 3, 4, 5, 6, 7, 8, 9, 14], [0, 1, 2, 3, 4, 5, 6, 7, 8, 9, 10, 11, 12, 13], [0, 1, 2, 3, 4, 5, 6, 7, 8, 9, 14], [0, 1, 2, 3, 4, 5, 6, 7, 8, 9, 10, 11, 12, 13, 14]]] [] (And.intro h34 (And.intro (laws_at_ok a0 (w64 (s19 + 1)) v35 h36) (And.intro (lenm Leg.enc v4.1.Legs) (And.intro (rM_run (P := Try.prog) (t := 3) (x := .tmp 0) (y := .tmp 0) h38) (And.intro (laws_FnWalk_y4 a0 v4 s16 s17 s18 s19 v37 v39 v41 [1, 2, 3, 4, 5]) (And.intro (laws_FnWalk_y4 a0 v4 s16 s17 s18 s19 v37 v39 v41 [0, 1, 2, 3, 4, 5]) (And.intro (laws_at_ok a0 (w64 (s19 + 7)) v39 h40) (And.intro (laws_FnWalk_y4 a0 v4 s16 s17 s18 s19 v37 v39 v41 [1, 2, 3, 4, 5, 6, 7, 8, 9]) (And.intro (laws_FnWalk_y4 a0 v4 s16 s17 s18 s19 v37 v39 v41 [1, 2, 3, 4, 5, 14]) (And.intro (laws_at_ok a0 (w64 (s19 + 7)) v39 h40) (And.intro (laws_FnWalk_y4 a0 v4 s16 s17 s18 s19 v37 v39 v41 [0, 1, 2, 3, 4, 5, 6, 7, 8, 9]) (And.intro (laws_FnWalk_y4 a0 v4 s16 s17 s18 s19 v37 v39 v41 [0, 1, 2, 3, 4, 5, 14]) (And.intro (laws_FnWalk_y4 a0 v4 s16 s17 s18 s19 v37 v39 v41 [0, 1, 2, 3, 4, 5, 6, 7, 8, 9]) (And.intro (laws_FnWalk_y4 a0 v4 s16 s17 s18 s19 v37 v39 v41 [1, 2, 3, 4, 5, 6, 7, 8, 9, 14]) (And.intro (laws_FnWalk_y4 a0 v4 s16 s17 s18 s19 v37 v39 v41 [0, 1, 2, 3, 4, 5, 14]) (And.intro (laws_at_ok a0 (w64 (s19 + 7)) v39 h40) (And.intro (laws_FnWalk_y4 a0 v4 s16 s17 s18 s19 v37 v39 v41 [1, 2, 3, 4, 5, 6, 7, 8, 9, 14]) (And.intro (impl_NextTrip_ok v4.1 v37 (w64 (s17 + (w64 (30 * (Int.tmod v39 3))))) v41 h42) (And.intro (laws_FnWalk_y4 a0 v4 s16 s17 s18 s19 v37 v39 v41 [0, 1, 2, 3, 4, 5, 6, 7, 8, 9, 10, 11, 12, 13]) (And.intro (laws_FnWalk_y4 a0 v4 s16 s17 s18 s19 v37 v39 v41 [0, 1, 2, 3, 4, 5, 6, 7, 8, 9, 14]) (And.intro (laws_at_ok a0 (w64 (s19 + 7)) v39 h40) (And.intro (laws_FnWalk_y4 a0 v4 s16 s17 s18 s19 v37 v39 v41 [0, 1, 2, 3, 4, 5, 6, 7, 8, 9, 14]) (And.intro (laws_FnWalk_y4 a0 v4 s16 s17 s18 s19 v37 v39 v41 [0, 1, 2, 3, 4, 5, 6, 7, 8, 9, 14]) (And.intro (laws_FnWalk_y4 a0 v4 s16 s17 s18 s19 v37 v39 v41 [0, 1, 2, 3, 4, 5, 6, 7, 8, 9, 10, 11, 12, 13, 14]) (And.intro (impl_NextTrip_ok v4.1 v37 (w64 (s17 + (w64 (30 * (Int.tmod v39 3))))) v41 h42) (And.intro (laws_FnWalk_y4 a0 v4 s16 s17 s18 s19 v37 v39 v41 [0, 1, 2, 3, 4, 5, 6, 7, 8, 9, 10, 11, 12, 13, 14]) (And.intro (rfl : (laws_FnWalk_x4 a0 v4 s16 s17 s18 s19 v37 v41) = (laws_FnWalk_x4 a0 v4 s16 s17 s18 s19 v37 v41)) True.intro))))))))))))))))))))))))))) (by kernel_rfl) (J1 () hM)
            · have hE : some (Ctl.brk (s16, s18)) = some c1 := hM
              have hE := Option.some.inj hE
              subst hE
              exact pc R 5 [.as 49 false] [.keep [3, 4, 6, 7, 9] [0, 2]] (And.intro h34 True.intro) (by kernel_rfl) (K1 s16 s18 hK1)
end Go.Sx
