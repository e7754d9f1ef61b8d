/- The functions of the program as plain Lean, and that each runs so (printed by wip/gen). -/
import Derived.Test.YtnefegnodjaldaaGlW2
namespace Go.Sx
open Go.Proofs
set_option linter.unusedVariables false
set_option maxRecDepth 100000

-- loop.example/g03014/impl.wayTo
def impl_wayTo_at1fn94_L4_b (s20 : (List Trip)) (s21 : (List Trip)) (s22 : Int) : Option (Ctl ((List Trip) × Int) (List Trip) ((List Trip) × Bool)) :=
  bif (decide (s22 ≥ 0)) then
  (gi s20 s22).bind fun v25 =>
  (ap 16 s21 ([v25] : List Trip)).bind fun v27 =>
  some (.next (v27, w64 (s22 - 1)))
  else
  some (.brk s21)
def impl_wayTo_at1fn94_L4 (s20 : (List Trip)) (s : (List Trip) × Int) : Option (Ctl ((List Trip) × Int) (List Trip) ((List Trip) × Bool)) := impl_wayTo_at1fn94_L4_b s20 s.1 s.2
def impl_wayTo_at1fn94_L4_s (a1 : (Network × (List Trip) × (List Booking) × Int)) (s20 : (List Trip)) (s21 : (List Trip)) (s22 : Int) : St := ⟨[(1, .o (.c (.fn 94 [901, 921, 941, 961]))), (19, .o (.c (.sl 3))), (22, .o (.c (.sl 4))), (23, .o (.c (.v (.int .i64 s22))))], [(901, .box 32 [.rs 6 (a1.1.Legs.map Leg.enc), .rs 1 (a1.1.Off.map encI), .v (.int .i64 a1.1.Change)]), (921, .box 27 [.rs 2 (a1.2.1.map Trip.enc)]), (941, .box 41 [.rs 4 (a1.2.2.1.map Booking.enc)]), (961, .box 3 [.v (.int .i64 a1.2.2.2)]), (3, .row 46 2 (s20.map Trip.enc)), (4, .row 46 2 (s21.map Trip.enc))]⟩
def impl_wayTo_at1fn94_L4_S (a1 : (Network × (List Trip) × (List Booking) × Int)) (s20 : (List Trip)) (s : (List Trip) × Int) : St := impl_wayTo_at1fn94_L4_s a1 s20 s.1 s.2
def impl_wayTo_at1fn94_L4_a (s23 : (List Trip)) : Option ((List Trip) × Bool) :=
  some (s23, true)
def impl_wayTo_at1fn94_L4_k (x : ((List Trip)) ⊕ ((List Trip) × Bool)) : Option ((List Trip) × Bool) := match x with
  | .inl t => impl_wayTo_at1fn94_L4_a t
  | .inr y => some y
def impl_wayTo_at1fn94_x4 (a0 : Network) (a1 : (Network × (List Trip) × (List Booking) × Int)) (a2 : ByteArray) (s7 : (List (List Int))) (s15 : (List ByteArray)) (s18 : Int) (s19 : (List Trip)) (v32 : (Trip × Bool)) : St := ⟨[(1, .o (.c (.fn 94 [901, 921, 941, 961]))), (2, .o (.c (.v (.string a2)))), (5, .o (.c (.ptr 0 0))), (12, .o (.c (.rs 1 (s15.map encS)))), (14, .o (.c (.sl 2))), (18, .o (.c (.v (.int .i64 s18)))), (19, .o (.c (.sl 3))), (20, .o (.c (.ptr 7 0))), (21, .o (.c (.v (.bool v32.2))))], [(901, .box 32 [.rs 6 (a1.1.Legs.map Leg.enc), .rs 1 (a1.1.Off.map encI), .v (.int .i64 a1.1.Change)]), (921, .box 27 [.rs 2 (a1.2.1.map Trip.enc)]), (941, .box 41 [.rs 4 (a1.2.2.1.map Booking.enc)]), (961, .box 3 [.v (.int .i64 a1.2.2.2)]), (0, .box 32 [.rs 6 (a0.Legs.map Leg.enc), .rs 1 (a0.Off.map encI), .v (.int .i64 a0.Change)]), (2, .rows 23 1 (s7.map (List.map encI))), (3, .row 46 2 (s19.map Trip.enc)), (7, .box 46 [.v (.int .i64 v32.1.Leg), .v (.int .i64 v32.1.Day)])]⟩
def impl_wayTo_at1fn94_s4 (a0 : Network) (a1 : (Network × (List Trip) × (List Booking) × Int)) (a2 : ByteArray) (s7 : (List (List Int))) (s15 : (List ByteArray)) (s16 : Int) (s17 : Int) (s18 : Int) (s19 : (List Trip)) : St := ⟨[(1, .o (.c (.fn 94 [901, 921, 941, 961]))), (2, .o (.c (.v (.string a2)))), (5, .o (.c (.ptr 0 0))), (12, .o (.c (.rs 1 (s15.map encS)))), (13, .o (.c (.v (.int .i64 s16)))), (14, .o (.c (.sl 2))), (17, .o (.c (.v (.int .i64 s17)))), (18, .o (.c (.v (.int .i64 s18)))), (19, .o (.c (.sl 3)))], [(901, .box 32 [.rs 6 (a1.1.Legs.map Leg.enc), .rs 1 (a1.1.Off.map encI), .v (.int .i64 a1.1.Change)]), (921, .box 27 [.rs 2 (a1.2.1.map Trip.enc)]), (941, .box 41 [.rs 4 (a1.2.2.1.map Booking.enc)]), (961, .box 3 [.v (.int .i64 a1.2.2.2)]), (0, .box 32 [.rs 6 (a0.Legs.map Leg.enc), .rs 1 (a0.Off.map encI), .v (.int .i64 a0.Change)]), (2, .rows 23 1 (s7.map (List.map encI))), (3, .row 46 2 (s19.map Trip.enc))]⟩
def impl_wayTo_at1fn94_o4 (a1 : (Network × (List Trip) × (List Booking) × Int)) (v30 : (List Int)) (v32 : (Trip × Bool)) : List (List Orc) := [[], [], [], [], [], [], [], [.nm ((List.map encI) v30)], [], [], [], [.ad (.keep [1, 2, 5, 12, 13, 14, 17, 18, 19, 20, 21, 75, 76, 79, 80, 81, 82, 83, 84, 85, 86, 87, 88, 89, 90, 91, 92, 93] [901, 921, 941, 961, 0, 2, 3, 1, 4, 5, 6, 7, 8, 9, 10, 11, 12, 13, 14, 15, 16, 17, 18, 19, 20, 21, 22, 23, 24, 25, 26, 27, 28, 29, 30, 31, 32, 33, 34, 35, 36, 37, 38, 39, 40, 41, 42, 43, 44, 45, 46]), .call true [901, 921, 941, 961] (.tup [.c (.v (.agg (Trip.enc v32.1).toArray)), .c (.v (.bool v32.2))]) [(901, .box 32 [.rs 6 (a1.1.Legs.map Leg.enc), .rs 1 (a1.1.Off.map encI), .v (.int .i64 a1.1.Change)]), (921, .box 27 [.rs 2 (a1.2.1.map Trip.enc)]), (941, .box 41 [.rs 4 (a1.2.2.1.map Booking.enc)]), (961, .box 3 [.v (.int .i64 a1.2.2.2)])] []], [], [], [], [.new 7], [], []]
theorem impl_wayTo_at1fn94_y4 (a0 : Network) (a1 : (Network × (List Trip) × (List Booking) × Int)) (a2 : ByteArray) (s7 : (List (List Int))) (s15 : (List ByteArray)) (s16 : Int) (s17 : Int) (s18 : Int) (s19 : (List Trip)) (v30 : (List Int)) (v32 : (Trip × Bool)) (L : List Nat) : subX Try.prog [901, 921, 941, 961] 133 (opsOf (cAt Try.f42 [1, 1, 1, 1, 1, 1, 1, 1, 1, 1, 0, 0, 0, 1, 0, 0, 0])) (impl_wayTo_at1fn94_o4 a1 v30 v32) L (impl_wayTo_at1fn94_s4 a0 a1 a2 s7 s15 s16 s17 s18 s19) = subX Try.prog [901, 921, 941, 961] 133 (opsOf (cAt Try.f42 [1, 1, 1, 1, 1, 1, 1, 1, 1, 1, 0, 0, 0, 1, 0, 0, 0])) (impl_wayTo_at1fn94_o4 a1 v30 v32) L (impl_wayTo_at1fn94_s4 a0 a1 a2 s7 s15 s16 s17 s18 s19) := rfl
def impl_wayTo_at1fn94_j1 (a0 : Network) (s7 : (List (List Int))) (s15 : (List ByteArray)) (s18 : Int) (s19 : (List Trip)) (v32 : (Trip × Bool)) : Option (Ctl ((List ByteArray) × Int × Int × Int × (List Trip)) (List Trip) ((List Trip) × Bool)) :=
  bif (!v32.2) then
  some (.ret (([] : List Trip), false))
  else
  (ap 16 s19 ([v32.1] : List Trip)).bind fun v35 =>
  (gi a0.Legs v32.1.Leg).bind fun v37 =>
  (impl_placeAt s15 v37.From).bind fun v39 =>
  (gi s7 (w64 (s18 - 1))).bind fun v41 =>
  (gi v41 v39).bind fun v43 =>
  some (.next (s15, v39, v43, w64 (s18 - 1), v35))
def impl_wayTo_at1fn94_L3_b (a0 : Network) (a1 : (Network × (List Trip) × (List Booking) × Int)) (a2 : ByteArray) (s7 : (List (List Int))) (s15 : (List ByteArray)) (s16 : Int) (s17 : Int) (s18 : Int) (s19 : (List Trip)) : Option (Ctl ((List ByteArray) × Int × Int × Int × (List Trip)) (List Trip) ((List Trip) × Bool)) :=
  bif (decide (s18 > 0)) then
  (gi s7 (w64 (s18 - 1))).bind fun v30 =>
  (impl_lastLeg_at1fn94 a0 a1 s15 v30 a2 s16 s17).bind fun v32 =>
  impl_wayTo_at1fn94_j1 a0 s7 s15 s18 s19 v32
  else
  some (.brk s19)
def impl_wayTo_at1fn94_L3 (a0 : Network) (a1 : (Network × (List Trip) × (List Booking) × Int)) (a2 : ByteArray) (s7 : (List (List Int))) (s : (List ByteArray) × Int × Int × Int × (List Trip)) : Option (Ctl ((List ByteArray) × Int × Int × Int × (List Trip)) (List Trip) ((List Trip) × Bool)) := impl_wayTo_at1fn94_L3_b a0 a1 a2 s7 s.1 s.2.1 s.2.2.1 s.2.2.2.1 s.2.2.2.2
def impl_wayTo_at1fn94_L3_s (a0 : Network) (a1 : (Network × (List Trip) × (List Booking) × Int)) (a2 : ByteArray) (s7 : (List (List Int))) (s15 : (List ByteArray)) (s16 : Int) (s17 : Int) (s18 : Int) (s19 : (List Trip)) : St := ⟨[(1, .o (.c (.fn 94 [901, 921, 941, 961]))), (2, .o (.c (.v (.string a2)))), (5, .o (.c (.ptr 0 0))), (12, .o (.c (.rs 1 (s15.map encS)))), (13, .o (.c (.v (.int .i64 s16)))), (14, .o (.c (.sl 2))), (17, .o (.c (.v (.int .i64 s17)))), (18, .o (.c (.v (.int .i64 s18)))), (19, .o (.c (.sl 3)))], [(901, .box 32 [.rs 6 (a1.1.Legs.map Leg.enc), .rs 1 (a1.1.Off.map encI), .v (.int .i64 a1.1.Change)]), (921, .box 27 [.rs 2 (a1.2.1.map Trip.enc)]), (941, .box 41 [.rs 4 (a1.2.2.1.map Booking.enc)]), (961, .box 3 [.v (.int .i64 a1.2.2.2)]), (0, .box 32 [.rs 6 (a0.Legs.map Leg.enc), .rs 1 (a0.Off.map encI), .v (.int .i64 a0.Change)]), (2, .rows 23 1 (s7.map (List.map encI))), (3, .row 46 2 (s19.map Trip.enc))]⟩
def impl_wayTo_at1fn94_L3_S (a0 : Network) (a1 : (Network × (List Trip) × (List Booking) × Int)) (a2 : ByteArray) (s7 : (List (List Int))) (s : (List ByteArray) × Int × Int × Int × (List Trip)) : St := impl_wayTo_at1fn94_L3_s a0 a1 a2 s7 s.1 s.2.1 s.2.2.1 s.2.2.2.1 s.2.2.2.2
def impl_wayTo_at1fn94_L3_a (s20 : (List Trip)) : Option ((List Trip) × Bool) :=
  (loopM (impl_wayTo_at1fn94_L4 s20) big (([] : List Trip), w64 ((s20.length : Int) - 1))).bind (impl_wayTo_at1fn94_L4_k)
def impl_wayTo_at1fn94_L3_k (x : ((List Trip)) ⊕ ((List Trip) × Bool)) : Option ((List Trip) × Bool) := match x with
  | .inl t => impl_wayTo_at1fn94_L3_a t
  | .inr y => some y
def impl_wayTo_at1fn94_L2_b (v3 : Int) (s7 : (List (List Int))) (v10 : Int) (s13 : Int) : Option (Ctl Int Int ((List Trip) × Bool)) :=
  (gi s7 s13).bind fun v45 =>
  (gi v45 v3).bind fun v47 =>
  bif (v47 != v10) then
  some (.next (w64 (s13 + 1)))
  else
  some (.brk s13)
def impl_wayTo_at1fn94_L2 (v3 : Int) (s7 : (List (List Int))) (v10 : Int) (s : Int) : Option (Ctl Int Int ((List Trip) × Bool)) := impl_wayTo_at1fn94_L2_b v3 s7 v10 s
def impl_wayTo_at1fn94_L2_s (a0 : Network) (a1 : (Network × (List Trip) × (List Booking) × Int)) (a2 : ByteArray) (v1 : (List ByteArray)) (v3 : Int) (s7 : (List (List Int))) (v10 : Int) (s13 : Int) : St := ⟨[(1, .o (.c (.fn 94 [901, 921, 941, 961]))), (2, .o (.c (.v (.string a2)))), (5, .o (.c (.ptr 0 0))), (12, .o (.c (.sl 1))), (13, .o (.c (.v (.int .i64 v3)))), (14, .o (.c (.sl 2))), (17, .o (.c (.v (.int .i64 v10)))), (18, .o (.c (.v (.int .i64 s13))))], [(901, .box 32 [.rs 6 (a1.1.Legs.map Leg.enc), .rs 1 (a1.1.Off.map encI), .v (.int .i64 a1.1.Change)]), (921, .box 27 [.rs 2 (a1.2.1.map Trip.enc)]), (941, .box 41 [.rs 4 (a1.2.2.1.map Booking.enc)]), (961, .box 3 [.v (.int .i64 a1.2.2.2)]), (0, .box 32 [.rs 6 (a0.Legs.map Leg.enc), .rs 1 (a0.Off.map encI), .v (.int .i64 a0.Change)]), (1, .row 9 1 (v1.map encS)), (2, .rows 23 1 (s7.map (List.map encI)))]⟩
def impl_wayTo_at1fn94_L2_S (a0 : Network) (a1 : (Network × (List Trip) × (List Booking) × Int)) (a2 : ByteArray) (v1 : (List ByteArray)) (v3 : Int) (s7 : (List (List Int))) (v10 : Int) (s : Int) : St := impl_wayTo_at1fn94_L2_s a0 a1 a2 v1 v3 s7 v10 s
def impl_wayTo_at1fn94_L2_a (a0 : Network) (a1 : (Network × (List Trip) × (List Booking) × Int)) (a2 : ByteArray) (v1 : (List ByteArray)) (v3 : Int) (s7 : (List (List Int))) (v10 : Int) (s14 : Int) : Option ((List Trip) × Bool) :=
  (loopM (impl_wayTo_at1fn94_L3 a0 a1 a2 s7) big (v1, v3, v10, s14, ([] : List Trip))).bind (impl_wayTo_at1fn94_L3_k)
def impl_wayTo_at1fn94_L2_k (a0 : Network) (a1 : (Network × (List Trip) × (List Booking) × Int)) (a2 : ByteArray) (v1 : (List ByteArray)) (v3 : Int) (s7 : (List (List Int))) (v10 : Int) (x : (Int) ⊕ ((List Trip) × Bool)) : Option ((List Trip) × Bool) := match x with
  | .inl t => impl_wayTo_at1fn94_L2_a a0 a1 a2 v1 v3 s7 v10 t
  | .inr y => some y
def impl_wayTo_at1fn94_L1_b (a0 : Network) (a1 : (Network × (List Trip) × (List Booking) × Int)) (a2 : ByteArray) (a4 : Int) (v1 : (List ByteArray)) (v3 : Int) (s5 : (List (List Int))) (s6 : Int) : Option (Ctl ((List (List Int)) × Int) (List (List Int)) ((List Trip) × Bool)) :=
  bif (decide (s6 ≤ (v1.length : Int))) then
  (impl_arrivals_at1fn94 a0 a1 a2 a4 s6).bind fun v51 =>
  bif ((v51.length : Int) == 0) then
  some (.ret (([] : List Trip), false))
  else
  bif (decide (v3 < 0)) then
  some (.ret (([] : List Trip), false))
  else
  (ap 24 s5 ([v51] : List (List Int))).bind fun v55 =>
  some (.next (v55, w64 (s6 + 1)))
  else
  some (.brk s5)
def impl_wayTo_at1fn94_L1 (a0 : Network) (a1 : (Network × (List Trip) × (List Booking) × Int)) (a2 : ByteArray) (a4 : Int) (v1 : (List ByteArray)) (v3 : Int) (s : (List (List Int)) × Int) : Option (Ctl ((List (List Int)) × Int) (List (List Int)) ((List Trip) × Bool)) := impl_wayTo_at1fn94_L1_b a0 a1 a2 a4 v1 v3 s.1 s.2
def impl_wayTo_at1fn94_L1_s (a0 : Network) (a1 : (Network × (List Trip) × (List Booking) × Int)) (a2 : ByteArray) (a4 : Int) (v1 : (List ByteArray)) (v3 : Int) (s5 : (List (List Int))) (s6 : Int) : St := ⟨[(1, .o (.c (.fn 94 [901, 921, 941, 961]))), (2, .o (.c (.v (.string a2)))), (4, .o (.c (.v (.int .i64 a4)))), (5, .o (.c (.ptr 0 0))), (12, .o (.c (.sl 1))), (13, .o (.c (.v (.int .i64 v3)))), (14, .o (.c (.sl 2))), (15, .o (.c (.v (.int .i64 s6))))], [(901, .box 32 [.rs 6 (a1.1.Legs.map Leg.enc), .rs 1 (a1.1.Off.map encI), .v (.int .i64 a1.1.Change)]), (921, .box 27 [.rs 2 (a1.2.1.map Trip.enc)]), (941, .box 41 [.rs 4 (a1.2.2.1.map Booking.enc)]), (961, .box 3 [.v (.int .i64 a1.2.2.2)]), (0, .box 32 [.rs 6 (a0.Legs.map Leg.enc), .rs 1 (a0.Off.map encI), .v (.int .i64 a0.Change)]), (1, .row 9 1 (v1.map encS)), (2, .rows 23 1 (s5.map (List.map encI)))]⟩
def impl_wayTo_at1fn94_L1_S (a0 : Network) (a1 : (Network × (List Trip) × (List Booking) × Int)) (a2 : ByteArray) (a4 : Int) (v1 : (List ByteArray)) (v3 : Int) (s : (List (List Int)) × Int) : St := impl_wayTo_at1fn94_L1_s a0 a1 a2 a4 v1 v3 s.1 s.2
def impl_wayTo_at1fn94_L1_a (a0 : Network) (a1 : (Network × (List Trip) × (List Booking) × Int)) (a2 : ByteArray) (v1 : (List ByteArray)) (v3 : Int) (s7 : (List (List Int))) : Option ((List Trip) × Bool) :=
  (gi s7 (v1.length : Int)).bind fun v8 =>
  (gi v8 v3).bind fun v10 =>
  bif (decide (v10 < 0)) then
  some (([] : List Trip), false)
  else
  (loopM (impl_wayTo_at1fn94_L2 v3 s7 v10) big 0).bind (impl_wayTo_at1fn94_L2_k a0 a1 a2 v1 v3 s7 v10)
def impl_wayTo_at1fn94_L1_k (a0 : Network) (a1 : (Network × (List Trip) × (List Booking) × Int)) (a2 : ByteArray) (v1 : (List ByteArray)) (v3 : Int) (x : ((List (List Int))) ⊕ ((List Trip) × Bool)) : Option ((List Trip) × Bool) := match x with
  | .inl t => impl_wayTo_at1fn94_L1_a a0 a1 a2 v1 v3 t
  | .inr y => some y
def impl_wayTo_at1fn94 (a0 : Network) (a1 : (Network × (List Trip) × (List Booking) × Int)) (a2 : ByteArray) (a3 : ByteArray) (a4 : Int) : Option ((List Trip) × Bool) :=
  (impl_PlacesOf a0).bind fun v1 =>
  (impl_placeAt v1 a3).bind fun v3 =>
  (loopM (impl_wayTo_at1fn94_L1 a0 a1 a2 a4 v1 v3) big (([] : List (List Int)), 0)).bind (impl_wayTo_at1fn94_L1_k a0 a1 a2 v1 v3)
theorem impl_wayTo_at1fn94_ok (a0 : Network) (a1 : (Network × (List Trip) × (List Booking) × Int)) (a2 : ByteArray) (a3 : ByteArray) (a4 : Int) (r : (List Trip) × Bool) (hM : impl_wayTo_at1fn94 a0 a1 a2 a3 a4 = some r) :
    Con Try.prog 42 [.agg [.rs 6 (a0.Legs.map Leg.enc), .rs 1 (a0.Off.map encI), .v (.int .i64 a0.Change)], .c (.fn 94 [901, 921, 941, 961]), .c (.v (.string a2)), .c (.v (.string a3)), .c (.v (.int .i64 a4))] [(901, .box 32 [.rs 6 (a1.1.Legs.map Leg.enc), .rs 1 (a1.1.Off.map encI), .v (.int .i64 a1.1.Change)]), (921, .box 27 [.rs 2 (a1.2.1.map Trip.enc)]), (941, .box 41 [.rs 4 (a1.2.2.1.map Booking.enc)]), (961, .box 3 [.v (.int .i64 a1.2.2.2)])] (.tup [.c (.sl 1000), .c (.v (.bool r.2))]) [(901, .box 32 [.rs 6 (a1.1.Legs.map Leg.enc), .rs 1 (a1.1.Off.map encI), .v (.int .i64 a1.1.Change)]), (921, .box 27 [.rs 2 (a1.2.1.map Trip.enc)]), (941, .box 41 [.rs 4 (a1.2.2.1.map Booking.enc)]), (961, .box 3 [.v (.int .i64 a1.2.2.2)])] [(1000, .row 46 2 (r.1.map Trip.enc))] := by
  unfold impl_wayTo_at1fn94 at hM
  refine cn (N := 133) (pids := [901, 921, 941, 961]) Try_mixed Try.func42 (by kernel_rfl) (by kernel_rfl) (by kernel_rfl) rfl fun ρ g w R => ?_
  obtain ⟨v1, h2, hM⟩ := bind_some hM
  obtain ⟨v3, h4, hM⟩ := bind_some hM
  have K1 : ∀ (s7 : (List (List Int))), impl_wayTo_at1fn94_L1_a a0 a1 a2 v1 v3 s7 = some r → Gr R [.code (cAt Try.f42 [1, 1, 1, 1, 1])] (⟨[(1, .o (.c (.fn 94 [901, 921, 941, 961]))), (2, .o (.c (.v (.string a2)))), (5, .o (.c (.ptr 0 0))), (12, .o (.c (.sl 1))), (13, .o (.c (.v (.int .i64 v3)))), (14, .o (.c (.sl 2)))], [(901, .box 32 [.rs 6 (a1.1.Legs.map Leg.enc), .rs 1 (a1.1.Off.map encI), .v (.int .i64 a1.1.Change)]), (921, .box 27 [.rs 2 (a1.2.1.map Trip.enc)]), (941, .box 41 [.rs 4 (a1.2.2.1.map Booking.enc)]), (961, .box 3 [.v (.int .i64 a1.2.2.2)]), (0, .box 32 [.rs 6 (a0.Legs.map Leg.enc), .rs 1 (a0.Off.map encI), .v (.int .i64 a0.Change)]), (1, .row 9 1 (v1.map encS)), (2, .rows 23 1 (s7.map (List.map encI)))]⟩) := by
    intro s7 hM
    unfold impl_wayTo_at1fn94_L1_a at hM
    obtain ⟨v8, h9, hM⟩ := bind_some hM
    obtain ⟨v10, h11, hM⟩ := bind_some hM
    rcases cond_cases hM with ⟨h12, hM⟩ | ⟨h12, hM⟩
    · have hE : some (([] : List Trip), false) = some r := hM
      have hE := Option.some.inj hE
      subst hE
      exact pr R 9999 [.ln (v1.length), .nm ((List.map encI) v8), .ix (encI v10), .as 62 true] [.nl 10 1000 46 2] [901, 921, 941, 961] [1000] (And.intro (lenm encS v1) (And.intro (gi_lt (List.map encI) h9) (And.intro ((gi_map (List.map encI) h9).2) (And.intro (gi_map encI h11) (And.intro h12 True.intro))))) (by kernel_rfl)
    · have K2 : ∀ (s14 : Int), impl_wayTo_at1fn94_L2_a a0 a1 a2 v1 v3 s7 v10 s14 = some r → Gr R [.code (cAt Try.f42 [1, 1, 1, 1, 1, 1, 1, 1, 1])] (⟨[(1, .o (.c (.fn 94 [901, 921, 941, 961]))), (2, .o (.c (.v (.string a2)))), (5, .o (.c (.ptr 0 0))), (12, .o (.c (.sl 1))), (13, .o (.c (.v (.int .i64 v3)))), (14, .o (.c (.sl 2))), (17, .o (.c (.v (.int .i64 v10)))), (18, .o (.c (.v (.int .i64 s14))))], [(901, .box 32 [.rs 6 (a1.1.Legs.map Leg.enc), .rs 1 (a1.1.Off.map encI), .v (.int .i64 a1.1.Change)]), (921, .box 27 [.rs 2 (a1.2.1.map Trip.enc)]), (941, .box 41 [.rs 4 (a1.2.2.1.map Booking.enc)]), (961, .box 3 [.v (.int .i64 a1.2.2.2)]), (0, .box 32 [.rs 6 (a0.Legs.map Leg.enc), .rs 1 (a0.Off.map encI), .v (.int .i64 a0.Change)]), (1, .row 9 1 (v1.map encS)), (2, .rows 23 1 (s7.map (List.map encI)))]⟩) := by
        intro s14 hM
        unfold impl_wayTo_at1fn94_L2_a at hM
        have K3 : ∀ (s20 : (List Trip)), impl_wayTo_at1fn94_L3_a s20 = some r → Gr R [.code (cAt Try.f42 [1, 1, 1, 1, 1, 1, 1, 1, 1, 1, 1])] (⟨[(1, .o (.c (.fn 94 [901, 921, 941, 961]))), (19, .o (.c (.sl 3)))], [(901, .box 32 [.rs 6 (a1.1.Legs.map Leg.enc), .rs 1 (a1.1.Off.map encI), .v (.int .i64 a1.1.Change)]), (921, .box 27 [.rs 2 (a1.2.1.map Trip.enc)]), (941, .box 41 [.rs 4 (a1.2.2.1.map Booking.enc)]), (961, .box 3 [.v (.int .i64 a1.2.2.2)]), (3, .row 46 2 (s20.map Trip.enc))]⟩) := by
          intro s20 hM
          unfold impl_wayTo_at1fn94_L3_a at hM
          have K4 : ∀ (s23 : (List Trip)), impl_wayTo_at1fn94_L4_a s23 = some r → Gr R [.code (cAt Try.f42 [1, 1, 1, 1, 1, 1, 1, 1, 1, 1, 1, 1, 1])] (⟨[(1, .o (.c (.fn 94 [901, 921, 941, 961]))), (22, .o (.c (.sl 4)))], [(901, .box 32 [.rs 6 (a1.1.Legs.map Leg.enc), .rs 1 (a1.1.Off.map encI), .v (.int .i64 a1.1.Change)]), (921, .box 27 [.rs 2 (a1.2.1.map Trip.enc)]), (941, .box 41 [.rs 4 (a1.2.2.1.map Booking.enc)]), (961, .box 3 [.v (.int .i64 a1.2.2.2)]), (4, .row 46 2 (s23.map Trip.enc))]⟩) := by
            intro s23 hM
            unfold impl_wayTo_at1fn94_L4_a at hM
            have hE : some (s23, true) = some r := hM
            have hE := Option.some.inj hE
            subst hE
            exact pr R 9999 [] [.sw 4 1000] [901, 921, 941, 961] [1000] True.intro (by kernel_rfl)
          refine pc R 9999 [.new 4, .ln (s20.length)] [.keep [1, 19, 22, 23] [901, 921, 941, 961, 3, 4]] (k' := [.code (.loop (cAt Try.f42 [1, 1, 1, 1, 1, 1, 1, 1, 1, 1, 1, 1, 0, 1, 0, 0])), .blk 6, .code (cAt Try.f42 [1, 1, 1, 1, 1, 1, 1, 1, 1, 1, 1, 1, 1])]) (S' := impl_wayTo_at1fn94_L4_S a1 s20 (([] : List Trip), w64 ((s20.length : Int) - 1))) (And.intro (lenm Trip.enc s20) True.intro) (by kernel_rfl) ?_
          refine lq (impl_wayTo_at1fn94_L4_S a1 s20) (body := impl_wayTo_at1fn94_L4 s20) (k := impl_wayTo_at1fn94_L4_k) hM fun m4 s c4 hM hK4 => ?_
          obtain ⟨s21, s22⟩ := s
          have hM : impl_wayTo_at1fn94_L4_b s20 s21 s22 = some c4 := hM
          unfold impl_wayTo_at1fn94_L4_b at hM
          rcases cond_cases hM with ⟨h24, hM⟩ | ⟨h24, hM⟩
          · obtain ⟨v25, h26, hM⟩ := bind_some hM
            obtain ⟨v27, h28, hM⟩ := bind_some hM
            have hE : some (Ctl.next (v27, w64 (s22 - 1))) = some c4 := hM
            have hE := Option.some.inj hE
            subst hE
            exact pc R 9999 [.as 122 true, .ix (Trip.enc v25), .new 5, .new 6, .nm (v27.map Trip.enc)] [.sw 6 4, .keep [1, 19, 22, 23] [901, 921, 941, 961, 3, 4]] (And.intro h24 (And.intro (gi_lt Trip.enc h26) (And.intro ((gi_map Trip.enc h26).2) (And.intro (ap_ok Trip.enc h28) True.intro)))) (by kernel_rfl) (li (Sf := impl_wayTo_at1fn94_L4_S a1 s20) (M := Mk (impl_wayTo_at1fn94_L4 s20) (impl_wayTo_at1fn94_L4_k) r) (k := [.blk 6, .code (cAt Try.f42 [1, 1, 1, 1, 1, 1, 1, 1, 1, 1, 1, 1, 1])]) (Nat.lt_succ_self m4) hK4)
          · have hE : some (Ctl.brk s21) = some c4 := hM
            have hE := Option.some.inj hE
            subst hE
            exact pc R 5 [.as 122 false] [.keep [1, 22] [901, 921, 941, 961, 4]] (And.intro h24 True.intro) (by kernel_rfl) (K4 s21 hK4)
        refine pc R 9999 [.new 3] [.fz 1, .keep [1, 2, 5, 12, 13, 14, 17, 18, 19] [901, 921, 941, 961, 0, 2, 3]] (k' := [.code (.loop (cAt Try.f42 [1, 1, 1, 1, 1, 1, 1, 1, 1, 1, 0, 0, 0])), .blk 4, .code (cAt Try.f42 [1, 1, 1, 1, 1, 1, 1, 1, 1, 1, 1])]) (S' := impl_wayTo_at1fn94_L3_S a0 a1 a2 s7 (v1, v3, v10, s14, ([] : List Trip))) True.intro (by kernel_rfl) ?_
        refine lq (impl_wayTo_at1fn94_L3_S a0 a1 a2 s7) (body := impl_wayTo_at1fn94_L3 a0 a1 a2 s7) (k := impl_wayTo_at1fn94_L3_k) hM fun m3 s c3 hM hK3 => ?_
        obtain ⟨s15, s16, s17, s18, s19⟩ := s
        have hM : impl_wayTo_at1fn94_L3_b a0 a1 a2 s7 s15 s16 s17 s18 s19 = some c3 := hM
        unfold impl_wayTo_at1fn94_L3_b at hM
        rcases cond_cases hM with ⟨h29, hM⟩ | ⟨h29, hM⟩
        · obtain ⟨v30, h31, hM⟩ := bind_some hM
          obtain ⟨v32, h33, hM⟩ := bind_some hM
          have J1 : ∀ (_ : Unit), impl_wayTo_at1fn94_j1 a0 s7 s15 s18 s19 v32 = some c3 → Gr R [.code (cAt Try.f42 [1, 1, 1, 1, 1, 1, 1, 1, 1, 1, 0, 0, 0, 1, 0, 0, 1]), .blk 5, .code (cAt Try.f42 [1, 1, 1, 1, 1, 1, 1, 1, 1, 1, 0, 0, 0, 1, 1]), .inv (Jr R (impl_wayTo_at1fn94_L3_S a0 a1 a2 s7) (Mk (impl_wayTo_at1fn94_L3 a0 a1 a2 s7) (impl_wayTo_at1fn94_L3_k) r) (m3 + 1)), .blk 4, .code (cAt Try.f42 [1, 1, 1, 1, 1, 1, 1, 1, 1, 1, 1])] (impl_wayTo_at1fn94_x4 a0 a1 a2 s7 s15 s18 s19 v32) := by
            intro _ hM
            unfold impl_wayTo_at1fn94_j1 at hM
            rcases cond_cases hM with ⟨h34, hM⟩ | ⟨h34, hM⟩
            · have hE : some (Ctl.ret (([] : List Trip), false)) = some c3 := hM
              have hE := Option.some.inj hE
              subst hE
              have hE : some (([] : List Trip), false) = some r := hK3
              have hE := Option.some.inj hE
              subst hE
              exact pr R 9999 [.as 95 true] [.nl 10 1000 46 2] [901, 921, 941, 961] [1000] (And.intro h34 True.intro) (by kernel_rfl)
            · obtain ⟨v35, h36, hM⟩ := bind_some hM
              obtain ⟨v37, h38, hM⟩ := bind_some hM
              obtain ⟨v39, h40, hM⟩ := bind_some hM
              obtain ⟨v41, h42, hM⟩ := bind_some hM
              obtain ⟨v43, h44, hM⟩ := bind_some hM
              have hE : some (Ctl.next (s15, v39, v43, w64 (s18 - 1), v35)) = some c3 := hM
              have hE := Option.some.inj hE
              subst hE
              exact pc R 9999 [.as 95 false, .new 8, .new 9, .nm (v35.map Trip.enc), .ix (Leg.enc v37), .call false [] (.o (.c (.v (.int .i64 v39)))) [] [], .nm ((List.map encI) v41), .ix (encI v43)] [.sw 9 3, .keep [1, 2, 5, 12, 13, 14, 17, 18, 19] [901, 921, 941, 961, 0, 2, 3]] (And.intro h34 (And.intro (ap_ok Trip.enc h36) (And.intro (gi_map Leg.enc h38) (And.intro (impl_placeAt_ok s15 v37.From v39 h40) (And.intro (gi_lt (List.map encI) h42) (And.intro ((gi_map (List.map encI) h42).2) (And.intro (gi_map encI h44) True.intro))))))) (by kernel_rfl) (li (Sf := impl_wayTo_at1fn94_L3_S a0 a1 a2 s7) (M := Mk (impl_wayTo_at1fn94_L3 a0 a1 a2 s7) (impl_wayTo_at1fn94_L3_k) r) (k := [.blk 4, .code (cAt Try.f42 [1, 1, 1, 1, 1, 1, 1, 1, 1, 1, 1])]) (Nat.lt_succ_self m3) hK3)
          exact pc R 9 [.as 76 true, .xg (impl_wayTo_at1fn94_o4 a1 v30 v32) [.keep [1, 2, 5, 12, 13, 14, 17, 18, 19] [901, 921, 941, 961, 0, 2, 3]] [.keep [1, 2, 5, 12, 14, 18, 19, 20, 21] [901, 921, 941, 961, 0, 2, 3, 7]] (impl_wayTo_at1fn94_x4 a0 a1 a2 s7 s15 s18 s19 v32) [[1, 2, 3, 4, 5, 6, 8, 9, 10], [0, 1, 2, 3, 4, 5, 6, 8, 9, 10], [1, 2, 3, 4, 5, 6, 7, 8, 9, 10], [1, 2, 3, 4, 5, 6, 8, 9, 10, 15], [0, 1, 2, 3, 4, 5, 6, 7, 8, 9, 10], [0, 1, 2, 3, 4, 5, 6, 8, 9, 10, 15], [1, 2, 3, 4, 5, 6, 7, 8, 9, 10, 15], [0, 1, 2, 3, 4, 5, 6, 7, 8, 9, 10, 11, 12, 13, 14], [0, 1, 2, 3, 4, 5, 6, 7, 8, 9, 10, 15], [0, 1, 2, 3, 4, 5, 6, 7, 8, 9, 10, 11, 12, 13, 14, 15]]] [] (And.intro h29 (And.intro (gi_lt (List.map encI) h31) (And.intro (impl_wayTo_at1fn94_y4 a0 a1 a2 s7 s15 s16 s17 s18 s19 v30 v32 [1, 2, 3, 4, 5, 6, 8, 9, 10]) (And.intro (impl_wayTo_at1fn94_y4 a0 a1 a2 s7 s15 s16 s17 s18 s19 v30 v32 [0, 1, 2, 3, 4, 5, 6, 8, 9, 10]) (And.intro ((gi_map (List.map encI) h31).2) (And.intro (impl_wayTo_at1fn94_y4 a0 a1 a2 s7 s15 s16 s17 s18 s19 v30 v32 [1, 2, 3, 4, 5, 6, 7, 8, 9, 10]) (And.intro (impl_wayTo_at1fn94_y4 a0 a1 a2 s7 s15 s16 s17 s18 s19 v30 v32 [1, 2, 3, 4, 5, 6, 8, 9, 10, 15]) (And.intro ((gi_map (List.map encI) h31).2) (And.intro (impl_wayTo_at1fn94_y4 a0 a1 a2 s7 s15 s16 s17 s18 s19 v30 v32 [0, 1, 2, 3, 4, 5, 6, 7, 8, 9, 10]) (And.intro (impl_wayTo_at1fn94_y4 a0 a1 a2 s7 s15 s16 s17 s18 s19 v30 v32 [0, 1, 2, 3, 4, 5, 6, 8, 9, 10, 15]) (And.intro (impl_wayTo_at1fn94_y4 a0 a1 a2 s7 s15 s16 s17 s18 s19 v30 v32 [0, 1, 2, 3, 4, 5, 6, 7, 8, 9, 10]) (And.intro (impl_wayTo_at1fn94_y4 a0 a1 a2 s7 s15 s16 s17 s18 s19 v30 v32 [1, 2, 3, 4, 5, 6, 7, 8, 9, 10, 15]) (And.intro (impl_wayTo_at1fn94_y4 a0 a1 a2 s7 s15 s16 s17 s18 s19 v30 v32 [0, 1, 2, 3, 4, 5, 6, 8, 9, 10, 15]) (And.intro ((gi_map (List.map encI) h31).2) (And.intro (impl_wayTo_at1fn94_y4 a0 a1 a2 s7 s15 s16 s17 s18 s19 v30 v32 [1, 2, 3, 4, 5, 6, 7, 8, 9, 10, 15]) (And.intro (And.intro (con_sw 961 961 (con_sw 941 941 (con_sw 921 921 (con_sw 901 901 (impl_lastLeg_at1fn94_ok a0 a1 s15 v30 a2 s16 s17 v32 h33))))) (rfl : ([901, 921, 941, 961] : List Nat) = [901, 921, 941, 961])) (And.intro (impl_wayTo_at1fn94_y4 a0 a1 a2 s7 s15 s16 s17 s18 s19 v30 v32 [0, 1, 2, 3, 4, 5, 6, 7, 8, 9, 10, 11, 12, 13, 14]) (And.intro (impl_wayTo_at1fn94_y4 a0 a1 a2 s7 s15 s16 s17 s18 s19 v30 v32 [0, 1, 2, 3, 4, 5, 6, 7, 8, 9, 10, 15]) (And.intro ((gi_map (List.map encI) h31).2) (And.intro (impl_wayTo_at1fn94_y4 a0 a1 a2 s7 s15 s16 s17 s18 s19 v30 v32 [0, 1, 2, 3, 4, 5, 6, 7, 8, 9, 10, 15]) (And.intro (impl_wayTo_at1fn94_y4 a0 a1 a2 s7 s15 s16 s17 s18 s19 v30 v32 [0, 1, 2, 3, 4, 5, 6, 7, 8, 9, 10, 15]) (And.intro (impl_wayTo_at1fn94_y4 a0 a1 a2 s7 s15 s16 s17 s18 s19 v30 v32 [0, 1, 2, 3, 4, 5, 6, 7, 8, 9, 10, 11, 12, 13, 14, 15]) (And.intro (And.intro (con_sw 961 961 (con_sw 941 941 (con_sw 921 921 (con_sw 901 901 (impl_lastLeg_at1fn94_ok a0 a1 s15 v30 a2 s16 s17 v32 h33))))) (rfl : ([901, 921, 941, 961] : List Nat) = [901, 921, 941, 961])) (And.intro (impl_wayTo_at1fn94_y4 a0 a1 a2 s7 s15 s16 s17 s18 s19 v30 v32 [0, 1, 2, 3, 4, 5, 6, 7, 8, 9, 10, 11, 12, 13, 14, 15]) (And.intro (rfl : (impl_wayTo_at1fn94_x4 a0 a1 a2 s7 s15 s18 s19 v32) = (impl_wayTo_at1fn94_x4 a0 a1 a2 s7 s15 s18 s19 v32)) True.intro))))))))))))))))))))))))) (by kernel_rfl) (J1 () hM)
        · have hE : some (Ctl.brk s19) = some c3 := hM
          have hE := Option.some.inj hE
          subst hE
          exact pc R 5 [.as 76 false] [.keep [1, 19] [901, 921, 941, 961, 3]] (And.intro h29 True.intro) (by kernel_rfl) (K3 s19 hK3)
      refine pc R 9999 [.ln (v1.length), .nm ((List.map encI) v8), .ix (encI v10), .as 62 false] [.keep [1, 2, 5, 12, 13, 14, 17, 18] [901, 921, 941, 961, 0, 1, 2]] (k' := [.code (.loop (cAt Try.f42 [1, 1, 1, 1, 1, 1, 1, 1, 0, 0, 0])), .blk 2, .code (cAt Try.f42 [1, 1, 1, 1, 1, 1, 1, 1, 1])]) (S' := impl_wayTo_at1fn94_L2_S a0 a1 a2 v1 v3 s7 v10 0) (And.intro (lenm encS v1) (And.intro (gi_lt (List.map encI) h9) (And.intro ((gi_map (List.map encI) h9).2) (And.intro (gi_map encI h11) (And.intro h12 True.intro))))) (by kernel_rfl) ?_
      refine lq (impl_wayTo_at1fn94_L2_S a0 a1 a2 v1 v3 s7 v10) (body := impl_wayTo_at1fn94_L2 v3 s7 v10) (k := impl_wayTo_at1fn94_L2_k a0 a1 a2 v1 v3 s7 v10) hM fun m2 s c2 hM hK2 => ?_
      obtain ⟨s13, hs⟩ : ∃ z, z = s := ⟨_, rfl⟩
      subst hs
      have hM : impl_wayTo_at1fn94_L2_b v3 s7 v10 s13 = some c2 := hM
      unfold impl_wayTo_at1fn94_L2_b at hM
      obtain ⟨v45, h46, hM⟩ := bind_some hM
      obtain ⟨v47, h48, hM⟩ := bind_some hM
      rcases cond_cases hM with ⟨h49, hM⟩ | ⟨h49, hM⟩
      · have hE : some (Ctl.next (w64 (s13 + 1))) = some c2 := hM
        have hE := Option.some.inj hE
        subst hE
        exact pc R 9999 [.nm ((List.map encI) v45), .ix (encI v47), .as 71 true] [.keep [1, 2, 5, 12, 13, 14, 17, 18] [901, 921, 941, 961, 0, 1, 2]] (And.intro (gi_lt (List.map encI) h46) (And.intro ((gi_map (List.map encI) h46).2) (And.intro (gi_map encI h48) (And.intro h49 True.intro)))) (by kernel_rfl) (li (Sf := impl_wayTo_at1fn94_L2_S a0 a1 a2 v1 v3 s7 v10) (M := Mk (impl_wayTo_at1fn94_L2 v3 s7 v10) (impl_wayTo_at1fn94_L2_k a0 a1 a2 v1 v3 s7 v10) r) (k := [.blk 2, .code (cAt Try.f42 [1, 1, 1, 1, 1, 1, 1, 1, 1])]) (Nat.lt_succ_self m2) hK2)
      · have hE : some (Ctl.brk s13) = some c2 := hM
        have hE := Option.some.inj hE
        subst hE
        exact pc R 5 [.nm ((List.map encI) v45), .ix (encI v47), .as 71 false] [.keep [1, 2, 5, 12, 13, 14, 17, 18] [901, 921, 941, 961, 0, 1, 2]] (And.intro (gi_lt (List.map encI) h46) (And.intro ((gi_map (List.map encI) h46).2) (And.intro (gi_map encI h48) (And.intro h49 True.intro)))) (by kernel_rfl) (K2 s13 hK2)
  refine pc R 9999 [.new 0, .call false [] (.o (.c (.sl 1))) [] [(1, .row 9 1 (v1.map encS))], .call false [] (.o (.c (.v (.int .i64 v3)))) [] [], .new 2, .ad (.rw 2 1)] [.keep [1, 2, 4, 5, 12, 13, 14, 15] [901, 921, 941, 961, 0, 1, 2]] (k' := [.code (.loop (cAt Try.f42 [1, 1, 1, 1, 0, 1, 0, 0])), .blk 0, .code (cAt Try.f42 [1, 1, 1, 1, 1])]) (S' := impl_wayTo_at1fn94_L1_S a0 a1 a2 a4 v1 v3 (([] : List (List Int)), 0)) (And.intro (And.intro (con_sw 1000 1 (impl_PlacesOf_ok a0 v1 h2)) (rfl : ([] : List Nat) = [])) (And.intro (impl_placeAt_ok v1 a3 v3 h4) True.intro)) (by kernel_rfl) ?_
  refine lq (impl_wayTo_at1fn94_L1_S a0 a1 a2 a4 v1 v3) (body := impl_wayTo_at1fn94_L1 a0 a1 a2 a4 v1 v3) (k := impl_wayTo_at1fn94_L1_k a0 a1 a2 v1 v3) hM fun m1 s c1 hM hK1 => ?_
  obtain ⟨s5, s6⟩ := s
  have hM : impl_wayTo_at1fn94_L1_b a0 a1 a2 a4 v1 v3 s5 s6 = some c1 := hM
  unfold impl_wayTo_at1fn94_L1_b at hM
  rcases cond_cases hM with ⟨h50, hM⟩ | ⟨h50, hM⟩
  · obtain ⟨v51, h52, hM⟩ := bind_some hM
    rcases cond_cases hM with ⟨h53, hM⟩ | ⟨h53, hM⟩
    · have hE : some (Ctl.ret (([] : List Trip), false)) = some c1 := hM
      have hE := Option.some.inj hE
      subst hE
      have hE : some (([] : List Trip), false) = some r := hK1
      have hE := Option.some.inj hE
      subst hE
      exact pr R 9999 [.ln (v1.length), .as 33 true, .ad (.keep [1, 2, 4, 5, 12, 13, 14, 15, 30, 31, 32, 33, 36, 37, 38, 39, 40] [901, 921, 941, 961, 0, 1, 2]), .call true [901, 921, 941, 961] (.o (.c (.sl 10))) [(901, .box 32 [.rs 6 (a1.1.Legs.map Leg.enc), .rs 1 (a1.1.Off.map encI), .v (.int .i64 a1.1.Change)]), (921, .box 27 [.rs 2 (a1.2.1.map Trip.enc)]), (941, .box 41 [.rs 4 (a1.2.2.1.map Booking.enc)]), (961, .box 3 [.v (.int .i64 a1.2.2.2)])] [(10, .row 3 1 (v51.map encI))], .ln (v51.length), .as 45 true] [.nl 10 1000 46 2] [901, 921, 941, 961] [1000] (And.intro (lenm encS v1) (And.intro h50 (And.intro (And.intro (con_sw 961 961 (con_sw 941 941 (con_sw 921 921 (con_sw 901 901 (con_sw 1000 10 (impl_arrivals_at1fn94_ok a0 a1 a2 a4 s6 v51 h52)))))) (rfl : ([901, 921, 941, 961] : List Nat) = [901, 921, 941, 961])) (And.intro (lenm encI v51) (And.intro h53 True.intro))))) (by kernel_rfl)
    · rcases cond_cases hM with ⟨h54, hM⟩ | ⟨h54, hM⟩
      · have hE : some (Ctl.ret (([] : List Trip), false)) = some c1 := hM
        have hE := Option.some.inj hE
        subst hE
        have hE : some (([] : List Trip), false) = some r := hK1
        have hE := Option.some.inj hE
        subst hE
        exact pr R 9999 [.ln (v1.length), .as 33 true, .ad (.keep [1, 2, 4, 5, 12, 13, 14, 15, 30, 31, 32, 33, 36, 37, 38, 39, 40] [901, 921, 941, 961, 0, 1, 2]), .call true [901, 921, 941, 961] (.o (.c (.sl 10))) [(901, .box 32 [.rs 6 (a1.1.Legs.map Leg.enc), .rs 1 (a1.1.Off.map encI), .v (.int .i64 a1.1.Change)]), (921, .box 27 [.rs 2 (a1.2.1.map Trip.enc)]), (941, .box 41 [.rs 4 (a1.2.2.1.map Booking.enc)]), (961, .box 3 [.v (.int .i64 a1.2.2.2)])] [(10, .row 3 1 (v51.map encI))], .ln (v51.length), .as 45 false, .as 48 true] [.nl 10 1000 46 2] [901, 921, 941, 961] [1000] (And.intro (lenm encS v1) (And.intro h50 (And.intro (And.intro (con_sw 961 961 (con_sw 941 941 (con_sw 921 921 (con_sw 901 901 (con_sw 1000 10 (impl_arrivals_at1fn94_ok a0 a1 a2 a4 s6 v51 h52)))))) (rfl : ([901, 921, 941, 961] : List Nat) = [901, 921, 941, 961])) (And.intro (lenm encI v51) (And.intro h53 (And.intro h54 True.intro)))))) (by kernel_rfl)
      · obtain ⟨v55, h56, hM⟩ := bind_some hM
        have hE : some (Ctl.next (v55, w64 (s6 + 1))) = some c1 := hM
        have hE := Option.some.inj hE
        subst hE
        exact pc R 9999 [.ln (v1.length), .as 33 true, .ad (.keep [1, 2, 4, 5, 12, 13, 14, 15, 30, 31, 32, 33, 36, 37, 38, 39, 40] [901, 921, 941, 961, 0, 1, 2]), .call true [901, 921, 941, 961] (.o (.c (.sl 10))) [(901, .box 32 [.rs 6 (a1.1.Legs.map Leg.enc), .rs 1 (a1.1.Off.map encI), .v (.int .i64 a1.1.Change)]), (921, .box 27 [.rs 2 (a1.2.1.map Trip.enc)]), (941, .box 41 [.rs 4 (a1.2.2.1.map Booking.enc)]), (961, .box 3 [.v (.int .i64 a1.2.2.2)])] [(10, .row 3 1 (v51.map encI))], .ln (v51.length), .as 45 false, .as 48 false, .ad (.fz 10), .new 11, .new 12, .nd (v55.map (List.map encI))] [.sw 12 2, .keep [1, 2, 4, 5, 12, 13, 14, 15] [901, 921, 941, 961, 0, 1, 2]] (And.intro (lenm encS v1) (And.intro h50 (And.intro (And.intro (con_sw 961 961 (con_sw 941 941 (con_sw 921 921 (con_sw 901 901 (con_sw 1000 10 (impl_arrivals_at1fn94_ok a0 a1 a2 a4 s6 v51 h52)))))) (rfl : ([901, 921, 941, 961] : List Nat) = [901, 921, 941, 961])) (And.intro (lenm encI v51) (And.intro h53 (And.intro h54 (And.intro (ap_ok (List.map encI) h56) True.intro))))))) (by kernel_rfl) (li (Sf := impl_wayTo_at1fn94_L1_S a0 a1 a2 a4 v1 v3) (M := Mk (impl_wayTo_at1fn94_L1 a0 a1 a2 a4 v1 v3) (impl_wayTo_at1fn94_L1_k a0 a1 a2 v1 v3) r) (k := [.blk 0, .code (cAt Try.f42 [1, 1, 1, 1, 1])]) (Nat.lt_succ_self m1) hK1)
  · have hE : some (Ctl.brk s5) = some c1 := hM
    have hE := Option.some.inj hE
    subst hE
    exact pc R 5 [.ln (v1.length), .as 33 false] [.keep [1, 2, 5, 12, 13, 14] [901, 921, 941, 961, 0, 1, 2]] (And.intro (lenm encS v1) (And.intro h50 True.intro)) (by kernel_rfl) (K1 s5 hK1)

-- loop.example/g03014/impl.FindRoom
def impl_FindRoom_x1 (v7 : ((List Trip) × Bool)) : St := ⟨[(16, .o (.c (.sl 5))), (17, .o (.c (.v (.bool v7.2))))], [(5, .row 46 2 (v7.1.map Trip.enc))]⟩
def impl_FindRoom (a0 : Network) (a1 : (List Booking)) (a2 : (List Trip)) (a3 : ByteArray) (a4 : ByteArray) (a5 : Int) (a6 : Int) : Option ((List Trip) × Bool) :=
  (impl_AreBookings a0 a1).bind fun v1 =>
  bif (!v1) then
  some (([] : List Trip), false)
  else
  bif (decide (a6 < 1)) then
  some (([] : List Trip), false)
  else
  (impl_freeOf a0 a1 a2 a6).bind fun v5 =>
  (impl_wayTo_at1fn94 a0 v5 a3 a4 a5).bind fun v7 =>
  some v7
theorem impl_FindRoom_ok (a0 : Network) (a1 : (List Booking)) (a2 : (List Trip)) (a3 : ByteArray) (a4 : ByteArray) (a5 : Int) (a6 : Int) (r : (List Trip) × Bool) (hM : impl_FindRoom a0 a1 a2 a3 a4 a5 a6 = some r) :
    Con Try.prog 18 [.agg [.rs 6 (a0.Legs.map Leg.enc), .rs 1 (a0.Off.map encI), .v (.int .i64 a0.Change)], .c (.rs 4 (a1.map Booking.enc)), .c (.rs 2 (a2.map Trip.enc)), .c (.v (.string a3)), .c (.v (.string a4)), .c (.v (.int .i64 a5)), .c (.v (.int .i64 a6))] [] (.tup [.c (.sl 1000), .c (.v (.bool r.2))]) [] [(1000, .row 46 2 (r.1.map Trip.enc))] := by
  unfold impl_FindRoom at hM
  refine cn (N := 41) (pids := []) Try_mixed Try.func18 (by kernel_rfl) (by kernel_rfl) (by kernel_rfl) rfl fun ρ g w R => ?_
  obtain ⟨v1, h2, hM⟩ := bind_some hM
  rcases cond_cases hM with ⟨h3, hM⟩ | ⟨h3, hM⟩
  · have hE : some (([] : List Trip), false) = some r := hM
    have hE := Option.some.inj hE
    subst hE
    exact pr R 9999 [.new 0, .call false [] (.o (.c (.v (.bool v1)))) [] [], .as 22 true] [.nl 14 1000 46 2] [] [1000] (And.intro (impl_AreBookings_ok a0 a1 v1 h2) (And.intro h3 True.intro)) (by kernel_rfl)
  · rcases cond_cases hM with ⟨h4, hM⟩ | ⟨h4, hM⟩
    · have hE : some (([] : List Trip), false) = some r := hM
      have hE := Option.some.inj hE
      subst hE
      exact pr R 9999 [.new 0, .call false [] (.o (.c (.v (.bool v1)))) [] [], .as 22 false, .as 25 true] [.nl 14 1000 46 2] [] [1000] (And.intro (impl_AreBookings_ok a0 a1 v1 h2) (And.intro h3 (And.intro h4 True.intro))) (by kernel_rfl)
    · obtain ⟨v5, h6, hM⟩ := bind_some hM
      obtain ⟨v7, h8, hM⟩ := bind_some hM
      have hE : some v7 = some r := hM
      have hE := Option.some.inj hE
      subst hE
      exact pr R 9999 [.new 0, .call false [] (.o (.c (.v (.bool v1)))) [] [], .as 22 false, .as 25 false, .xo [[], [], [], [], [], [.call true [] (.o (.c (.fn 94 [1, 2, 3, 4]))) [] [(1, .box 32 [.rs 6 (v5.1.Legs.map Leg.enc), .rs 1 (v5.1.Off.map encI), .v (.int .i64 v5.1.Change)]), (2, .box 27 [.rs 2 (v5.2.1.map Trip.enc)]), (3, .box 41 [.rs 4 (v5.2.2.1.map Booking.enc)]), (4, .box 3 [.v (.int .i64 v5.2.2.2)])]], [], [], [], [.ad (.keep [0, 1, 2, 3, 4, 5, 6, 7, 14, 15, 16, 17, 18, 19, 20, 21, 22, 23, 24, 25, 26, 27, 28, 29, 30, 31, 32, 33, 34, 35, 36, 37, 38] [1, 2, 3, 4, 0, 5, 6, 7, 8, 9, 10, 11, 12, 13, 14, 15, 16, 17, 18, 19, 20, 21, 22, 23, 24, 25, 26, 27, 28, 29, 30, 31, 32, 33, 34, 35, 36, 37, 38, 39, 40, 41, 42, 43, 44, 45]), .call true [1, 2, 3, 4] (.tup [.c (.sl 5), .c (.v (.bool v7.2))]) [(1, .box 32 [.rs 6 (v5.1.Legs.map Leg.enc), .rs 1 (v5.1.Off.map encI), .v (.int .i64 v5.1.Change)]), (2, .box 27 [.rs 2 (v5.2.1.map Trip.enc)]), (3, .box 41 [.rs 4 (v5.2.2.1.map Booking.enc)]), (4, .box 3 [.v (.int .i64 v5.2.2.2)])] [(5, .row 46 2 (v7.1.map Trip.enc))]], [], [], [], [], []] [.keep [16, 17] [5]] (impl_FindRoom_x1 v7)] [.sw 5 1000] [] [1000] (And.intro (impl_AreBookings_ok a0 a1 v1 h2) (And.intro h3 (And.intro h4 (And.intro (And.intro (con_sw 1003 4 (con_sw 1002 3 (con_sw 1001 2 (con_sw 1000 1 (impl_freeOf_ok a0 a1 a2 a6 v5 h6))))) (rfl : ([] : List Nat) = [])) (And.intro (And.intro (con_sw 961 4 (con_sw 941 3 (con_sw 921 2 (con_sw 901 1 (con_sw 1000 5 (impl_wayTo_at1fn94_ok a0 v5 a3 a4 a5 v7 h8)))))) (rfl : ([1, 2, 3, 4] : List Nat) = [1, 2, 3, 4])) (And.intro (rfl : (impl_FindRoom_x1 v7) = (impl_FindRoom_x1 v7)) (And.intro (And.intro (con_sw 1003 4 (con_sw 1002 3 (con_sw 1001 2 (con_sw 1000 1 (impl_freeOf_ok a0 a1 a2 a6 v5 h6))))) (rfl : ([] : List Nat) = [])) (And.intro (And.intro (con_sw 961 4 (con_sw 941 3 (con_sw 921 2 (con_sw 901 1 (con_sw 1000 5 (impl_wayTo_at1fn94_ok a0 v5 a3 a4 a5 v7 h8)))))) (rfl : ([1, 2, 3, 4] : List Nat) = [1, 2, 3, 4])) (And.intro (rfl : (impl_FindRoom_x1 v7) = (impl_FindRoom_x1 v7)) (And.intro (And.intro (con_sw 1003 4 (con_sw 1002 3 (con_sw 1001 2 (con_sw 1000 1 (impl_freeOf_ok a0 a1 a2 a6 v5 h6))))) (rfl : ([] : List Nat) = [])) (And.intro (And.intro (con_sw 961 4 (con_sw 941 3 (con_sw 921 2 (con_sw 901 1 (con_sw 1000 5 (impl_wayTo_at1fn94_ok a0 v5 a3 a4 a5 v7 h8)))))) (rfl : ([1, 2, 3, 4] : List Nat) = [1, 2, 3, 4])) (And.intro (rfl : (impl_FindRoom_x1 v7) = (impl_FindRoom_x1 v7)) True.intro)))))))))))) (by kernel_rfl)

-- loop.example/g03014/laws.at
def laws_at (a0 : (List Int)) (a1 : Int) : Option Int :=
  bif (decide (a1 ≥ (a0.length : Int))) then
  some 0
  else
  (gi a0 a1).bind fun v2 =>
  some (w64 v2)
theorem laws_at_ok (a0 : (List Int)) (a1 : Int) (r : Int) (hM : laws_at a0 a1 = some r) :
    Con Try.prog 20 [.c (.rs 1 (a0.map encU8)), .c (.v (.int .i64 a1))] [] (.o (.c (.v (.int .i64 r)))) [] [] := by
  unfold laws_at at hM
  refine cn (N := 14) (pids := []) Try_mixed Try.func20 (by kernel_rfl) (by kernel_rfl) (by kernel_rfl) rfl fun ρ g w R => ?_
  rcases cond_cases hM with ⟨h1, hM⟩ | ⟨h1, hM⟩
  · have hE : some 0 = some r := hM
    have hE := Option.some.inj hE
    subst hE
    exact pr R 9999 [.ln (a0.length), .as 8 true] [] [] [] (And.intro (lenm encU8 a0) (And.intro h1 True.intro)) (by kernel_rfl)
  · obtain ⟨v2, h3, hM⟩ := bind_some hM
    have hE : some (w64 v2) = some r := hM
    have hE := Option.some.inj hE
    subst hE
    exact pr R 9999 [.ln (a0.length), .as 8 false, .ix (encU8 v2)] [] [] [] (And.intro (lenm encU8 a0) (And.intro h1 (And.intro (gi_map encU8 h3) True.intro))) (by kernel_rfl)

-- loop.example/g03014/impl.Max
def impl_Max (a0 : Int) (a1 : Int) : Option Int :=
  some (if a1 > a0 then a1 else a0)
theorem impl_Max_ok (a0 : Int) (a1 : Int) (r : Int) (hM : impl_Max a0 a1 = some r) :
    Con Try.prog 21 [.c (.v (.int .i64 a0)), .c (.v (.int .i64 a1))] [] (.o (.c (.v (.int .i64 r)))) [] [] := by
  unfold impl_Max at hM
  refine cn (N := 8) (pids := []) Try_mixed Try.func21 (by kernel_rfl) (by kernel_rfl) (by kernel_rfl) rfl fun ρ g w R => ?_
  have hE : some (if a1 > a0 then a1 else a0) = some r := hM
  have hE := Option.some.inj hE
  subst hE
  exact pr R 9999 [] [] [] [] True.intro (by kernel_rfl)

-- loop.example/g03014/impl.WayEnds
def impl_WayEnds_L1_b (a0 : Network) (a1 : (List Trip)) (s4 : Int) (s5 : Int) : Option (Ctl (Int × Int) Int Int) :=
  bif (decide (s5 < (a1.length : Int))) then
  (gi a1 s5).bind fun v8 =>
  (impl_IsTrip a0 v8).bind fun v10 =>
  bif (!v10) then
  some (.ret (-1))
  else
  (impl_ends a0 v8).bind fun v13 =>
  some (.next (v13, w64 (s5 + 1)))
  else
  some (.brk s4)
def impl_WayEnds_L1 (a0 : Network) (a1 : (List Trip)) (s : Int × Int) : Option (Ctl (Int × Int) Int Int) := impl_WayEnds_L1_b a0 a1 s.1 s.2
def impl_WayEnds_L1_s (a0 : Network) (a1 : (List Trip)) (s4 : Int) (s5 : Int) : St := ⟨[(2, .o (.c (.v (.int .i64 s4)))), (3, .o (.c (.ptr 0 0))), (12, .o (.c (.rs 2 (a1.map Trip.enc)))), (13, .o (.c (.v (.int .i64 (a1.length : Int))))), (14, .o (.c (.v (.int .i64 s5))))], [(0, .box 32 [.rs 6 (a0.Legs.map Leg.enc), .rs 1 (a0.Off.map encI), .v (.int .i64 a0.Change)])]⟩
def impl_WayEnds_L1_S (a0 : Network) (a1 : (List Trip)) (s : Int × Int) : St := impl_WayEnds_L1_s a0 a1 s.1 s.2
def impl_WayEnds_L1_a (s6 : Int) : Option Int :=
  some s6
def impl_WayEnds_L1_k (x : (Int) ⊕ (Int)) : Option Int := match x with
  | .inl t => impl_WayEnds_L1_a t
  | .inr y => some y
def impl_WayEnds (a0 : Network) (a1 : (List Trip)) (a2 : Int) : Option Int :=
  (impl_IsNetwork a0).bind fun v1 =>
  bif (!v1) then
  some (-1)
  else
  (loopM (impl_WayEnds_L1 a0 a1) big (a2, 0)).bind (impl_WayEnds_L1_k)
theorem impl_WayEnds_ok (a0 : Network) (a1 : (List Trip)) (a2 : Int) (r : Int) (hM : impl_WayEnds a0 a1 a2 = some r) :
    Con Try.prog 22 [.agg [.rs 6 (a0.Legs.map Leg.enc), .rs 1 (a0.Off.map encI), .v (.int .i64 a0.Change)], .c (.rs 2 (a1.map Trip.enc)), .c (.v (.int .i64 a2))] [] (.o (.c (.v (.int .i64 r)))) [] [] := by
  unfold impl_WayEnds at hM
  refine cn (N := 27) (pids := []) Try_mixed Try.func22 (by kernel_rfl) (by kernel_rfl) (by kernel_rfl) rfl fun ρ g w R => ?_
  obtain ⟨v1, h2, hM⟩ := bind_some hM
  rcases cond_cases hM with ⟨h3, hM⟩ | ⟨h3, hM⟩
  · have hE : some (-1) = some r := hM
    have hE := Option.some.inj hE
    subst hE
    exact pr R 9999 [.new 0, .call false [] (.o (.c (.v (.bool v1)))) [] [], .as 11 true] [] [] [] (And.intro (impl_IsNetwork_ok a0 v1 h2) (And.intro h3 True.intro)) (by kernel_rfl)
  · have K1 : ∀ (s6 : Int), impl_WayEnds_L1_a s6 = some r → Gr R [.code (cAt Try.f22 [1, 1, 1])] (⟨[(2, .o (.c (.v (.int .i64 s6))))], []⟩) := by
      intro s6 hM
      unfold impl_WayEnds_L1_a at hM
      have hE : some s6 = some r := hM
      have hE := Option.some.inj hE
      subst hE
      exact pr R 9999 [] [] [] [] True.intro (by kernel_rfl)
    refine pc R 9999 [.new 0, .call false [] (.o (.c (.v (.bool v1)))) [] [], .as 11 false, .ln (a1.length)] [.keep [2, 3, 12, 13, 14] [0]] (k' := [.code (.loop (cAt Try.f22 [1, 1, 0, 1, 0, 0])), .blk 0, .code (cAt Try.f22 [1, 1, 1])]) (S' := impl_WayEnds_L1_S a0 a1 (a2, 0)) (And.intro (impl_IsNetwork_ok a0 v1 h2) (And.intro h3 (And.intro (lenm Trip.enc a1) True.intro))) (by kernel_rfl) ?_
    refine lq (impl_WayEnds_L1_S a0 a1) (body := impl_WayEnds_L1 a0 a1) (k := impl_WayEnds_L1_k) hM fun m1 s c1 hM hK1 => ?_
    obtain ⟨s4, s5⟩ := s
    have hM : impl_WayEnds_L1_b a0 a1 s4 s5 = some c1 := hM
    unfold impl_WayEnds_L1_b at hM
    rcases cond_cases hM with ⟨h7, hM⟩ | ⟨h7, hM⟩
    · obtain ⟨v8, h9, hM⟩ := bind_some hM
      obtain ⟨v10, h11, hM⟩ := bind_some hM
      rcases cond_cases hM with ⟨h12, hM⟩ | ⟨h12, hM⟩
      · have hE : some (Ctl.ret (-1)) = some c1 := hM
        have hE := Option.some.inj hE
        subst hE
        have hE : some (-1) = some r := hK1
        have hE := Option.some.inj hE
        subst hE
        exact pr R 9999 [.as 15 true, .ix (Trip.enc v8), .new 1, .call false [] (.o (.c (.v (.bool v10)))) [] [], .as 21 true] [] [] [] (And.intro h7 (And.intro (gi_map Trip.enc h9) (And.intro (impl_IsTrip_ok a0 v8 v10 h11) (And.intro h12 True.intro)))) (by kernel_rfl)
      · obtain ⟨v13, h14, hM⟩ := bind_some hM
        have hE : some (Ctl.next (v13, w64 (s5 + 1))) = some c1 := hM
        have hE := Option.some.inj hE
        subst hE
        exact pc R 9999 [.as 15 true, .ix (Trip.enc v8), .new 1, .call false [] (.o (.c (.v (.bool v10)))) [] [], .as 21 false, .call false [] (.o (.c (.v (.int .i64 v13)))) [] []] [.keep [2, 3, 12, 13, 14] [0]] (And.intro h7 (And.intro (gi_map Trip.enc h9) (And.intro (impl_IsTrip_ok a0 v8 v10 h11) (And.intro h12 (And.intro (impl_ends_ok a0 v8 v13 h14) True.intro))))) (by kernel_rfl) (li (Sf := impl_WayEnds_L1_S a0 a1) (M := Mk (impl_WayEnds_L1 a0 a1) (impl_WayEnds_L1_k) r) (k := [.blk 0, .code (cAt Try.f22 [1, 1, 1])]) (Nat.lt_succ_self m1) hK1)
    · have hE : some (Ctl.brk s4) = some c1 := hM
      have hE := Option.some.inj hE
      subst hE
      exact pc R 5 [.as 15 false] [.keep [2] []] (And.intro h7 True.intro) (by kernel_rfl) (K1 s4 hK1)

-- loop.example/g03014/laws.FnLessRoom
def laws_FnLessRoom_x1 (v4 : (Network × (List Booking) × (List Trip) × ByteArray × ByteArray × Int × Int)) (v8 : ((List Trip) × Bool)) (v16 : ((List Trip) × Bool)) : St := ⟨[(3, .o (.c (.ptr 4 0))), (8, .o (.c (.v (.int .i64 v4.2.2.2.2.2.1)))), (10, .o (.c (.sl 5))), (11, .o (.c (.v (.bool v8.2)))), (15, .o (.c (.sl 11))), (16, .o (.c (.v (.bool v16.2))))], [(4, .box 32 [.sl 0, .sl 1, .v (.int .i64 v4.1.Change)]), (0, .row 66 6 (v4.1.Legs.map Leg.enc)), (1, .row 3 1 (v4.1.Off.map encI)), (5, .row 46 2 (v8.1.map Trip.enc)), (11, .row 46 2 (v16.1.map Trip.enc))]⟩
def laws_FnLessRoom_j1 (a0 : (List Int)) (v4 : (Network × (List Booking) × (List Trip) × ByteArray × ByteArray × Int × Int)) (v8 : ((List Trip) × Bool)) (s13 : (List Trip)) : Option Bool :=
  (laws_at a0 2).bind fun v14 =>
  (impl_FindRoom v4.1 v4.2.1 s13 v4.2.2.2.1 v4.2.2.2.2.1 v4.2.2.2.2.2.1 (w64 (v4.2.2.2.2.2.2 + v14))).bind fun v16 =>
  (impl_Max v4.2.2.2.2.2.1 0).bind fun v18 =>
  bif (!v16.2) then
  some true
  else
  bif v8.2 then
  (impl_WayEnds v4.1 v8.1 v18).bind fun v22 =>
  (impl_WayEnds v4.1 v16.1 v18).bind fun v24 =>
  some (decide (v22 ≤ v24))
  else
  some false
def laws_FnLessRoom (a0 : (List Int)) : Option Bool :=
  (laws_big a0).bind fun v1 =>
  bif v1 then
  some true
  else
  (spec_DrawFindRoom a0).bind fun v4 =>
  bif (decide (v4.2.2.2.2.2.2 < 1)) then
  some true
  else
  bif (decide (v4.2.2.2.2.2.2 > 1000000)) then
  some true
  else
  (impl_FindRoom v4.1 v4.2.1 v4.2.2.1 v4.2.2.2.1 v4.2.2.2.2.1 v4.2.2.2.2.2.1 v4.2.2.2.2.2.2).bind fun v8 =>
  (spec_FindRoom v4.1 v4.2.1 v4.2.2.1 v4.2.2.2.1 v4.2.2.2.2.1 v4.2.2.2.2.2.1 v4.2.2.2.2.2.2).bind fun v10 =>
  bif (!(v8.2 == v10.2)) then
  some false
  else
  bif (decide ((v8.1.length : Int) > 0)) then
  (ap 16 ([] : List Trip) v4.2.2.1).bind fun v27 =>
  (laws_at a0 1).bind fun v29 =>
  (rM v29 (v8.1.length : Int)).bind fun v31 =>
  (gi v8.1 v31).bind fun v33 =>
  (ap 16 v27 ([v33] : List Trip)).bind fun v35 =>
  laws_FnLessRoom_j1 a0 v4 v8 v35
  else
  laws_FnLessRoom_j1 a0 v4 v8 v4.2.2.1
theorem laws_FnLessRoom_ok (a0 : (List Int)) (r : Bool) (hM : laws_FnLessRoom a0 = some r) :
    Con Try.prog 4 [.c (.rs 1 (a0.map encU8))] [] (.o (.c (.v (.bool r)))) [] [] := by
  unfold laws_FnLessRoom at hM
  refine cn (N := 110) (pids := []) Try_mixed Try.func4 (by kernel_rfl) (by kernel_rfl) (by kernel_rfl) rfl fun ρ g w R => ?_
  obtain ⟨v1, h2, hM⟩ := bind_some hM
  rcases cond_cases hM with ⟨h3, hM⟩ | ⟨h3, hM⟩
  · have hE : some true = some r := hM
    have hE := Option.some.inj hE
    subst hE
    exact pr R 9999 [.call false [] (.o (.c (.v (.bool v1)))) [] [], .as 19 true] [] [] [] (And.intro (laws_big_ok a0 v1 h2) (And.intro h3 True.intro)) (by kernel_rfl)
  · obtain ⟨v4, h5, hM⟩ := bind_some hM
    rcases cond_cases hM with ⟨h6, hM⟩ | ⟨h6, hM⟩
    · have hE : some true = some r := hM
      have hE := Option.some.inj hE
      subst hE
      exact pr R 9999 [.call false [] (.o (.c (.v (.bool v1)))) [] [], .as 19 false, .call false [] (.tup [.agg [.sl 0, .sl 1, .v (.int .i64 v4.1.Change)], .c (.sl 2), .c (.sl 3), .c (.v (.string v4.2.2.2.1)), .c (.v (.string v4.2.2.2.2.1)), .c (.v (.int .i64 v4.2.2.2.2.2.1)), .c (.v (.int .i64 v4.2.2.2.2.2.2))]) [] [(0, .row 66 6 (v4.1.Legs.map Leg.enc)), (1, .row 3 1 (v4.1.Off.map encI)), (2, .row 118 4 (v4.2.1.map Booking.enc)), (3, .row 46 2 (v4.2.2.1.map Trip.enc))], .new 4, .as 32 true] [] [] [] (And.intro (laws_big_ok a0 v1 h2) (And.intro h3 (And.intro (And.intro (con_sw 1003 3 (con_sw 1002 2 (con_sw 1001 1 (con_sw 1000 0 (spec_DrawFindRoom_ok a0 v4 h5))))) (rfl : ([] : List Nat) = [])) (And.intro h6 True.intro)))) (by kernel_rfl)
    · rcases cond_cases hM with ⟨h7, hM⟩ | ⟨h7, hM⟩
      · have hE : some true = some r := hM
        have hE := Option.some.inj hE
        subst hE
        exact pr R 9999 [.call false [] (.o (.c (.v (.bool v1)))) [] [], .as 19 false, .call false [] (.tup [.agg [.sl 0, .sl 1, .v (.int .i64 v4.1.Change)], .c (.sl 2), .c (.sl 3), .c (.v (.string v4.2.2.2.1)), .c (.v (.string v4.2.2.2.2.1)), .c (.v (.int .i64 v4.2.2.2.2.2.1)), .c (.v (.int .i64 v4.2.2.2.2.2.2))]) [] [(0, .row 66 6 (v4.1.Legs.map Leg.enc)), (1, .row 3 1 (v4.1.Off.map encI)), (2, .row 118 4 (v4.2.1.map Booking.enc)), (3, .row 46 2 (v4.2.2.1.map Trip.enc))], .new 4, .as 32 false, .as 35 true] [] [] [] (And.intro (laws_big_ok a0 v1 h2) (And.intro h3 (And.intro (And.intro (con_sw 1003 3 (con_sw 1002 2 (con_sw 1001 1 (con_sw 1000 0 (spec_DrawFindRoom_ok a0 v4 h5))))) (rfl : ([] : List Nat) = [])) (And.intro h6 (And.intro h7 True.intro))))) (by kernel_rfl)
      · obtain ⟨v8, h9, hM⟩ := bind_some hM
        obtain ⟨v10, h11, hM⟩ := bind_some hM
        rcases cond_cases hM with ⟨h12, hM⟩ | ⟨h12, hM⟩
        · have hE : some false = some r := hM
          have hE := Option.some.inj hE
          subst hE
          exact pr R 9999 [.call false [] (.o (.c (.v (.bool v1)))) [] [], .as 19 false, .call false [] (.tup [.agg [.sl 0, .sl 1, .v (.int .i64 v4.1.Change)], .c (.sl 2), .c (.sl 3), .c (.v (.string v4.2.2.2.1)), .c (.v (.string v4.2.2.2.2.1)), .c (.v (.int .i64 v4.2.2.2.2.2.1)), .c (.v (.int .i64 v4.2.2.2.2.2.2))]) [] [(0, .row 66 6 (v4.1.Legs.map Leg.enc)), (1, .row 3 1 (v4.1.Off.map encI)), (2, .row 118 4 (v4.2.1.map Booking.enc)), (3, .row 46 2 (v4.2.2.1.map Trip.enc))], .new 4, .as 32 false, .as 35 false, .call false [] (.tup [.c (.sl 5), .c (.v (.bool v8.2))]) [] [(5, .row 46 2 (v8.1.map Trip.enc))], .call false [] (.tup [.c (.sl 6), .c (.v (.bool v10.2))]) [] [(6, .row 46 2 (v10.1.map Trip.enc))], .as 60 true] [] [] [] (And.intro (laws_big_ok a0 v1 h2) (And.intro h3 (And.intro (And.intro (con_sw 1003 3 (con_sw 1002 2 (con_sw 1001 1 (con_sw 1000 0 (spec_DrawFindRoom_ok a0 v4 h5))))) (rfl : ([] : List Nat) = [])) (And.intro h6 (And.intro h7 (And.intro (And.intro (con_sw 1000 5 (impl_FindRoom_ok v4.1 v4.2.1 v4.2.2.1 v4.2.2.2.1 v4.2.2.2.2.1 v4.2.2.2.2.2.1 v4.2.2.2.2.2.2 v8 h9)) (rfl : ([] : List Nat) = [])) (And.intro (And.intro (con_sw 1000 6 (spec_FindRoom_ok v4.1 v4.2.1 v4.2.2.1 v4.2.2.2.1 v4.2.2.2.2.1 v4.2.2.2.2.2.1 v4.2.2.2.2.2.2 v10 h11)) (rfl : ([] : List Nat) = [])) (And.intro h12 True.intro)))))))) (by kernel_rfl)
        · have J1 : ∀ (s13 : (List Trip)), laws_FnLessRoom_j1 a0 v4 v8 s13 = some r → Gr R [.code (cAt Try.f4 [1, 1, 1, 1, 1, 1, 1, 1])] (⟨[(0, .o (.c (.rs 1 (a0.map encU8)))), (3, .o (.c (.ptr 4 0))), (4, .o (.c (.sl 2))), (6, .o (.c (.v (.string v4.2.2.2.1)))), (7, .o (.c (.v (.string v4.2.2.2.2.1)))), (8, .o (.c (.v (.int .i64 v4.2.2.2.2.2.1)))), (9, .o (.c (.v (.int .i64 v4.2.2.2.2.2.2)))), (10, .o (.c (.sl 5))), (11, .o (.c (.v (.bool v8.2)))), (14, .o (.c (.sl 10)))], [(4, .box 32 [.sl 0, .sl 1, .v (.int .i64 v4.1.Change)]), (0, .row 66 6 (v4.1.Legs.map Leg.enc)), (1, .row 3 1 (v4.1.Off.map encI)), (2, .row 118 4 (v4.2.1.map Booking.enc)), (5, .row 46 2 (v8.1.map Trip.enc)), (10, .row 46 2 (s13.map Trip.enc))]⟩) := by
            intro s13 hM
            unfold laws_FnLessRoom_j1 at hM
            obtain ⟨v14, h15, hM⟩ := bind_some hM
            obtain ⟨v16, h17, hM⟩ := bind_some hM
            obtain ⟨v18, h19, hM⟩ := bind_some hM
            rcases cond_cases hM with ⟨h20, hM⟩ | ⟨h20, hM⟩
            · have hE : some true = some r := hM
              have hE := Option.some.inj hE
              subst hE
              exact pr R 9999 [.xo [[], [], [], [], [], [], [], [], [.call false [] (.o (.c (.v (.int .i64 v14)))) [] []], [], [.call false [] (.tup [.c (.sl 11), .c (.v (.bool v16.2))]) [] [(11, .row 46 2 (v16.1.map Trip.enc))]], [], [], [], [], []] [.keep [3, 8, 10, 11, 15, 16] [4, 0, 1, 5, 11]] (laws_FnLessRoom_x1 v4 v8 v16), .call false [] (.o (.c (.v (.int .i64 v18)))) [] [], .as 96 true] [] [] [] (And.intro (laws_at_ok a0 2 v14 h15) (And.intro (And.intro (con_sw 1000 11 (impl_FindRoom_ok v4.1 v4.2.1 s13 v4.2.2.2.1 v4.2.2.2.2.1 v4.2.2.2.2.2.1 (w64 (v4.2.2.2.2.2.2 + v14)) v16 h17)) (rfl : ([] : List Nat) = [])) (And.intro (rfl : (laws_FnLessRoom_x1 v4 v8 v16) = (laws_FnLessRoom_x1 v4 v8 v16)) (And.intro (laws_at_ok a0 2 v14 h15) (And.intro (And.intro (con_sw 1000 11 (impl_FindRoom_ok v4.1 v4.2.1 s13 v4.2.2.2.1 v4.2.2.2.2.1 v4.2.2.2.2.2.1 (w64 (v4.2.2.2.2.2.2 + v14)) v16 h17)) (rfl : ([] : List Nat) = [])) (And.intro (rfl : (laws_FnLessRoom_x1 v4 v8 v16) = (laws_FnLessRoom_x1 v4 v8 v16)) (And.intro (impl_Max_ok v4.2.2.2.2.2.1 0 v18 h19) (And.intro h20 True.intro)))))))) (by kernel_rfl)
            · rcases cond_cases hM with ⟨h21, hM⟩ | ⟨h21, hM⟩
              · obtain ⟨v22, h23, hM⟩ := bind_some hM
                obtain ⟨v24, h25, hM⟩ := bind_some hM
                have hE : some (decide (v22 ≤ v24)) = some r := hM
                have hE := Option.some.inj hE
                subst hE
                exact pr R 9999 [.xo [[], [], [], [], [], [], [], [], [.call false [] (.o (.c (.v (.int .i64 v14)))) [] []], [], [.call false [] (.tup [.c (.sl 11), .c (.v (.bool v16.2))]) [] [(11, .row 46 2 (v16.1.map Trip.enc))]], [], [], [], [], []] [.keep [3, 8, 10, 11, 15, 16] [4, 0, 1, 5, 11]] (laws_FnLessRoom_x1 v4 v8 v16), .call false [] (.o (.c (.v (.int .i64 v18)))) [] [], .as 96 false, .as 98 true, .call false [] (.o (.c (.v (.int .i64 v22)))) [] [], .call false [] (.o (.c (.v (.int .i64 v24)))) [] []] [] [] [] (And.intro (laws_at_ok a0 2 v14 h15) (And.intro (And.intro (con_sw 1000 11 (impl_FindRoom_ok v4.1 v4.2.1 s13 v4.2.2.2.1 v4.2.2.2.2.1 v4.2.2.2.2.2.1 (w64 (v4.2.2.2.2.2.2 + v14)) v16 h17)) (rfl : ([] : List Nat) = [])) (And.intro (rfl : (laws_FnLessRoom_x1 v4 v8 v16) = (laws_FnLessRoom_x1 v4 v8 v16)) (And.intro (laws_at_ok a0 2 v14 h15) (And.intro (And.intro (con_sw 1000 11 (impl_FindRoom_ok v4.1 v4.2.1 s13 v4.2.2.2.1 v4.2.2.2.2.1 v4.2.2.2.2.2.1 (w64 (v4.2.2.2.2.2.2 + v14)) v16 h17)) (rfl : ([] : List Nat) = [])) (And.intro (rfl : (laws_FnLessRoom_x1 v4 v8 v16) = (laws_FnLessRoom_x1 v4 v8 v16)) (And.intro (impl_Max_ok v4.2.2.2.2.2.1 0 v18 h19) (And.intro h20 (And.intro h21 (And.intro (impl_WayEnds_ok v4.1 v8.1 v18 v22 h23) (And.intro (impl_WayEnds_ok v4.1 v16.1 v18 v24 h25) True.intro))))))))))) (by kernel_rfl)
              · have hE : some false = some r := hM
                have hE := Option.some.inj hE
                subst hE
                exact pr R 9999 [.xo [[], [], [], [], [], [], [], [], [.call false [] (.o (.c (.v (.int .i64 v14)))) [] []], [], [.call false [] (.tup [.c (.sl 11), .c (.v (.bool v16.2))]) [] [(11, .row 46 2 (v16.1.map Trip.enc))]], [], [], [], [], []] [.keep [3, 8, 10, 11, 15, 16] [4, 0, 1, 5, 11]] (laws_FnLessRoom_x1 v4 v8 v16), .call false [] (.o (.c (.v (.int .i64 v18)))) [] [], .as 96 false, .as 98 false] [] [] [] (And.intro (laws_at_ok a0 2 v14 h15) (And.intro (And.intro (con_sw 1000 11 (impl_FindRoom_ok v4.1 v4.2.1 s13 v4.2.2.2.1 v4.2.2.2.2.1 v4.2.2.2.2.2.1 (w64 (v4.2.2.2.2.2.2 + v14)) v16 h17)) (rfl : ([] : List Nat) = [])) (And.intro (rfl : (laws_FnLessRoom_x1 v4 v8 v16) = (laws_FnLessRoom_x1 v4 v8 v16)) (And.intro (laws_at_ok a0 2 v14 h15) (And.intro (And.intro (con_sw 1000 11 (impl_FindRoom_ok v4.1 v4.2.1 s13 v4.2.2.2.1 v4.2.2.2.2.1 v4.2.2.2.2.2.1 (w64 (v4.2.2.2.2.2.2 + v14)) v16 h17)) (rfl : ([] : List Nat) = [])) (And.intro (rfl : (laws_FnLessRoom_x1 v4 v8 v16) = (laws_FnLessRoom_x1 v4 v8 v16)) (And.intro (impl_Max_ok v4.2.2.2.2.2.1 0 v18 h19) (And.intro h20 (And.intro h21 True.intro))))))))) (by kernel_rfl)
          rcases cond_cases hM with ⟨h26, hM⟩ | ⟨h26, hM⟩
          · obtain ⟨v27, h28, hM⟩ := bind_some hM
            obtain ⟨v29, h30, hM⟩ := bind_some hM
            obtain ⟨v31, h32, hM⟩ := bind_some hM
            obtain ⟨v33, h34, hM⟩ := bind_some hM
            obtain ⟨v35, h36, hM⟩ := bind_some hM
            exact pc R 30 [.call false [] (.o (.c (.v (.bool v1)))) [] [], .as 19 false, .call false [] (.tup [.agg [.sl 0, .sl 1, .v (.int .i64 v4.1.Change)], .c (.sl 2), .c (.sl 3), .c (.v (.string v4.2.2.2.1)), .c (.v (.string v4.2.2.2.2.1)), .c (.v (.int .i64 v4.2.2.2.2.2.1)), .c (.v (.int .i64 v4.2.2.2.2.2.2))]) [] [(0, .row 66 6 (v4.1.Legs.map Leg.enc)), (1, .row 3 1 (v4.1.Off.map encI)), (2, .row 118 4 (v4.2.1.map Booking.enc)), (3, .row 46 2 (v4.2.2.1.map Trip.enc))], .new 4, .as 32 false, .as 35 false, .call false [] (.tup [.c (.sl 5), .c (.v (.bool v8.2))]) [] [(5, .row 46 2 (v8.1.map Trip.enc))], .call false [] (.tup [.c (.sl 6), .c (.v (.bool v10.2))]) [] [(6, .row 46 2 (v10.1.map Trip.enc))], .as 60 false, .ln (v8.1.length), .as 64 true, .new 12, .new 13, .nm (v27.map Trip.enc), .call false [] (.o (.c (.v (.int .i64 v29)))) [] [], .ln (v8.1.length), .run 73 (.int .i64 v31), .ix (Trip.enc v33), .new 14, .new 15, .nm (v35.map Trip.enc)] [.sw 15 10, .keep [0, 3, 4, 6, 7, 8, 9, 10, 11, 14] [4, 0, 1, 2, 5, 10]] (And.intro (laws_big_ok a0 v1 h2) (And.intro h3 (And.intro (And.intro (con_sw 1003 3 (con_sw 1002 2 (con_sw 1001 1 (con_sw 1000 0 (spec_DrawFindRoom_ok a0 v4 h5))))) (rfl : ([] : List Nat) = [])) (And.intro h6 (And.intro h7 (And.intro (And.intro (con_sw 1000 5 (impl_FindRoom_ok v4.1 v4.2.1 v4.2.2.1 v4.2.2.2.1 v4.2.2.2.2.1 v4.2.2.2.2.2.1 v4.2.2.2.2.2.2 v8 h9)) (rfl : ([] : List Nat) = [])) (And.intro (And.intro (con_sw 1000 6 (spec_FindRoom_ok v4.1 v4.2.1 v4.2.2.1 v4.2.2.2.1 v4.2.2.2.2.1 v4.2.2.2.2.2.1 v4.2.2.2.2.2.2 v10 h11)) (rfl : ([] : List Nat) = [])) (And.intro h12 (And.intro (lenm Trip.enc v8.1) (And.intro h26 (And.intro (ap_ok Trip.enc h28) (And.intro (laws_at_ok a0 1 v29 h30) (And.intro (lenm Trip.enc v8.1) (And.intro (rM_run (P := Try.prog) (t := 3) (x := .tmp 0) (y := .tmp 0) h32) (And.intro (gi_lt Trip.enc h34) (And.intro ((gi_map Trip.enc h34).2) (And.intro (ap_ok Trip.enc h36) True.intro))))))))))))))))) (by kernel_rfl) (J1 v35 hM)
          · exact pc R 30 [.call false [] (.o (.c (.v (.bool v1)))) [] [], .as 19 false, .call false [] (.tup [.agg [.sl 0, .sl 1, .v (.int .i64 v4.1.Change)], .c (.sl 2), .c (.sl 3), .c (.v (.string v4.2.2.2.1)), .c (.v (.string v4.2.2.2.2.1)), .c (.v (.int .i64 v4.2.2.2.2.2.1)), .c (.v (.int .i64 v4.2.2.2.2.2.2))]) [] [(0, .row 66 6 (v4.1.Legs.map Leg.enc)), (1, .row 3 1 (v4.1.Off.map encI)), (2, .row 118 4 (v4.2.1.map Booking.enc)), (3, .row 46 2 (v4.2.2.1.map Trip.enc))], .new 4, .as 32 false, .as 35 false, .call false [] (.tup [.c (.sl 5), .c (.v (.bool v8.2))]) [] [(5, .row 46 2 (v8.1.map Trip.enc))], .call false [] (.tup [.c (.sl 6), .c (.v (.bool v10.2))]) [] [(6, .row 46 2 (v10.1.map Trip.enc))], .as 60 false, .ln (v8.1.length), .as 64 false] [.sw 3 10, .keep [0, 3, 4, 6, 7, 8, 9, 10, 11, 14] [4, 0, 1, 2, 5, 10]] (And.intro (laws_big_ok a0 v1 h2) (And.intro h3 (And.intro (And.intro (con_sw 1003 3 (con_sw 1002 2 (con_sw 1001 1 (con_sw 1000 0 (spec_DrawFindRoom_ok a0 v4 h5))))) (rfl : ([] : List Nat) = [])) (And.intro h6 (And.intro h7 (And.intro (And.intro (con_sw 1000 5 (impl_FindRoom_ok v4.1 v4.2.1 v4.2.2.1 v4.2.2.2.1 v4.2.2.2.2.1 v4.2.2.2.2.2.1 v4.2.2.2.2.2.2 v8 h9)) (rfl : ([] : List Nat) = [])) (And.intro (And.intro (con_sw 1000 6 (spec_FindRoom_ok v4.1 v4.2.1 v4.2.2.1 v4.2.2.2.1 v4.2.2.2.2.1 v4.2.2.2.2.2.1 v4.2.2.2.2.2.2 v10 h11)) (rfl : ([] : List Nat) = [])) (And.intro h12 (And.intro (lenm Trip.enc v8.1) (And.intro h26 True.intro)))))))))) (by kernel_rfl) (J1 v4.2.2.1 hM)
end Go.Sx
