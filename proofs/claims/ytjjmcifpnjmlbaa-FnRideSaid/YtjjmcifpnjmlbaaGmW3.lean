/- The functions of the program as plain Lean, and that each runs so (printed by wip/gen). -/
import Derived.Test.YtjjmcifpnjmlbaaGmW2
namespace Go.Sx
open Go.Proofs
set_option linter.unusedVariables false
set_option maxRecDepth 100000

-- loop.example/g03014/spec.l6Draw
def spec_l6Draw_x7 (a1 : Network) (s6 : (List Booking)) (s7 : Int) (v13 : (Int × l1Cur)) (v19 : (Int × l1Cur)) (v21 : ((List Trip) × Bool)) : St := ⟨[(0, .o (.c (.ptr 900 0))), (1, .o (.agg [.sl 901, .sl 921, .v (.int .i64 a1.Change)])), (4, .o (.c (.ptr 0 0))), (7, .o (.c (.sl 1))), (8, .o (.c (.v (.int .i64 s7)))), (9, .o (.c (.v (.int .i64 (w64 (1 + v13.1)))))), (10, .o (.c (.sl 3)))], [(900, .box 87 [.rs 1 (v19.2.b.map encU8), .v (.int .i64 v19.2.i), .v (.int .i64 v19.2.h)]), (901, .row 64 6 (a1.Legs.map Leg.enc)), (921, .row 3 1 (a1.Off.map encI)), (0, .box 27 [.sl 901, .sl 921, .v (.int .i64 a1.Change)]), (1, .row 71 4 (s6.map Booking.enc)), (3, .row 32 2 (v21.1.map Trip.enc))]⟩
def spec_l6Draw_s7 (a1 : Network) (s6 : (List Booking)) (s7 : Int) (v13 : (Int × l1Cur)) : St := ⟨[(0, .o (.c (.ptr 900 0))), (1, .o (.agg [.sl 901, .sl 921, .v (.int .i64 a1.Change)])), (4, .o (.c (.ptr 0 0))), (7, .o (.c (.sl 1))), (8, .o (.c (.v (.int .i64 s7)))), (9, .o (.c (.v (.int .i64 (w64 (1 + v13.1))))))], [(900, .box 87 [.rs 1 (v13.2.b.map encU8), .v (.int .i64 v13.2.i), .v (.int .i64 v13.2.h)]), (901, .row 64 6 (a1.Legs.map Leg.enc)), (921, .row 3 1 (a1.Off.map encI)), (0, .box 27 [.sl 901, .sl 921, .v (.int .i64 a1.Change)]), (1, .row 71 4 (s6.map Booking.enc))]⟩
def spec_l6Draw_o7 (a1 : Network) (v15 : (ByteArray × l1Cur)) (v17 : (ByteArray × l1Cur)) (v19 : (Int × l1Cur)) (v21 : ((List Trip) × Bool)) : List (List Orc) := [[], [], [.new 2], [], [], [.ad (.keep [0, 1, 4, 7, 8, 9, 10, 11, 18, 19, 22, 23, 24, 25, 26, 27, 28, 29, 30, 31, 32, 33, 34, 35, 36, 37, 38, 39, 40, 41] [900, 901, 921, 0, 1, 2, 3, 4, 5, 6, 7, 8, 9, 10, 11, 12, 13, 14, 15, 16, 17, 18, 19, 20, 21, 22, 23, 24, 25, 26, 27, 28, 29, 30, 31, 32, 33, 34, 35, 36, 37, 38, 39, 40, 41, 42]), .call true [900, 901, 921] (.o (.c (.v (.string v15.1)))) [(900, .box 87 [.rs 1 (v15.2.b.map encU8), .v (.int .i64 v15.2.i), .v (.int .i64 v15.2.h)]), (901, .row 64 6 (a1.Legs.map Leg.enc)), (921, .row 3 1 (a1.Off.map encI))] []], [], [], [.ad (.keep [0, 1, 4, 7, 8, 9, 10, 11, 18, 19, 22, 23, 24, 25, 26, 27, 28, 29, 30, 31, 32, 33, 34, 35, 36, 37, 38, 39, 40, 41] [900, 901, 921, 0, 1, 2, 3, 4, 5, 6, 7, 8, 9, 10, 11, 12, 13, 14, 15, 16, 17, 18, 19, 20, 21, 22, 23, 24, 25, 26, 27, 28, 29, 30, 31, 32, 33, 34, 35, 36, 37, 38, 39, 40, 41, 42]), .call true [900, 901, 921] (.o (.c (.v (.string v17.1)))) [(900, .box 87 [.rs 1 (v17.2.b.map encU8), .v (.int .i64 v17.2.i), .v (.int .i64 v17.2.h)]), (901, .row 64 6 (a1.Legs.map Leg.enc)), (921, .row 3 1 (a1.Off.map encI))] []], [], [.call true [900] (.o (.c (.v (.int .i64 v19.1)))) [(900, .box 87 [.rs 1 (v19.2.b.map encU8), .v (.int .i64 v19.2.i), .v (.int .i64 v19.2.h)])] []], [], [], [.call false [] (.tup [.c (.sl 3), .c (.v (.bool v21.2))]) [] [(3, .row 32 2 (v21.1.map Trip.enc))]], [], [], [], [], []]
theorem spec_l6Draw_y7 (a1 : Network) (s6 : (List Booking)) (s7 : Int) (v13 : (Int × l1Cur)) (v15 : (ByteArray × l1Cur)) (v17 : (ByteArray × l1Cur)) (v19 : (Int × l1Cur)) (v21 : ((List Trip) × Bool)) (L : List Nat) : subX Try.prog [900, 901, 921] 55 (opsOf (cAt Try.f70 [1, 1, 0, 1, 0, 0, 1, 0, 0, 1, 0])) (spec_l6Draw_o7 a1 v15 v17 v19 v21) L (spec_l6Draw_s7 a1 s6 s7 v13) = subX Try.prog [900, 901, 921] 55 (opsOf (cAt Try.f70 [1, 1, 0, 1, 0, 0, 1, 0, 0, 1, 0])) (spec_l6Draw_o7 a1 v15 v17 v19 v21) L (spec_l6Draw_s7 a1 s6 s7 v13) := rfl
def spec_l6Draw_x8 (a1 : Network) (s7 : Int) (v23 : (Int × l1Cur)) (v25 : ((List Booking) × Bool)) : St := ⟨[(0, .o (.c (.ptr 900 0))), (1, .o (.agg [.sl 901, .sl 921, .v (.int .i64 a1.Change)])), (4, .o (.c (.ptr 0 0))), (8, .o (.c (.v (.int .i64 s7)))), (12, .o (.c (.sl 4)))], [(900, .box 87 [.rs 1 (v23.2.b.map encU8), .v (.int .i64 v23.2.i), .v (.int .i64 v23.2.h)]), (901, .row 64 6 (a1.Legs.map Leg.enc)), (921, .row 3 1 (a1.Off.map encI)), (0, .box 27 [.sl 901, .sl 921, .v (.int .i64 a1.Change)]), (4, .row 71 4 (v25.1.map Booking.enc))]⟩
def spec_l6Draw_j1 (a1 : Network) (s6 : (List Booking)) (s7 : Int) (v13 : (Int × l1Cur)) (v19 : (Int × l1Cur)) (v21 : ((List Trip) × Bool)) : Option (Ctl ((List Int) × Int × Int × (List Booking) × Int) ((List Int) × Int × Int × (List Booking)) ((List Booking) × l1Cur)) :=
  (spec_l1Below v19.2 12).bind fun v23 =>
  (spec_BookWay a1 s6 (w64 (1 + v23.1)) (w64 (1 + v13.1)) v21.1).bind fun v25 =>
  some (.next (v23.2.b, v23.2.i, v23.2.h, v25.1, w64 (s7 - 1)))
def spec_l6Draw_L1_b (a1 : Network) (s3 : (List Int)) (s4 : Int) (s5 : Int) (s6 : (List Booking)) (s7 : Int) : Option (Ctl ((List Int) × Int × Int × (List Booking) × Int) ((List Int) × Int × Int × (List Booking)) ((List Booking) × l1Cur)) :=
  bif (decide (s7 > 0)) then
  (spec_l1Below (l1Cur.mk s3 s4 s5) 9000).bind fun v13 =>
  (spec_l4Of v13.2 a1).bind fun v15 =>
  (spec_l4Of v15.2 a1).bind fun v17 =>
  (spec_l1Below v17.2 100).bind fun v19 =>
  (spec_FindRoom a1 s6 ([] : List Trip) v15.1 v17.1 (w64 (60 * v19.1)) (w64 (1 + v13.1))).bind fun v21 =>
  spec_l6Draw_j1 a1 s6 s7 v13 v19 v21
  else
  some (.brk (s3, s4, s5, s6))
def spec_l6Draw_L1 (a1 : Network) (s : (List Int) × Int × Int × (List Booking) × Int) : Option (Ctl ((List Int) × Int × Int × (List Booking) × Int) ((List Int) × Int × Int × (List Booking)) ((List Booking) × l1Cur)) := spec_l6Draw_L1_b a1 s.1 s.2.1 s.2.2.1 s.2.2.2.1 s.2.2.2.2
def spec_l6Draw_L1_s (a1 : Network) (s3 : (List Int)) (s4 : Int) (s5 : Int) (s6 : (List Booking)) (s7 : Int) : St := ⟨[(0, .o (.c (.ptr 900 0))), (1, .o (.agg [.sl 901, .sl 921, .v (.int .i64 a1.Change)])), (4, .o (.c (.ptr 0 0))), (7, .o (.c (.sl 1))), (8, .o (.c (.v (.int .i64 s7))))], [(900, .box 87 [.rs 1 (s3.map encU8), .v (.int .i64 s4), .v (.int .i64 s5)]), (901, .row 64 6 (a1.Legs.map Leg.enc)), (921, .row 3 1 (a1.Off.map encI)), (0, .box 27 [.sl 901, .sl 921, .v (.int .i64 a1.Change)]), (1, .row 71 4 (s6.map Booking.enc))]⟩
def spec_l6Draw_L1_S (a1 : Network) (s : (List Int) × Int × Int × (List Booking) × Int) : St := spec_l6Draw_L1_s a1 s.1 s.2.1 s.2.2.1 s.2.2.2.1 s.2.2.2.2
def spec_l6Draw_L1_a (s8 : (List Int)) (s9 : Int) (s10 : Int) (s11 : (List Booking)) : Option ((List Booking) × l1Cur) :=
  some (s11, (l1Cur.mk s8 s9 s10))
def spec_l6Draw_L1_k (x : ((List Int) × Int × Int × (List Booking)) ⊕ ((List Booking) × l1Cur)) : Option ((List Booking) × l1Cur) := match x with
  | .inl t => spec_l6Draw_L1_a t.1 t.2.1 t.2.2.1 t.2.2.2
  | .inr y => some y
def spec_l6Draw (a0 : l1Cur) (a1 : Network) (a2 : Int) : Option ((List Booking) × l1Cur) :=
  (spec_l1Below a0 a2).bind fun v1 =>
  (loopM (spec_l6Draw_L1 a1) big (v1.2.b, v1.2.i, v1.2.h, ([] : List Booking), v1.1)).bind (spec_l6Draw_L1_k)
theorem spec_l6Draw_ok (a0 : l1Cur) (a1 : Network) (a2 : Int) (r : (List Booking) × l1Cur) (hM : spec_l6Draw a0 a1 a2 = some r) :
    Con Try.prog 70 [.c (.ptr 900 0), .agg [.sl 901, .sl 921, .v (.int .i64 a1.Change)], .c (.v (.int .i64 a2))] [(900, .box 87 [.rs 1 (a0.b.map encU8), .v (.int .i64 a0.i), .v (.int .i64 a0.h)]), (901, .row 64 6 (a1.Legs.map Leg.enc)), (921, .row 3 1 (a1.Off.map encI))] (.o (.c (.sl 1000))) [(900, .box 87 [.rs 1 (r.2.b.map encU8), .v (.int .i64 r.2.i), .v (.int .i64 r.2.h)]), (901, .row 64 6 (a1.Legs.map Leg.enc)), (921, .row 3 1 (a1.Off.map encI))] [(1000, .row 71 4 (r.1.map Booking.enc))] := by
  unfold spec_l6Draw at hM
  refine cn (N := 55) (pids := [900, 901, 921]) Try_mixed Try.func70 (by kernel_rfl) (by kernel_rfl) (by kernel_rfl) rfl fun ρ g w R => ?_
  obtain ⟨v1, h2, hM⟩ := bind_some hM
  have K1 : ∀ (s8 : (List Int)) (s9 : Int) (s10 : Int) (s11 : (List Booking)), spec_l6Draw_L1_a s8 s9 s10 s11 = some r → Gr R [.code (cAt Try.f70 [1, 1, 1])] (⟨[(0, .o (.c (.ptr 900 0))), (1, .o (.agg [.sl 901, .sl 921, .v (.int .i64 a1.Change)])), (7, .o (.c (.sl 1)))], [(900, .box 87 [.rs 1 (s8.map encU8), .v (.int .i64 s9), .v (.int .i64 s10)]), (901, .row 64 6 (a1.Legs.map Leg.enc)), (921, .row 3 1 (a1.Off.map encI)), (1, .row 71 4 (s11.map Booking.enc))]⟩) := by
    intro s8 s9 s10 s11 hM
    unfold spec_l6Draw_L1_a at hM
    have hE : some (s11, (l1Cur.mk s8 s9 s10)) = some r := hM
    have hE := Option.some.inj hE
    subst hE
    exact pr R 9999 [] [.sw 1 1000] [900, 901, 921] [1000] True.intro (by kernel_rfl)
  refine pc R 9999 [.new 0, .new 1, .call true [900] (.o (.c (.v (.int .i64 v1.1)))) [(900, .box 87 [.rs 1 (v1.2.b.map encU8), .v (.int .i64 v1.2.i), .v (.int .i64 v1.2.h)])] []] [.keep [0, 1, 4, 7, 8] [900, 901, 921, 0, 1]] (k' := [.code (.loop (cAt Try.f70 [1, 1, 0, 1, 0, 0])), .blk 0, .code (cAt Try.f70 [1, 1, 1])]) (S' := spec_l6Draw_L1_S a1 (v1.2.b, v1.2.i, v1.2.h, ([] : List Booking), v1.1)) (And.intro (And.intro (con_sw 900 900 (spec_l1Below_ok a0 a2 v1 h2)) (rfl : ([900] : List Nat) = [900])) True.intro) (by kernel_rfl) ?_
  refine lq (spec_l6Draw_L1_S a1) (body := spec_l6Draw_L1 a1) (k := spec_l6Draw_L1_k) hM fun m1 s c1 hM hK1 => ?_
  obtain ⟨s3, s4, s5, s6, s7⟩ := s
  have hM : spec_l6Draw_L1_b a1 s3 s4 s5 s6 s7 = some c1 := hM
  unfold spec_l6Draw_L1_b at hM
  rcases cond_cases hM with ⟨h12, hM⟩ | ⟨h12, hM⟩
  · obtain ⟨v13, h14, hM⟩ := bind_some hM
    obtain ⟨v15, h16, hM⟩ := bind_some hM
    obtain ⟨v17, h18, hM⟩ := bind_some hM
    obtain ⟨v19, h20, hM⟩ := bind_some hM
    obtain ⟨v21, h22, hM⟩ := bind_some hM
    have J1 : ∀ (_ : Unit), spec_l6Draw_j1 a1 s6 s7 v13 v19 v21 = some c1 → Gr R [.code (cAt Try.f70 [1, 1, 0, 1, 0, 0, 1, 0, 0, 1, 1]), .blk 1, .code (cAt Try.f70 [1, 1, 0, 1, 0, 0, 1, 1]), .inv (Jr R (spec_l6Draw_L1_S a1) (Mk (spec_l6Draw_L1 a1) (spec_l6Draw_L1_k) r) (m1 + 1)), .blk 0, .code (cAt Try.f70 [1, 1, 1])] (spec_l6Draw_x7 a1 s6 s7 v13 v19 v21) := by
      intro _ hM
      unfold spec_l6Draw_j1 at hM
      obtain ⟨v23, h24, hM⟩ := bind_some hM
      obtain ⟨v25, h26, hM⟩ := bind_some hM
      have hE : some (Ctl.next (v23.2.b, v23.2.i, v23.2.h, v25.1, w64 (s7 - 1))) = some c1 := hM
      have hE := Option.some.inj hE
      subst hE
      exact pc R 9999 [.xo [[], [], [], [.call true [900] (.o (.c (.v (.int .i64 v23.1)))) [(900, .box 87 [.rs 1 (v23.2.b.map encU8), .v (.int .i64 v23.2.i), .v (.int .i64 v23.2.h)])] []], [], [], [], [.call false [] (.tup [.c (.sl 4), .c (.v (.bool v25.2))]) [] [(4, .row 71 4 (v25.1.map Booking.enc))]], [], [], [], [], []] [.keep [0, 1, 4, 8, 12] [900, 901, 921, 0, 4]] (spec_l6Draw_x8 a1 s7 v23 v25)] [.sw 4 1, .keep [0, 1, 4, 7, 8] [900, 901, 921, 0, 1]] (And.intro (And.intro (con_sw 900 900 (spec_l1Below_ok v19.2 12 v23 h24)) (rfl : ([900] : List Nat) = [900])) (And.intro (And.intro (con_sw 1000 4 (spec_BookWay_ok a1 s6 (w64 (1 + v23.1)) (w64 (1 + v13.1)) v21.1 v25 h26)) (rfl : ([] : List Nat) = [])) (And.intro (rfl : (spec_l6Draw_x8 a1 s7 v23 v25) = (spec_l6Draw_x8 a1 s7 v23 v25)) (And.intro (And.intro (con_sw 900 900 (spec_l1Below_ok v19.2 12 v23 h24)) (rfl : ([900] : List Nat) = [900])) (And.intro (And.intro (con_sw 1000 4 (spec_BookWay_ok a1 s6 (w64 (1 + v23.1)) (w64 (1 + v13.1)) v21.1 v25 h26)) (rfl : ([] : List Nat) = [])) (And.intro (rfl : (spec_l6Draw_x8 a1 s7 v23 v25) = (spec_l6Draw_x8 a1 s7 v23 v25)) True.intro)))))) (by kernel_rfl) (li (Sf := spec_l6Draw_L1_S a1) (M := Mk (spec_l6Draw_L1 a1) (spec_l6Draw_L1_k) r) (k := [.blk 0, .code (cAt Try.f70 [1, 1, 1])]) (Nat.lt_succ_self m1) hK1)
    exact pc R 11 [.as 19 true, .call true [900] (.o (.c (.v (.int .i64 v13.1)))) [(900, .box 87 [.rs 1 (v13.2.b.map encU8), .v (.int .i64 v13.2.i), .v (.int .i64 v13.2.h)])] [], .xg (spec_l6Draw_o7 a1 v15 v17 v19 v21) [.keep [0, 1, 4, 7, 8, 9] [900, 901, 921, 0, 1]] [.keep [0, 1, 4, 7, 8, 9, 10] [900, 901, 921, 0, 1, 3]] (spec_l6Draw_x7 a1 s6 s7 v13 v19 v21) [[1, 3, 6, 9, 12], [0, 1, 3, 6, 9, 12], [1, 2, 3, 6, 9, 12], [1, 3, 4, 6, 9, 12], [1, 3, 6, 7, 9, 12], [0, 1, 2, 3, 6, 9, 12], [0, 1, 3, 4, 6, 9, 12], [0, 1, 3, 6, 7, 9, 12], [1, 2, 3, 4, 6, 9, 12], [1, 2, 3, 6, 7, 9, 12], [1, 3, 4, 5, 6, 9, 12], [1, 3, 4, 6, 7, 9, 12], [0, 1, 2, 3, 4, 6, 9, 12], [0, 1, 2, 3, 6, 7, 9, 12], [0, 1, 3, 4, 5, 6, 9, 12], [0, 1, 3, 4, 6, 7, 9, 12], [1, 2, 3, 4, 5, 6, 9, 12], [1, 2, 3, 4, 6, 7, 9, 12], [1, 3, 4, 5, 6, 7, 9, 12], [0, 1, 2, 3, 4, 5, 6, 9, 12], [0, 1, 2, 3, 4, 6, 7, 9, 12], [0, 1, 3, 4, 5, 6, 7, 9, 12], [1, 2, 3, 4, 5, 6, 7, 9, 12], [1, 3, 4, 5, 6, 7, 8, 9, 12], [0, 1, 2, 3, 4, 5, 6, 7, 9, 12], [0, 1, 3, 4, 5, 6, 7, 8, 9, 12], [1, 2, 3, 4, 5, 6, 7, 8, 9, 12], [1, 3, 4, 5, 6, 7, 8, 9, 10, 11, 12], [0, 1, 2, 3, 4, 5, 6, 7, 8, 9, 12], [0, 1, 3, 4, 5, 6, 7, 8, 9, 10, 11, 12], [1, 2, 3, 4, 5, 6, 7, 8, 9, 10, 11, 12], [0, 1, 2, 3, 4, 5, 6, 7, 8, 9, 10, 11, 12]]] [] (And.intro h12 (And.intro (And.intro (con_sw 900 900 (spec_l1Below_ok (l1Cur.mk s3 s4 s5) 9000 v13 h14)) (rfl : ([900] : List Nat) = [900])) (And.intro (spec_l6Draw_y7 a1 s6 s7 v13 v15 v17 v19 v21 [1, 3, 6, 9, 12]) (And.intro (spec_l6Draw_y7 a1 s6 s7 v13 v15 v17 v19 v21 [0, 1, 3, 6, 9, 12]) (And.intro (spec_l6Draw_y7 a1 s6 s7 v13 v15 v17 v19 v21 [1, 2, 3, 6, 9, 12]) (And.intro (spec_l6Draw_y7 a1 s6 s7 v13 v15 v17 v19 v21 [1, 3, 4, 6, 9, 12]) (And.intro (spec_l6Draw_y7 a1 s6 s7 v13 v15 v17 v19 v21 [1, 3, 6, 7, 9, 12]) (And.intro (spec_l6Draw_y7 a1 s6 s7 v13 v15 v17 v19 v21 [0, 1, 2, 3, 6, 9, 12]) (And.intro (spec_l6Draw_y7 a1 s6 s7 v13 v15 v17 v19 v21 [0, 1, 3, 4, 6, 9, 12]) (And.intro (spec_l6Draw_y7 a1 s6 s7 v13 v15 v17 v19 v21 [0, 1, 3, 6, 7, 9, 12]) (And.intro (spec_l6Draw_y7 a1 s6 s7 v13 v15 v17 v19 v21 [0, 1, 2, 3, 6, 9, 12]) (And.intro (spec_l6Draw_y7 a1 s6 s7 v13 v15 v17 v19 v21 [1, 2, 3, 4, 6, 9, 12]) (And.intro (spec_l6Draw_y7 a1 s6 s7 v13 v15 v17 v19 v21 [1, 2, 3, 6, 7, 9, 12]) (And.intro (spec_l6Draw_y7 a1 s6 s7 v13 v15 v17 v19 v21 [0, 1, 3, 4, 6, 9, 12]) (And.intro (spec_l6Draw_y7 a1 s6 s7 v13 v15 v17 v19 v21 [1, 2, 3, 4, 6, 9, 12]) (And.intro (And.intro (con_sw 921 921 (con_sw 901 901 (con_sw 900 900 (spec_l4Of_ok v13.2 a1 v15 h16)))) (rfl : ([900, 901, 921] : List Nat) = [900, 901, 921])) (And.intro (spec_l6Draw_y7 a1 s6 s7 v13 v15 v17 v19 v21 [1, 3, 4, 5, 6, 9, 12]) (And.intro (spec_l6Draw_y7 a1 s6 s7 v13 v15 v17 v19 v21 [1, 3, 4, 6, 7, 9, 12]) (And.intro (spec_l6Draw_y7 a1 s6 s7 v13 v15 v17 v19 v21 [0, 1, 3, 6, 7, 9, 12]) (And.intro (spec_l6Draw_y7 a1 s6 s7 v13 v15 v17 v19 v21 [1, 2, 3, 6, 7, 9, 12]) (And.intro (spec_l6Draw_y7 a1 s6 s7 v13 v15 v17 v19 v21 [1, 3, 4, 6, 7, 9, 12]) (And.intro (spec_l6Draw_y7 a1 s6 s7 v13 v15 v17 v19 v21 [0, 1, 2, 3, 4, 6, 9, 12]) (And.intro (spec_l6Draw_y7 a1 s6 s7 v13 v15 v17 v19 v21 [0, 1, 2, 3, 6, 7, 9, 12]) (And.intro (spec_l6Draw_y7 a1 s6 s7 v13 v15 v17 v19 v21 [0, 1, 2, 3, 4, 6, 9, 12]) (And.intro (And.intro (con_sw 921 921 (con_sw 901 901 (con_sw 900 900 (spec_l4Of_ok v13.2 a1 v15 h16)))) (rfl : ([900, 901, 921] : List Nat) = [900, 901, 921])) (And.intro (spec_l6Draw_y7 a1 s6 s7 v13 v15 v17 v19 v21 [0, 1, 3, 4, 5, 6, 9, 12]) (And.intro (spec_l6Draw_y7 a1 s6 s7 v13 v15 v17 v19 v21 [0, 1, 3, 4, 6, 7, 9, 12]) (And.intro (spec_l6Draw_y7 a1 s6 s7 v13 v15 v17 v19 v21 [0, 1, 2, 3, 6, 7, 9, 12]) (And.intro (spec_l6Draw_y7 a1 s6 s7 v13 v15 v17 v19 v21 [0, 1, 3, 4, 6, 7, 9, 12]) (And.intro (spec_l6Draw_y7 a1 s6 s7 v13 v15 v17 v19 v21 [0, 1, 2, 3, 4, 6, 9, 12]) (And.intro (And.intro (con_sw 921 921 (con_sw 901 901 (con_sw 900 900 (spec_l4Of_ok v13.2 a1 v15 h16)))) (rfl : ([900, 901, 921] : List Nat) = [900, 901, 921])) (And.intro (spec_l6Draw_y7 a1 s6 s7 v13 v15 v17 v19 v21 [1, 2, 3, 4, 5, 6, 9, 12]) (And.intro (spec_l6Draw_y7 a1 s6 s7 v13 v15 v17 v19 v21 [1, 2, 3, 4, 6, 7, 9, 12]) (And.intro (spec_l6Draw_y7 a1 s6 s7 v13 v15 v17 v19 v21 [0, 1, 2, 3, 6, 7, 9, 12]) (And.intro (spec_l6Draw_y7 a1 s6 s7 v13 v15 v17 v19 v21 [1, 2, 3, 4, 6, 7, 9, 12]) (And.intro (spec_l6Draw_y7 a1 s6 s7 v13 v15 v17 v19 v21 [0, 1, 3, 4, 5, 6, 9, 12]) (And.intro (spec_l6Draw_y7 a1 s6 s7 v13 v15 v17 v19 v21 [1, 2, 3, 4, 5, 6, 9, 12]) (And.intro (spec_l6Draw_y7 a1 s6 s7 v13 v15 v17 v19 v21 [1, 3, 4, 5, 6, 7, 9, 12]) (And.intro (spec_l6Draw_y7 a1 s6 s7 v13 v15 v17 v19 v21 [0, 1, 3, 4, 6, 7, 9, 12]) (And.intro (spec_l6Draw_y7 a1 s6 s7 v13 v15 v17 v19 v21 [1, 2, 3, 4, 6, 7, 9, 12]) (And.intro (And.intro (con_sw 921 921 (con_sw 901 901 (con_sw 900 900 (spec_l4Of_ok v13.2 a1 v15 h16)))) (rfl : ([900, 901, 921] : List Nat) = [900, 901, 921])) (And.intro (spec_l6Draw_y7 a1 s6 s7 v13 v15 v17 v19 v21 [1, 3, 4, 5, 6, 7, 9, 12]) (And.intro (And.intro (con_sw 921 921 (con_sw 901 901 (con_sw 900 900 (spec_l4Of_ok v13.2 a1 v15 h16)))) (rfl : ([900, 901, 921] : List Nat) = [900, 901, 921])) (And.intro (spec_l6Draw_y7 a1 s6 s7 v13 v15 v17 v19 v21 [0, 1, 2, 3, 4, 5, 6, 9, 12]) (And.intro (spec_l6Draw_y7 a1 s6 s7 v13 v15 v17 v19 v21 [0, 1, 2, 3, 4, 6, 7, 9, 12]) (And.intro (spec_l6Draw_y7 a1 s6 s7 v13 v15 v17 v19 v21 [0, 1, 2, 3, 4, 6, 7, 9, 12]) (And.intro (spec_l6Draw_y7 a1 s6 s7 v13 v15 v17 v19 v21 [0, 1, 2, 3, 4, 5, 6, 9, 12]) (And.intro (spec_l6Draw_y7 a1 s6 s7 v13 v15 v17 v19 v21 [0, 1, 3, 4, 5, 6, 7, 9, 12]) (And.intro (spec_l6Draw_y7 a1 s6 s7 v13 v15 v17 v19 v21 [0, 1, 2, 3, 4, 6, 7, 9, 12]) (And.intro (And.intro (con_sw 921 921 (con_sw 901 901 (con_sw 900 900 (spec_l4Of_ok v13.2 a1 v15 h16)))) (rfl : ([900, 901, 921] : List Nat) = [900, 901, 921])) (And.intro (spec_l6Draw_y7 a1 s6 s7 v13 v15 v17 v19 v21 [0, 1, 3, 4, 5, 6, 7, 9, 12]) (And.intro (spec_l6Draw_y7 a1 s6 s7 v13 v15 v17 v19 v21 [0, 1, 2, 3, 4, 5, 6, 9, 12]) (And.intro (spec_l6Draw_y7 a1 s6 s7 v13 v15 v17 v19 v21 [1, 2, 3, 4, 5, 6, 7, 9, 12]) (And.intro (spec_l6Draw_y7 a1 s6 s7 v13 v15 v17 v19 v21 [0, 1, 2, 3, 4, 6, 7, 9, 12]) (And.intro (And.intro (con_sw 921 921 (con_sw 901 901 (con_sw 900 900 (spec_l4Of_ok v13.2 a1 v15 h16)))) (rfl : ([900, 901, 921] : List Nat) = [900, 901, 921])) (And.intro (spec_l6Draw_y7 a1 s6 s7 v13 v15 v17 v19 v21 [1, 2, 3, 4, 5, 6, 7, 9, 12]) (And.intro (spec_l6Draw_y7 a1 s6 s7 v13 v15 v17 v19 v21 [0, 1, 3, 4, 5, 6, 7, 9, 12]) (And.intro (spec_l6Draw_y7 a1 s6 s7 v13 v15 v17 v19 v21 [1, 2, 3, 4, 5, 6, 7, 9, 12]) (And.intro (And.intro (con_sw 921 921 (con_sw 901 901 (con_sw 900 900 (spec_l4Of_ok v15.2 a1 v17 h18)))) (rfl : ([900, 901, 921] : List Nat) = [900, 901, 921])) (And.intro (spec_l6Draw_y7 a1 s6 s7 v13 v15 v17 v19 v21 [1, 3, 4, 5, 6, 7, 8, 9, 12]) (And.intro (spec_l6Draw_y7 a1 s6 s7 v13 v15 v17 v19 v21 [0, 1, 2, 3, 4, 5, 6, 7, 9, 12]) (And.intro (And.intro (con_sw 921 921 (con_sw 901 901 (con_sw 900 900 (spec_l4Of_ok v13.2 a1 v15 h16)))) (rfl : ([900, 901, 921] : List Nat) = [900, 901, 921])) (And.intro (spec_l6Draw_y7 a1 s6 s7 v13 v15 v17 v19 v21 [0, 1, 2, 3, 4, 5, 6, 7, 9, 12]) (And.intro (spec_l6Draw_y7 a1 s6 s7 v13 v15 v17 v19 v21 [0, 1, 2, 3, 4, 5, 6, 7, 9, 12]) (And.intro (And.intro (con_sw 921 921 (con_sw 901 901 (con_sw 900 900 (spec_l4Of_ok v15.2 a1 v17 h18)))) (rfl : ([900, 901, 921] : List Nat) = [900, 901, 921])) (And.intro (spec_l6Draw_y7 a1 s6 s7 v13 v15 v17 v19 v21 [0, 1, 3, 4, 5, 6, 7, 8, 9, 12]) (And.intro (spec_l6Draw_y7 a1 s6 s7 v13 v15 v17 v19 v21 [0, 1, 2, 3, 4, 5, 6, 7, 9, 12]) (And.intro (And.intro (con_sw 921 921 (con_sw 901 901 (con_sw 900 900 (spec_l4Of_ok v15.2 a1 v17 h18)))) (rfl : ([900, 901, 921] : List Nat) = [900, 901, 921])) (And.intro (spec_l6Draw_y7 a1 s6 s7 v13 v15 v17 v19 v21 [1, 2, 3, 4, 5, 6, 7, 8, 9, 12]) (And.intro (spec_l6Draw_y7 a1 s6 s7 v13 v15 v17 v19 v21 [0, 1, 3, 4, 5, 6, 7, 8, 9, 12]) (And.intro (spec_l6Draw_y7 a1 s6 s7 v13 v15 v17 v19 v21 [1, 2, 3, 4, 5, 6, 7, 8, 9, 12]) (And.intro (And.intro (con_sw 900 900 (spec_l1Below_ok v17.2 100 v19 h20)) (rfl : ([900] : List Nat) = [900])) (And.intro (spec_l6Draw_y7 a1 s6 s7 v13 v15 v17 v19 v21 [1, 3, 4, 5, 6, 7, 8, 9, 10, 11, 12]) (And.intro (And.intro (con_sw 921 921 (con_sw 901 901 (con_sw 900 900 (spec_l4Of_ok v15.2 a1 v17 h18)))) (rfl : ([900, 901, 921] : List Nat) = [900, 901, 921])) (And.intro (spec_l6Draw_y7 a1 s6 s7 v13 v15 v17 v19 v21 [0, 1, 2, 3, 4, 5, 6, 7, 8, 9, 12]) (And.intro (spec_l6Draw_y7 a1 s6 s7 v13 v15 v17 v19 v21 [0, 1, 2, 3, 4, 5, 6, 7, 8, 9, 12]) (And.intro (And.intro (con_sw 900 900 (spec_l1Below_ok v17.2 100 v19 h20)) (rfl : ([900] : List Nat) = [900])) (And.intro (spec_l6Draw_y7 a1 s6 s7 v13 v15 v17 v19 v21 [0, 1, 3, 4, 5, 6, 7, 8, 9, 10, 11, 12]) (And.intro (spec_l6Draw_y7 a1 s6 s7 v13 v15 v17 v19 v21 [0, 1, 2, 3, 4, 5, 6, 7, 8, 9, 12]) (And.intro (And.intro (con_sw 900 900 (spec_l1Below_ok v17.2 100 v19 h20)) (rfl : ([900] : List Nat) = [900])) (And.intro (spec_l6Draw_y7 a1 s6 s7 v13 v15 v17 v19 v21 [1, 2, 3, 4, 5, 6, 7, 8, 9, 10, 11, 12]) (And.intro (spec_l6Draw_y7 a1 s6 s7 v13 v15 v17 v19 v21 [0, 1, 3, 4, 5, 6, 7, 8, 9, 10, 11, 12]) (And.intro (spec_l6Draw_y7 a1 s6 s7 v13 v15 v17 v19 v21 [1, 2, 3, 4, 5, 6, 7, 8, 9, 10, 11, 12]) (And.intro (And.intro (con_sw 900 900 (spec_l1Below_ok v17.2 100 v19 h20)) (rfl : ([900] : List Nat) = [900])) (And.intro (spec_l6Draw_y7 a1 s6 s7 v13 v15 v17 v19 v21 [0, 1, 2, 3, 4, 5, 6, 7, 8, 9, 10, 11, 12]) (And.intro (spec_l6Draw_y7 a1 s6 s7 v13 v15 v17 v19 v21 [0, 1, 2, 3, 4, 5, 6, 7, 8, 9, 10, 11, 12]) (And.intro (spec_l6Draw_y7 a1 s6 s7 v13 v15 v17 v19 v21 [0, 1, 2, 3, 4, 5, 6, 7, 8, 9, 10, 11, 12]) (And.intro (And.intro (con_sw 1000 3 (spec_FindRoom_ok a1 s6 ([] : List Trip) v15.1 v17.1 (w64 (60 * v19.1)) (w64 (1 + v13.1)) v21 h22)) (rfl : ([] : List Nat) = [])) (And.intro (rfl : (spec_l6Draw_x7 a1 s6 s7 v13 v19 v21) = (spec_l6Draw_x7 a1 s6 s7 v13 v19 v21)) True.intro))))))))))))))))))))))))))))))))))))))))))))))))))))))))))))))))))))))))))))))))))))))))) (by kernel_rfl) (J1 () hM)
  · have hE : some (Ctl.brk (s3, s4, s5, s6)) = some c1 := hM
    have hE := Option.some.inj hE
    subst hE
    exact pc R 5 [.as 19 false] [.keep [0, 1, 7] [900, 901, 921, 1]] (And.intro h12 True.intro) (by kernel_rfl) (K1 s3 s4 s5 s6 hK1)

-- loop.example/g03014/spec.l6Any
def spec_l6Any (a0 : l1Cur) (a1 : Network) : Option ((List Booking) × l1Cur) :=
  (spec_l6Draw a0 a1 6).bind fun v1 =>
  bif ((v1.1.length : Int) == 0) then
  some (v1.1, v1.2)
  else
  (spec_l1Below v1.2 (v1.1.length : Int)).bind fun v4 =>
  (spec_l1Below v4.2 9).bind fun v6 =>
  bif (v6.1 == 0) then
  (spec_l1Int v6.2 ([0, 1, 60000, 1000001, (-1)] : List Int)).bind fun v9 =>
  (gi v1.1 v4.1).bind fun v11 =>
  some (List.set v1.1 (Int.toNat v4.1) (Booking.mk v11.Thing v11.Trip v9.1), v9.2)
  else
  bif (v6.1 == 1) then
  (spec_l1Int v6.2 ([0, 1, 9999, 10000] : List Int)).bind fun v14 =>
  (gi v1.1 v4.1).bind fun v16 =>
  some (List.set v1.1 (Int.toNat v4.1) (Booking.mk v14.1 v16.Trip v16.Weight), v14.2)
  else
  bif (v6.1 == 2) then
  (gi v1.1 v4.1).bind fun v19 =>
  (gi v1.1 v4.1).bind fun v21 =>
  some (List.set v1.1 (Int.toNat v4.1) (Booking.mk v21.Thing (Trip.mk v21.Trip.Leg (w64 (v19.Trip.Day + 1))) v21.Weight), v6.2)
  else
  bif (v6.1 == 3) then
  (gi v1.1 v4.1).bind fun v24 =>
  (ap 32 v1.1 ([v24] : List Booking)).bind fun v26 =>
  some (v26, v6.2)
  else
  bif (v6.1 == 4) then
  (spec_l1Int v6.2 ([(-1), (a1.Legs.length : Int), 0] : List Int)).bind fun v29 =>
  (gi v1.1 v4.1).bind fun v31 =>
  some (List.set v1.1 (Int.toNat v4.1) (Booking.mk v31.Thing (Trip.mk v29.1 v31.Trip.Day) v31.Weight), v29.2)
  else
  some (v1.1, v6.2)
theorem spec_l6Any_ok (a0 : l1Cur) (a1 : Network) (r : (List Booking) × l1Cur) (hM : spec_l6Any a0 a1 = some r) :
    Con Try.prog 42 [.c (.ptr 900 0), .agg [.sl 901, .sl 921, .v (.int .i64 a1.Change)]] [(900, .box 87 [.rs 1 (a0.b.map encU8), .v (.int .i64 a0.i), .v (.int .i64 a0.h)]), (901, .row 64 6 (a1.Legs.map Leg.enc)), (921, .row 3 1 (a1.Off.map encI))] (.o (.c (.sl 1000))) [(900, .box 87 [.rs 1 (r.2.b.map encU8), .v (.int .i64 r.2.i), .v (.int .i64 r.2.h)]), (901, .row 64 6 (a1.Legs.map Leg.enc)), (921, .row 3 1 (a1.Off.map encI))] [(1000, .row 71 4 (r.1.map Booking.enc))] := by
  unfold spec_l6Any at hM
  refine cn (N := 75) (pids := [900, 901, 921]) Try_mixed Try.func42 (by kernel_rfl) (by kernel_rfl) (by kernel_rfl) rfl fun ρ g w R => ?_
  obtain ⟨v1, h2, hM⟩ := bind_some hM
  rcases cond_cases hM with ⟨h3, hM⟩ | ⟨h3, hM⟩
  · have hE : some (v1.1, v1.2) = some r := hM
    have hE := Option.some.inj hE
    subst hE
    exact pr R 9999 [.new 0, .ad (.keep [0, 1, 3, 4, 7, 8] [900, 901, 921, 0]), .call true [900, 901, 921] (.o (.c (.sl 1))) [(900, .box 87 [.rs 1 (v1.2.b.map encU8), .v (.int .i64 v1.2.i), .v (.int .i64 v1.2.h)]), (901, .row 64 6 (a1.Legs.map Leg.enc)), (921, .row 3 1 (a1.Off.map encI))] [(1, .row 71 4 (v1.1.map Booking.enc))], .ln (v1.1.length), .as 12 true] [.sw 1 1000] [900, 901, 921] [1000] (And.intro (And.intro (con_sw 921 921 (con_sw 901 901 (con_sw 900 900 (con_sw 1000 1 (spec_l6Draw_ok a0 a1 6 v1 h2))))) (rfl : ([900, 901, 921] : List Nat) = [900, 901, 921])) (And.intro (lenm Booking.enc v1.1) (And.intro h3 True.intro))) (by kernel_rfl)
  · obtain ⟨v4, h5, hM⟩ := bind_some hM
    obtain ⟨v6, h7, hM⟩ := bind_some hM
    rcases cond_cases hM with ⟨h8, hM⟩ | ⟨h8, hM⟩
    · obtain ⟨v9, h10, hM⟩ := bind_some hM
      obtain ⟨v11, h12, hM⟩ := bind_some hM
      have hE : some (List.set v1.1 (Int.toNat v4.1) (Booking.mk v11.Thing v11.Trip v9.1), v9.2) = some r := hM
      have hE := Option.some.inj hE
      subst hE
      exact pr R 9999 [.new 0, .ad (.keep [0, 1, 3, 4, 7, 8] [900, 901, 921, 0]), .call true [900, 901, 921] (.o (.c (.sl 1))) [(900, .box 87 [.rs 1 (v1.2.b.map encU8), .v (.int .i64 v1.2.i), .v (.int .i64 v1.2.h)]), (901, .row 64 6 (a1.Legs.map Leg.enc)), (921, .row 3 1 (a1.Off.map encI))] [(1, .row 71 4 (v1.1.map Booking.enc))], .ln (v1.1.length), .as 12 false, .ln (v1.1.length), .call true [900] (.o (.c (.v (.int .i64 v4.1)))) [(900, .box 87 [.rs 1 (v4.2.b.map encU8), .v (.int .i64 v4.2.i), .v (.int .i64 v4.2.h)])] [], .call true [900] (.o (.c (.v (.int .i64 v6.1)))) [(900, .box 87 [.rs 1 (v6.2.b.map encU8), .v (.int .i64 v6.2.i), .v (.int .i64 v6.2.h)])] [], .as 20 true, .new 2, .ad (.keep [0, 1, 3, 4, 5, 6, 7, 8, 9, 10, 11, 12, 14, 15, 16, 17, 18, 19, 20, 21, 22, 23, 24, 25] [900, 2, 901, 921, 0, 1]), .call true [900, 2] (.o (.c (.v (.int .i64 v9.1)))) [(900, .box 87 [.rs 1 (v9.2.b.map encU8), .v (.int .i64 v9.2.i), .v (.int .i64 v9.2.h)]), (2, .row 3 1 (([0, 1, 60000, 1000001, (-1)] : List Int).map encI))] [], .ix (Booking.enc v11), .nm ((List.set v1.1 (Int.toNat v4.1) (Booking.mk v11.Thing v11.Trip v9.1)).map Booking.enc)] [.sw 1 1000] [900, 901, 921] [1000] (And.intro (And.intro (con_sw 921 921 (con_sw 901 901 (con_sw 900 900 (con_sw 1000 1 (spec_l6Draw_ok a0 a1 6 v1 h2))))) (rfl : ([900, 901, 921] : List Nat) = [900, 901, 921])) (And.intro (lenm Booking.enc v1.1) (And.intro h3 (And.intro (lenm Booking.enc v1.1) (And.intro (And.intro (con_sw 900 900 (spec_l1Below_ok v1.2 (v1.1.length : Int) v4 h5)) (rfl : ([900] : List Nat) = [900])) (And.intro (And.intro (con_sw 900 900 (spec_l1Below_ok v4.2 9 v6 h7)) (rfl : ([900] : List Nat) = [900])) (And.intro h8 (And.intro (And.intro (con_sw 901 2 (con_sw 900 900 (spec_l1Int_ok v6.2 ([0, 1, 60000, 1000001, (-1)] : List Int) v9 h10))) (rfl : ([900, 2] : List Nat) = [900, 2])) (And.intro (gi_lt Booking.enc h12) (And.intro (And.intro (gi_map Booking.enc h12).2 (set_map Booking.enc v1.1 (Int.toNat v4.1) (Booking.mk v11.Thing v11.Trip v9.1))) True.intro)))))))))) (by kernel_rfl)
    · rcases cond_cases hM with ⟨h13, hM⟩ | ⟨h13, hM⟩
      · obtain ⟨v14, h15, hM⟩ := bind_some hM
        obtain ⟨v16, h17, hM⟩ := bind_some hM
        have hE : some (List.set v1.1 (Int.toNat v4.1) (Booking.mk v14.1 v16.Trip v16.Weight), v14.2) = some r := hM
        have hE := Option.some.inj hE
        subst hE
        exact pr R 9999 [.new 0, .ad (.keep [0, 1, 3, 4, 7, 8] [900, 901, 921, 0]), .call true [900, 901, 921] (.o (.c (.sl 1))) [(900, .box 87 [.rs 1 (v1.2.b.map encU8), .v (.int .i64 v1.2.i), .v (.int .i64 v1.2.h)]), (901, .row 64 6 (a1.Legs.map Leg.enc)), (921, .row 3 1 (a1.Off.map encI))] [(1, .row 71 4 (v1.1.map Booking.enc))], .ln (v1.1.length), .as 12 false, .ln (v1.1.length), .call true [900] (.o (.c (.v (.int .i64 v4.1)))) [(900, .box 87 [.rs 1 (v4.2.b.map encU8), .v (.int .i64 v4.2.i), .v (.int .i64 v4.2.h)])] [], .call true [900] (.o (.c (.v (.int .i64 v6.1)))) [(900, .box 87 [.rs 1 (v6.2.b.map encU8), .v (.int .i64 v6.2.i), .v (.int .i64 v6.2.h)])] [], .as 20 false, .as 29 true, .new 3, .ad (.keep [0, 1, 3, 4, 5, 6, 7, 8, 9, 10, 11, 12, 14, 15, 16, 17, 18, 19, 20, 21, 29, 30, 31, 32, 33, 34] [900, 3, 901, 921, 0, 1]), .call true [900, 3] (.o (.c (.v (.int .i64 v14.1)))) [(900, .box 87 [.rs 1 (v14.2.b.map encU8), .v (.int .i64 v14.2.i), .v (.int .i64 v14.2.h)]), (3, .row 3 1 (([0, 1, 9999, 10000] : List Int).map encI))] [], .ix (Booking.enc v16), .nm ((List.set v1.1 (Int.toNat v4.1) (Booking.mk v14.1 v16.Trip v16.Weight)).map Booking.enc)] [.sw 1 1000] [900, 901, 921] [1000] (And.intro (And.intro (con_sw 921 921 (con_sw 901 901 (con_sw 900 900 (con_sw 1000 1 (spec_l6Draw_ok a0 a1 6 v1 h2))))) (rfl : ([900, 901, 921] : List Nat) = [900, 901, 921])) (And.intro (lenm Booking.enc v1.1) (And.intro h3 (And.intro (lenm Booking.enc v1.1) (And.intro (And.intro (con_sw 900 900 (spec_l1Below_ok v1.2 (v1.1.length : Int) v4 h5)) (rfl : ([900] : List Nat) = [900])) (And.intro (And.intro (con_sw 900 900 (spec_l1Below_ok v4.2 9 v6 h7)) (rfl : ([900] : List Nat) = [900])) (And.intro h8 (And.intro h13 (And.intro (And.intro (con_sw 901 3 (con_sw 900 900 (spec_l1Int_ok v6.2 ([0, 1, 9999, 10000] : List Int) v14 h15))) (rfl : ([900, 3] : List Nat) = [900, 3])) (And.intro (gi_lt Booking.enc h17) (And.intro (And.intro (gi_map Booking.enc h17).2 (set_map Booking.enc v1.1 (Int.toNat v4.1) (Booking.mk v14.1 v16.Trip v16.Weight))) True.intro))))))))))) (by kernel_rfl)
      · rcases cond_cases hM with ⟨h18, hM⟩ | ⟨h18, hM⟩
        · obtain ⟨v19, h20, hM⟩ := bind_some hM
          obtain ⟨v21, h22, hM⟩ := bind_some hM
          have hE : some (List.set v1.1 (Int.toNat v4.1) (Booking.mk v21.Thing (Trip.mk v21.Trip.Leg (w64 (v19.Trip.Day + 1))) v21.Weight), v6.2) = some r := hM
          have hE := Option.some.inj hE
          subst hE
          exact pr R 9999 [.new 0, .ad (.keep [0, 1, 3, 4, 7, 8] [900, 901, 921, 0]), .call true [900, 901, 921] (.o (.c (.sl 1))) [(900, .box 87 [.rs 1 (v1.2.b.map encU8), .v (.int .i64 v1.2.i), .v (.int .i64 v1.2.h)]), (901, .row 64 6 (a1.Legs.map Leg.enc)), (921, .row 3 1 (a1.Off.map encI))] [(1, .row 71 4 (v1.1.map Booking.enc))], .ln (v1.1.length), .as 12 false, .ln (v1.1.length), .call true [900] (.o (.c (.v (.int .i64 v4.1)))) [(900, .box 87 [.rs 1 (v4.2.b.map encU8), .v (.int .i64 v4.2.i), .v (.int .i64 v4.2.h)])] [], .call true [900] (.o (.c (.v (.int .i64 v6.1)))) [(900, .box 87 [.rs 1 (v6.2.b.map encU8), .v (.int .i64 v6.2.i), .v (.int .i64 v6.2.h)])] [], .as 20 false, .as 29 false, .as 38 true, .ix (Booking.enc v19), .ix (Booking.enc v21), .nm ((List.set v1.1 (Int.toNat v4.1) (Booking.mk v21.Thing (Trip.mk v21.Trip.Leg (w64 (v19.Trip.Day + 1))) v21.Weight)).map Booking.enc)] [.sw 1 1000] [900, 901, 921] [1000] (And.intro (And.intro (con_sw 921 921 (con_sw 901 901 (con_sw 900 900 (con_sw 1000 1 (spec_l6Draw_ok a0 a1 6 v1 h2))))) (rfl : ([900, 901, 921] : List Nat) = [900, 901, 921])) (And.intro (lenm Booking.enc v1.1) (And.intro h3 (And.intro (lenm Booking.enc v1.1) (And.intro (And.intro (con_sw 900 900 (spec_l1Below_ok v1.2 (v1.1.length : Int) v4 h5)) (rfl : ([900] : List Nat) = [900])) (And.intro (And.intro (con_sw 900 900 (spec_l1Below_ok v4.2 9 v6 h7)) (rfl : ([900] : List Nat) = [900])) (And.intro h8 (And.intro h13 (And.intro h18 (And.intro (gi_lt Booking.enc h20) (And.intro ((gi_map Booking.enc h20).2) (And.intro (gi_lt Booking.enc h22) (And.intro (And.intro (gi_map Booking.enc h22).2 (set_map Booking.enc v1.1 (Int.toNat v4.1) (Booking.mk v21.Thing (Trip.mk v21.Trip.Leg (w64 (v19.Trip.Day + 1))) v21.Weight))) True.intro))))))))))))) (by kernel_rfl)
        · rcases cond_cases hM with ⟨h23, hM⟩ | ⟨h23, hM⟩
          · obtain ⟨v24, h25, hM⟩ := bind_some hM
            obtain ⟨v26, h27, hM⟩ := bind_some hM
            have hE : some (v26, v6.2) = some r := hM
            have hE := Option.some.inj hE
            subst hE
            exact pr R 9999 [.new 0, .ad (.keep [0, 1, 3, 4, 7, 8] [900, 901, 921, 0]), .call true [900, 901, 921] (.o (.c (.sl 1))) [(900, .box 87 [.rs 1 (v1.2.b.map encU8), .v (.int .i64 v1.2.i), .v (.int .i64 v1.2.h)]), (901, .row 64 6 (a1.Legs.map Leg.enc)), (921, .row 3 1 (a1.Off.map encI))] [(1, .row 71 4 (v1.1.map Booking.enc))], .ln (v1.1.length), .as 12 false, .ln (v1.1.length), .call true [900] (.o (.c (.v (.int .i64 v4.1)))) [(900, .box 87 [.rs 1 (v4.2.b.map encU8), .v (.int .i64 v4.2.i), .v (.int .i64 v4.2.h)])] [], .call true [900] (.o (.c (.v (.int .i64 v6.1)))) [(900, .box 87 [.rs 1 (v6.2.b.map encU8), .v (.int .i64 v6.2.i), .v (.int .i64 v6.2.h)])] [], .as 20 false, .as 29 false, .as 38 false, .as 52 true, .ix (Booking.enc v24), .new 4, .new 5, .nm (v26.map Booking.enc)] [.sw 5 1000] [900, 901, 921] [1000] (And.intro (And.intro (con_sw 921 921 (con_sw 901 901 (con_sw 900 900 (con_sw 1000 1 (spec_l6Draw_ok a0 a1 6 v1 h2))))) (rfl : ([900, 901, 921] : List Nat) = [900, 901, 921])) (And.intro (lenm Booking.enc v1.1) (And.intro h3 (And.intro (lenm Booking.enc v1.1) (And.intro (And.intro (con_sw 900 900 (spec_l1Below_ok v1.2 (v1.1.length : Int) v4 h5)) (rfl : ([900] : List Nat) = [900])) (And.intro (And.intro (con_sw 900 900 (spec_l1Below_ok v4.2 9 v6 h7)) (rfl : ([900] : List Nat) = [900])) (And.intro h8 (And.intro h13 (And.intro h18 (And.intro h23 (And.intro (gi_lt Booking.enc h25) (And.intro ((gi_map Booking.enc h25).2) (And.intro (ap_ok Booking.enc h27) True.intro))))))))))))) (by kernel_rfl)
          · rcases cond_cases hM with ⟨h28, hM⟩ | ⟨h28, hM⟩
            · obtain ⟨v29, h30, hM⟩ := bind_some hM
              obtain ⟨v31, h32, hM⟩ := bind_some hM
              have hE : some (List.set v1.1 (Int.toNat v4.1) (Booking.mk v31.Thing (Trip.mk v29.1 v31.Trip.Day) v31.Weight), v29.2) = some r := hM
              have hE := Option.some.inj hE
              subst hE
              exact pr R 9999 [.new 0, .ad (.keep [0, 1, 3, 4, 7, 8] [900, 901, 921, 0]), .call true [900, 901, 921] (.o (.c (.sl 1))) [(900, .box 87 [.rs 1 (v1.2.b.map encU8), .v (.int .i64 v1.2.i), .v (.int .i64 v1.2.h)]), (901, .row 64 6 (a1.Legs.map Leg.enc)), (921, .row 3 1 (a1.Off.map encI))] [(1, .row 71 4 (v1.1.map Booking.enc))], .ln (v1.1.length), .as 12 false, .ln (v1.1.length), .call true [900] (.o (.c (.v (.int .i64 v4.1)))) [(900, .box 87 [.rs 1 (v4.2.b.map encU8), .v (.int .i64 v4.2.i), .v (.int .i64 v4.2.h)])] [], .call true [900] (.o (.c (.v (.int .i64 v6.1)))) [(900, .box 87 [.rs 1 (v6.2.b.map encU8), .v (.int .i64 v6.2.i), .v (.int .i64 v6.2.h)])] [], .as 20 false, .as 29 false, .as 38 false, .as 52 false, .as 61 true, .ln (a1.Legs.length), .new 6, .ad (.keep [0, 1, 3, 4, 5, 6, 7, 8, 9, 10, 11, 12, 14, 15, 16, 17, 18, 19, 20, 21, 29, 30, 38, 39, 52, 53, 61, 62, 63, 64, 65, 66, 67, 68, 69] [900, 6, 901, 921, 0, 1]), .call true [900, 6] (.o (.c (.v (.int .i64 v29.1)))) [(900, .box 87 [.rs 1 (v29.2.b.map encU8), .v (.int .i64 v29.2.i), .v (.int .i64 v29.2.h)]), (6, .row 3 1 (([(-1), (a1.Legs.length : Int), 0] : List Int).map encI))] [], .ix (Booking.enc v31), .nm ((List.set v1.1 (Int.toNat v4.1) (Booking.mk v31.Thing (Trip.mk v29.1 v31.Trip.Day) v31.Weight)).map Booking.enc)] [.sw 1 1000] [900, 901, 921] [1000] (And.intro (And.intro (con_sw 921 921 (con_sw 901 901 (con_sw 900 900 (con_sw 1000 1 (spec_l6Draw_ok a0 a1 6 v1 h2))))) (rfl : ([900, 901, 921] : List Nat) = [900, 901, 921])) (And.intro (lenm Booking.enc v1.1) (And.intro h3 (And.intro (lenm Booking.enc v1.1) (And.intro (And.intro (con_sw 900 900 (spec_l1Below_ok v1.2 (v1.1.length : Int) v4 h5)) (rfl : ([900] : List Nat) = [900])) (And.intro (And.intro (con_sw 900 900 (spec_l1Below_ok v4.2 9 v6 h7)) (rfl : ([900] : List Nat) = [900])) (And.intro h8 (And.intro h13 (And.intro h18 (And.intro h23 (And.intro h28 (And.intro (lenm Leg.enc a1.Legs) (And.intro (And.intro (con_sw 901 6 (con_sw 900 900 (spec_l1Int_ok v6.2 ([(-1), (a1.Legs.length : Int), 0] : List Int) v29 h30))) (rfl : ([900, 6] : List Nat) = [900, 6])) (And.intro (gi_lt Booking.enc h32) (And.intro (And.intro (gi_map Booking.enc h32).2 (set_map Booking.enc v1.1 (Int.toNat v4.1) (Booking.mk v31.Thing (Trip.mk v29.1 v31.Trip.Day) v31.Weight))) True.intro))))))))))))))) (by kernel_rfl)
            · have hE : some (v1.1, v6.2) = some r := hM
              have hE := Option.some.inj hE
              subst hE
              exact pr R 9999 [.new 0, .ad (.keep [0, 1, 3, 4, 7, 8] [900, 901, 921, 0]), .call true [900, 901, 921] (.o (.c (.sl 1))) [(900, .box 87 [.rs 1 (v1.2.b.map encU8), .v (.int .i64 v1.2.i), .v (.int .i64 v1.2.h)]), (901, .row 64 6 (a1.Legs.map Leg.enc)), (921, .row 3 1 (a1.Off.map encI))] [(1, .row 71 4 (v1.1.map Booking.enc))], .ln (v1.1.length), .as 12 false, .ln (v1.1.length), .call true [900] (.o (.c (.v (.int .i64 v4.1)))) [(900, .box 87 [.rs 1 (v4.2.b.map encU8), .v (.int .i64 v4.2.i), .v (.int .i64 v4.2.h)])] [], .call true [900] (.o (.c (.v (.int .i64 v6.1)))) [(900, .box 87 [.rs 1 (v6.2.b.map encU8), .v (.int .i64 v6.2.i), .v (.int .i64 v6.2.h)])] [], .as 20 false, .as 29 false, .as 38 false, .as 52 false, .as 61 false] [.sw 1 1000] [900, 901, 921] [1000] (And.intro (And.intro (con_sw 921 921 (con_sw 901 901 (con_sw 900 900 (con_sw 1000 1 (spec_l6Draw_ok a0 a1 6 v1 h2))))) (rfl : ([900, 901, 921] : List Nat) = [900, 901, 921])) (And.intro (lenm Booking.enc v1.1) (And.intro h3 (And.intro (lenm Booking.enc v1.1) (And.intro (And.intro (con_sw 900 900 (spec_l1Below_ok v1.2 (v1.1.length : Int) v4 h5)) (rfl : ([900] : List Nat) = [900])) (And.intro (And.intro (con_sw 900 900 (spec_l1Below_ok v4.2 9 v6 h7)) (rfl : ([900] : List Nat) = [900])) (And.intro h8 (And.intro h13 (And.intro h18 (And.intro h23 (And.intro h28 True.intro))))))))))) (by kernel_rfl)

-- loop.example/g03014/spec.RunsOn
def spec_RunsOn (a0 : Network) (a1 : Int) (a2 : Int) : Option Bool :=
  (spec_IsNetwork a0).bind fun v1 =>
  bif v1 then
  (spec_l3Runs a0 a1 a2).bind fun v4 =>
  some v4
  else
  some false
theorem spec_RunsOn_ok (a0 : Network) (a1 : Int) (a2 : Int) (r : Bool) (hM : spec_RunsOn a0 a1 a2 = some r) :
    Con Try.prog 91 [.agg [.rs 6 (a0.Legs.map Leg.enc), .rs 1 (a0.Off.map encI), .v (.int .i64 a0.Change)], .c (.v (.int .i64 a1)), .c (.v (.int .i64 a2))] [] (.o (.c (.v (.bool r)))) [] [] := by
  unfold spec_RunsOn at hM
  refine cn (N := 15) (pids := []) Try_mixed Try.func91 (by kernel_rfl) (by kernel_rfl) (by kernel_rfl) rfl fun ρ g w R => ?_
  obtain ⟨v1, h2, hM⟩ := bind_some hM
  rcases cond_cases hM with ⟨h3, hM⟩ | ⟨h3, hM⟩
  · obtain ⟨v4, h5, hM⟩ := bind_some hM
    have hE : some v4 = some r := hM
    have hE := Option.some.inj hE
    subst hE
    exact pr R 9999 [.new 0, .call false [] (.o (.c (.v (.bool v1)))) [] [], .as 9 true, .call false [] (.o (.c (.v (.bool v4)))) [] []] [] [] [] (And.intro (spec_IsNetwork_ok a0 v1 h2) (And.intro h3 (And.intro (spec_l3Runs_ok a0 a1 a2 v4 h5) True.intro))) (by kernel_rfl)
  · have hE : some false = some r := hM
    have hE := Option.some.inj hE
    subst hE
    exact pr R 9999 [.new 0, .call false [] (.o (.c (.v (.bool v1)))) [] [], .as 9 false] [] [] [] (And.intro (spec_IsNetwork_ok a0 v1 h2) (And.intro h3 True.intro)) (by kernel_rfl)

-- loop.example/g03014/spec.IsTrip
def spec_IsTrip (a0 : Network) (a1 : Trip) : Option Bool :=
  (spec_RunsOn a0 a1.Leg a1.Day).bind fun v1 =>
  some v1
theorem spec_IsTrip_ok (a0 : Network) (a1 : Trip) (r : Bool) (hM : spec_IsTrip a0 a1 = some r) :
    Con Try.prog 72 [.agg [.rs 6 (a0.Legs.map Leg.enc), .rs 1 (a0.Off.map encI), .v (.int .i64 a0.Change)], .c (.v (.agg (Trip.enc a1).toArray))] [] (.o (.c (.v (.bool r)))) [] [] := by
  unfold spec_IsTrip at hM
  refine cn (N := 11) (pids := []) Try_mixed Try.func72 (by kernel_rfl) (by kernel_rfl) (by kernel_rfl) rfl fun ρ g w R => ?_
  obtain ⟨v1, h2, hM⟩ := bind_some hM
  have hE : some v1 = some r := hM
  have hE := Option.some.inj hE
  subst hE
  exact pr R 9999 [.new 0, .new 1, .call false [] (.o (.c (.v (.bool v1)))) [] []] [] [] [] (And.intro (spec_RunsOn_ok a0 a1.Leg a1.Day v1 h2) True.intro) (by kernel_rfl)

-- loop.example/g03014/spec.StartsAt
def spec_StartsAt (a0 : Network) (a1 : Trip) : Option Int :=
  (spec_IsTrip a0 a1).bind fun v1 =>
  bif (!v1) then
  some (-1)
  else
  (spec_l3Starts a0 a1).bind fun v4 =>
  some v4
theorem spec_StartsAt_ok (a0 : Network) (a1 : Trip) (r : Int) (hM : spec_StartsAt a0 a1 = some r) :
    Con Try.prog 45 [.agg [.rs 6 (a0.Legs.map Leg.enc), .rs 1 (a0.Off.map encI), .v (.int .i64 a0.Change)], .c (.v (.agg (Trip.enc a1).toArray))] [] (.o (.c (.v (.int .i64 r)))) [] [] := by
  unfold spec_StartsAt at hM
  refine cn (N := 12) (pids := []) Try_mixed Try.func45 (by kernel_rfl) (by kernel_rfl) (by kernel_rfl) rfl fun ρ g w R => ?_
  obtain ⟨v1, h2, hM⟩ := bind_some hM
  rcases cond_cases hM with ⟨h3, hM⟩ | ⟨h3, hM⟩
  · have hE : some (-1) = some r := hM
    have hE := Option.some.inj hE
    subst hE
    exact pr R 9999 [.new 0, .new 1, .call false [] (.o (.c (.v (.bool v1)))) [] [], .as 8 true] [] [] [] (And.intro (spec_IsTrip_ok a0 a1 v1 h2) (And.intro h3 True.intro)) (by kernel_rfl)
  · obtain ⟨v4, h5, hM⟩ := bind_some hM
    have hE : some v4 = some r := hM
    have hE := Option.some.inj hE
    subst hE
    exact pr R 9999 [.new 0, .new 1, .call false [] (.o (.c (.v (.bool v1)))) [] [], .as 8 false, .call false [] (.o (.c (.v (.int .i64 v4)))) [] []] [] [] [] (And.intro (spec_IsTrip_ok a0 a1 v1 h2) (And.intro h3 (And.intro (spec_l3Starts_ok a0 a1 v4 h5) True.intro))) (by kernel_rfl)

-- loop.example/g03014/spec.DrawRideAt
def spec_DrawRideAt_x1 (v3 : (Network × l1Cur)) (v5 : ((List Booking) × l1Cur)) (v13 : Booking) (v15 : Int) (v17 : (Int × l1Cur)) : St := ⟨[(2, .o (.c (.ptr 0 0))), (3, .o (.c (.sl 5))), (4, .o (.c (.v (.int .i64 v13.Thing)))), (5, .o (.c (.v (.int .i64 (w64 (v15 + v17.1))))))], [(0, .box 27 [.sl 2, .sl 3, .v (.int .i64 v3.1.Change)]), (2, .row 64 6 (v3.1.Legs.map Leg.enc)), (3, .row 3 1 (v3.1.Off.map encI)), (5, .row 71 4 (v5.1.map Booking.enc))]⟩
def spec_DrawRideAt_s1 (v3 : (Network × l1Cur)) (v5 : ((List Booking) × l1Cur)) (v11 : (Int × l1Cur)) (v13 : Booking) : St := ⟨[(2, .o (.c (.ptr 0 0))), (6, .o (.c (.ptr 1 0))), (7, .o (.c (.ptr 4 0))), (8, .o (.c (.sl 5))), (9, .o (.c (.ptr 6 0)))], [(0, .box 27 [.v (.slice none 0 0), .v (.slice none 0 0), .v (.int .i64 0)]), (1, .box 87 [.rs 1 (v11.2.b.map encU8), .v (.int .i64 v11.2.i), .v (.int .i64 v11.2.h)]), (4, .box 27 [.sl 2, .sl 3, .v (.int .i64 v3.1.Change)]), (2, .row 64 6 (v3.1.Legs.map Leg.enc)), (3, .row 3 1 (v3.1.Off.map encI)), (5, .row 71 4 (v5.1.map Booking.enc)), (6, .box 71 [.v (.int .i64 v13.Thing), .v (.int .i64 v13.Trip.Leg), .v (.int .i64 v13.Trip.Day), .v (.int .i64 v13.Weight)])]⟩
def spec_DrawRideAt_o1 (v15 : Int) (v17 : (Int × l1Cur)) : List (List Orc) := [[], [], [], [], [], [], [], [.call false [] (.o (.c (.v (.int .i64 v15)))) [] []], [], [.new 7], [.ad (.keep [0, 2, 3, 4, 5, 6, 7, 8, 9, 10, 11, 12, 13, 14, 15, 16, 17, 18, 19, 20, 21, 22, 23, 24, 25, 26, 27, 28, 29, 30, 31, 32, 33, 34, 35, 36, 37, 38, 39, 40, 41, 42] [1, 7, 0, 2, 3, 4, 5, 6, 8, 9, 10, 11, 12, 13, 14, 15, 16, 17, 18, 19, 20, 21, 22, 23, 24, 25, 26, 27, 28, 29, 30, 31, 32, 33, 34, 35, 36, 37, 38, 39, 40, 41, 42, 43, 44, 45, 46, 47]), .call true [1, 7] (.o (.c (.v (.int .i64 v17.1)))) [(1, .box 87 [.rs 1 (v17.2.b.map encU8), .v (.int .i64 v17.2.i), .v (.int .i64 v17.2.h)]), (7, .row 3 1 (([(-1), 0, 1, 60, 1200] : List Int).map encI))] []], [], [], [], [], []]
theorem spec_DrawRideAt_y1 (v3 : (Network × l1Cur)) (v5 : ((List Booking) × l1Cur)) (v11 : (Int × l1Cur)) (v13 : Booking) (v15 : Int) (v17 : (Int × l1Cur)) (L : List Nat) : subX Try.prog [] 50 (opsOf (cAt Try.f12 [1, 1, 1, 1, 0, 1, 0, 1, 0])) (spec_DrawRideAt_o1 v15 v17) L (spec_DrawRideAt_s1 v3 v5 v11 v13) = subX Try.prog [] 50 (opsOf (cAt Try.f12 [1, 1, 1, 1, 0, 1, 0, 1, 0])) (spec_DrawRideAt_o1 v15 v17) L (spec_DrawRideAt_s1 v3 v5 v11 v13) := rfl
def spec_DrawRideAt_j1 (v3 : (Network × l1Cur)) (v5 : ((List Booking) × l1Cur)) (v13 : Booking) (v15 : Int) (v17 : (Int × l1Cur)) : Option (Network × (List Booking) × Int × Int) :=
  some ((Network.mk v3.1.Legs v3.1.Off v3.1.Change), v5.1, v13.Thing, w64 (v15 + v17.1))
def spec_DrawRideAt_x2 (v3 : (Network × l1Cur)) (v5 : ((List Booking) × l1Cur)) (v19 : (Int × l1Cur)) (v21 : (Int × l1Cur)) : St := ⟨[(2, .o (.c (.ptr 0 0))), (3, .o (.c (.sl 5))), (4, .o (.c (.v (.int .i64 (w64 (1 + v19.1)))))), (5, .o (.c (.v (.int .i64 v21.1))))], [(0, .box 27 [.sl 2, .sl 3, .v (.int .i64 v3.1.Change)]), (2, .row 64 6 (v3.1.Legs.map Leg.enc)), (3, .row 3 1 (v3.1.Off.map encI)), (5, .row 71 4 (v5.1.map Booking.enc))]⟩
def spec_DrawRideAt_x3 (v3 : (Network × l1Cur)) (v5 : ((List Booking) × l1Cur)) (v23 : (Int × l1Cur)) (v25 : (Int × l1Cur)) : St := ⟨[(2, .o (.c (.ptr 0 0))), (3, .o (.c (.sl 5))), (4, .o (.c (.v (.int .i64 (w64 (1 + v23.1)))))), (5, .o (.c (.v (.int .i64 v25.1))))], [(0, .box 27 [.sl 2, .sl 3, .v (.int .i64 v3.1.Change)]), (2, .row 64 6 (v3.1.Legs.map Leg.enc)), (3, .row 3 1 (v3.1.Off.map encI)), (5, .row 71 4 (v5.1.map Booking.enc))]⟩
def spec_DrawRideAt (a0 : (List Int)) : Option (Network × (List Booking) × Int × Int) :=
  (spec_l1New a0).bind fun v1 =>
  (spec_l3Draw v1 6).bind fun v3 =>
  (spec_l6Any v3.2 v3.1).bind fun v5 =>
  bif (decide ((v5.1.length : Int) > 0)) then
  (spec_l1Once v5.2 2).bind fun v8 =>
  bif v8.1 then
  (spec_l1Below v8.2 (v5.1.length : Int)).bind fun v11 =>
  (gi v5.1 v11.1).bind fun v13 =>
  (spec_StartsAt v3.1 v13.Trip).bind fun v15 =>
  (spec_l1Int v11.2 ([(-1), 0, 1, 60, 1200] : List Int)).bind fun v17 =>
  spec_DrawRideAt_j1 v3 v5 v13 v15 v17
  else
  (spec_l1Below v8.2 12).bind fun v19 =>
  (spec_l4At v19.2).bind fun v21 =>
  some ((Network.mk v3.1.Legs v3.1.Off v3.1.Change), v5.1, w64 (1 + v19.1), v21.1)
  else
  (spec_l1Below v5.2 12).bind fun v23 =>
  (spec_l4At v23.2).bind fun v25 =>
  some ((Network.mk v3.1.Legs v3.1.Off v3.1.Change), v5.1, w64 (1 + v23.1), v25.1)
theorem spec_DrawRideAt_ok (a0 : (List Int)) (r : Network × (List Booking) × Int × Int) (hM : spec_DrawRideAt a0 = some r) :
    Con Try.prog 12 [.c (.rs 1 (a0.map encU8))] [] (.tup [.agg [.sl 1000, .sl 1001, .v (.int .i64 r.1.Change)], .c (.sl 1002), .c (.v (.int .i64 r.2.2.1)), .c (.v (.int .i64 r.2.2.2))]) [] [(1000, .row 64 6 (r.1.Legs.map Leg.enc)), (1001, .row 3 1 (r.1.Off.map encI)), (1002, .row 71 4 (r.2.1.map Booking.enc))] := by
  unfold spec_DrawRideAt at hM
  refine cn (N := 50) (pids := []) Try_mixed Try.func12 (by kernel_rfl) (by kernel_rfl) (by kernel_rfl) rfl fun ρ g w R => ?_
  obtain ⟨v1, h2, hM⟩ := bind_some hM
  obtain ⟨v3, h4, hM⟩ := bind_some hM
  obtain ⟨v5, h6, hM⟩ := bind_some hM
  rcases cond_cases hM with ⟨h7, hM⟩ | ⟨h7, hM⟩
  · obtain ⟨v8, h9, hM⟩ := bind_some hM
    rcases cond_cases hM with ⟨h10, hM⟩ | ⟨h10, hM⟩
    · obtain ⟨v11, h12, hM⟩ := bind_some hM
      obtain ⟨v13, h14, hM⟩ := bind_some hM
      obtain ⟨v15, h16, hM⟩ := bind_some hM
      obtain ⟨v17, h18, hM⟩ := bind_some hM
      have J1 : ∀ (_ : Unit), spec_DrawRideAt_j1 v3 v5 v13 v15 v17 = some r → Gr R [.code .ret, .code (cAt Try.f12 [1, 1, 1, 1, 1])] (spec_DrawRideAt_x1 v3 v5 v13 v15 v17) := by
        intro _ hM
        unfold spec_DrawRideAt_j1 at hM
        have hE : some ((Network.mk v3.1.Legs v3.1.Off v3.1.Change), v5.1, v13.Thing, w64 (v15 + v17.1)) = some r := hM
        have hE := Option.some.inj hE
        subst hE
        exact pr R 9999 [] [.sw 2 1000, .sw 3 1001, .sw 5 1002] [] [1000, 1001, 1002] True.intro (by kernel_rfl)
      exact pc R 16 [.new 0, .call true [] (.o (.c (.ptr 1 0))) [] [(1, .box 87 [.rs 1 (v1.b.map encU8), .v (.int .i64 v1.i), .v (.int .i64 v1.h)])], .call true [1] (.o (.agg [.sl 2, .sl 3, .v (.int .i64 v3.1.Change)])) [(1, .box 87 [.rs 1 (v3.2.b.map encU8), .v (.int .i64 v3.2.i), .v (.int .i64 v3.2.h)])] [(2, .row 64 6 (v3.1.Legs.map Leg.enc)), (3, .row 3 1 (v3.1.Off.map encI))], .new 4, .ad (.keep [0, 2, 3, 4, 5, 6, 7, 10, 11, 12, 13, 14, 15] [1, 2, 3, 0, 4]), .call true [1, 2, 3] (.o (.c (.sl 5))) [(1, .box 87 [.rs 1 (v5.2.b.map encU8), .v (.int .i64 v5.2.i), .v (.int .i64 v5.2.h)]), (2, .row 64 6 (v3.1.Legs.map Leg.enc)), (3, .row 3 1 (v3.1.Off.map encI))] [(5, .row 71 4 (v5.1.map Booking.enc))], .ln (v5.1.length), .as 20 true, .call true [1] (.o (.c (.v (.bool v8.1)))) [(1, .box 87 [.rs 1 (v8.2.b.map encU8), .v (.int .i64 v8.2.i), .v (.int .i64 v8.2.h)])] [], .as 23 true, .ln (v5.1.length), .call true [1] (.o (.c (.v (.int .i64 v11.1)))) [(1, .box 87 [.rs 1 (v11.2.b.map encU8), .v (.int .i64 v11.2.i), .v (.int .i64 v11.2.h)])] [], .ix (Booking.enc v13), .new 6, .xg (spec_DrawRideAt_o1 v15 v17) [.keep [2, 6, 7, 8, 9] [0, 1, 4, 2, 3, 5, 6]] [.keep [2, 3, 4, 5] [0, 2, 3, 5]] (spec_DrawRideAt_x1 v3 v5 v13 v15 v17) [[1, 2, 5, 8], [0, 1, 2, 5, 8], [1, 2, 3, 5, 8], [1, 2, 4, 5, 8], [1, 2, 5, 6, 8], [1, 2, 5, 8, 9], [0, 1, 2, 3, 5, 8], [0, 1, 2, 4, 5, 8], [0, 1, 2, 5, 6, 8], [0, 1, 2, 5, 8, 9], [1, 2, 3, 4, 5, 8], [1, 2, 3, 5, 6, 8], [1, 2, 3, 5, 8, 9], [1, 2, 4, 5, 6, 8], [1, 2, 4, 5, 8, 9], [1, 2, 5, 6, 8, 9], [0, 1, 2, 3, 4, 5, 8], [0, 1, 2, 3, 5, 6, 8], [0, 1, 2, 3, 5, 8, 9], [0, 1, 2, 4, 5, 6, 8], [0, 1, 2, 4, 5, 8, 9], [0, 1, 2, 5, 6, 8, 9], [1, 2, 3, 4, 5, 6, 8], [1, 2, 3, 4, 5, 8, 9], [1, 2, 3, 5, 6, 8, 9], [1, 2, 4, 5, 6, 7, 8], [1, 2, 4, 5, 6, 8, 9], [0, 1, 2, 3, 4, 5, 6, 8], [0, 1, 2, 3, 4, 5, 8, 9], [0, 1, 2, 3, 5, 6, 8, 9], [0, 1, 2, 4, 5, 6, 7, 8], [0, 1, 2, 4, 5, 6, 8, 9], [1, 2, 3, 4, 5, 6, 7, 8], [1, 2, 3, 4, 5, 6, 8, 9], [1, 2, 4, 5, 6, 7, 8, 9], [0, 1, 2, 3, 4, 5, 6, 7, 8], [0, 1, 2, 3, 4, 5, 6, 8, 9], [0, 1, 2, 4, 5, 6, 7, 8, 9], [1, 2, 3, 4, 5, 6, 7, 8, 9], [1, 2, 4, 5, 6, 7, 8, 9, 10, 11], [0, 1, 2, 3, 4, 5, 6, 7, 8, 9], [0, 1, 2, 4, 5, 6, 7, 8, 9, 10, 11], [1, 2, 3, 4, 5, 6, 7, 8, 9, 10, 11], [0, 1, 2, 3, 4, 5, 6, 7, 8, 9, 10, 11], [0, 1, 2, 4, 5, 6, 7, 8, 9, 10, 11, 12, 13]]] [] (And.intro (And.intro (con_sw 1000 1 (spec_l1New_ok a0 v1 h2)) (rfl : ([] : List Nat) = [])) (And.intro (And.intro (con_sw 900 1 (con_sw 1001 3 (con_sw 1000 2 (spec_l3Draw_ok v1 6 v3 h4)))) (rfl : ([1] : List Nat) = [1])) (And.intro (And.intro (con_sw 921 3 (con_sw 901 2 (con_sw 900 1 (con_sw 1000 5 (spec_l6Any_ok v3.2 v3.1 v5 h6))))) (rfl : ([1, 2, 3] : List Nat) = [1, 2, 3])) (And.intro (lenm Booking.enc v5.1) (And.intro h7 (And.intro (And.intro (con_sw 900 1 (spec_l1Once_ok v5.2 2 v8 h9)) (rfl : ([1] : List Nat) = [1])) (And.intro h10 (And.intro (lenm Booking.enc v5.1) (And.intro (And.intro (con_sw 900 1 (spec_l1Below_ok v8.2 (v5.1.length : Int) v11 h12)) (rfl : ([1] : List Nat) = [1])) (And.intro (gi_lt Booking.enc h14) (And.intro ((gi_map Booking.enc h14).2) (And.intro (spec_DrawRideAt_y1 v3 v5 v11 v13 v15 v17 [1, 2, 5, 8]) (And.intro (spec_DrawRideAt_y1 v3 v5 v11 v13 v15 v17 [0, 1, 2, 5, 8]) (And.intro (spec_DrawRideAt_y1 v3 v5 v11 v13 v15 v17 [1, 2, 3, 5, 8]) (And.intro (spec_DrawRideAt_y1 v3 v5 v11 v13 v15 v17 [1, 2, 4, 5, 8]) (And.intro (spec_DrawRideAt_y1 v3 v5 v11 v13 v15 v17 [1, 2, 5, 6, 8]) (And.intro (spec_DrawRideAt_y1 v3 v5 v11 v13 v15 v17 [1, 2, 5, 8, 9]) (And.intro (spec_DrawRideAt_y1 v3 v5 v11 v13 v15 v17 [0, 1, 2, 3, 5, 8]) (And.intro (spec_DrawRideAt_y1 v3 v5 v11 v13 v15 v17 [0, 1, 2, 4, 5, 8]) (And.intro (spec_DrawRideAt_y1 v3 v5 v11 v13 v15 v17 [0, 1, 2, 5, 6, 8]) (And.intro (spec_DrawRideAt_y1 v3 v5 v11 v13 v15 v17 [0, 1, 2, 5, 8, 9]) (And.intro (spec_DrawRideAt_y1 v3 v5 v11 v13 v15 v17 [0, 1, 2, 3, 5, 8]) (And.intro (spec_DrawRideAt_y1 v3 v5 v11 v13 v15 v17 [1, 2, 3, 4, 5, 8]) (And.intro (spec_DrawRideAt_y1 v3 v5 v11 v13 v15 v17 [1, 2, 3, 5, 6, 8]) (And.intro (spec_DrawRideAt_y1 v3 v5 v11 v13 v15 v17 [1, 2, 3, 5, 8, 9]) (And.intro (spec_DrawRideAt_y1 v3 v5 v11 v13 v15 v17 [0, 1, 2, 4, 5, 8]) (And.intro (spec_DrawRideAt_y1 v3 v5 v11 v13 v15 v17 [1, 2, 3, 4, 5, 8]) (And.intro (spec_DrawRideAt_y1 v3 v5 v11 v13 v15 v17 [1, 2, 4, 5, 6, 8]) (And.intro (spec_DrawRideAt_y1 v3 v5 v11 v13 v15 v17 [1, 2, 4, 5, 8, 9]) (And.intro (spec_DrawRideAt_y1 v3 v5 v11 v13 v15 v17 [0, 1, 2, 5, 6, 8]) (And.intro (spec_DrawRideAt_y1 v3 v5 v11 v13 v15 v17 [1, 2, 3, 5, 6, 8]) (And.intro (spec_DrawRideAt_y1 v3 v5 v11 v13 v15 v17 [1, 2, 4, 5, 6, 8]) (And.intro (spec_DrawRideAt_y1 v3 v5 v11 v13 v15 v17 [1, 2, 5, 6, 8, 9]) (And.intro (spec_DrawRideAt_y1 v3 v5 v11 v13 v15 v17 [0, 1, 2, 5, 8, 9]) (And.intro (spec_DrawRideAt_y1 v3 v5 v11 v13 v15 v17 [1, 2, 3, 5, 8, 9]) (And.intro (spec_DrawRideAt_y1 v3 v5 v11 v13 v15 v17 [1, 2, 4, 5, 8, 9]) (And.intro (spec_DrawRideAt_y1 v3 v5 v11 v13 v15 v17 [1, 2, 5, 6, 8, 9]) (And.intro (spec_DrawRideAt_y1 v3 v5 v11 v13 v15 v17 [0, 1, 2, 3, 4, 5, 8]) (And.intro (spec_DrawRideAt_y1 v3 v5 v11 v13 v15 v17 [0, 1, 2, 3, 5, 6, 8]) (And.intro (spec_DrawRideAt_y1 v3 v5 v11 v13 v15 v17 [0, 1, 2, 3, 5, 8, 9]) (And.intro (spec_DrawRideAt_y1 v3 v5 v11 v13 v15 v17 [0, 1, 2, 3, 4, 5, 8]) (And.intro (spec_DrawRideAt_y1 v3 v5 v11 v13 v15 v17 [0, 1, 2, 4, 5, 6, 8]) (And.intro (spec_DrawRideAt_y1 v3 v5 v11 v13 v15 v17 [0, 1, 2, 4, 5, 8, 9]) (And.intro (spec_DrawRideAt_y1 v3 v5 v11 v13 v15 v17 [0, 1, 2, 3, 5, 6, 8]) (And.intro (spec_DrawRideAt_y1 v3 v5 v11 v13 v15 v17 [0, 1, 2, 4, 5, 6, 8]) (And.intro (spec_DrawRideAt_y1 v3 v5 v11 v13 v15 v17 [0, 1, 2, 5, 6, 8, 9]) (And.intro (spec_DrawRideAt_y1 v3 v5 v11 v13 v15 v17 [0, 1, 2, 3, 5, 8, 9]) (And.intro (spec_DrawRideAt_y1 v3 v5 v11 v13 v15 v17 [0, 1, 2, 4, 5, 8, 9]) (And.intro (spec_DrawRideAt_y1 v3 v5 v11 v13 v15 v17 [0, 1, 2, 5, 6, 8, 9]) (And.intro (spec_DrawRideAt_y1 v3 v5 v11 v13 v15 v17 [0, 1, 2, 3, 4, 5, 8]) (And.intro (spec_DrawRideAt_y1 v3 v5 v11 v13 v15 v17 [1, 2, 3, 4, 5, 6, 8]) (And.intro (spec_DrawRideAt_y1 v3 v5 v11 v13 v15 v17 [1, 2, 3, 4, 5, 8, 9]) (And.intro (spec_DrawRideAt_y1 v3 v5 v11 v13 v15 v17 [0, 1, 2, 3, 5, 6, 8]) (And.intro (spec_DrawRideAt_y1 v3 v5 v11 v13 v15 v17 [1, 2, 3, 4, 5, 6, 8]) (And.intro (spec_DrawRideAt_y1 v3 v5 v11 v13 v15 v17 [1, 2, 3, 5, 6, 8, 9]) (And.intro (spec_DrawRideAt_y1 v3 v5 v11 v13 v15 v17 [0, 1, 2, 3, 5, 8, 9]) (And.intro (spec_DrawRideAt_y1 v3 v5 v11 v13 v15 v17 [1, 2, 3, 4, 5, 8, 9]) (And.intro (spec_DrawRideAt_y1 v3 v5 v11 v13 v15 v17 [1, 2, 3, 5, 6, 8, 9]) (And.intro (spec_DrawRideAt_y1 v3 v5 v11 v13 v15 v17 [0, 1, 2, 4, 5, 6, 8]) (And.intro (spec_DrawRideAt_y1 v3 v5 v11 v13 v15 v17 [1, 2, 3, 4, 5, 6, 8]) (And.intro (spec_StartsAt_ok v3.1 v13.Trip v15 h16) (And.intro (spec_DrawRideAt_y1 v3 v5 v11 v13 v15 v17 [1, 2, 4, 5, 6, 7, 8]) (And.intro (spec_DrawRideAt_y1 v3 v5 v11 v13 v15 v17 [1, 2, 4, 5, 6, 8, 9]) (And.intro (spec_DrawRideAt_y1 v3 v5 v11 v13 v15 v17 [0, 1, 2, 4, 5, 8, 9]) (And.intro (spec_DrawRideAt_y1 v3 v5 v11 v13 v15 v17 [1, 2, 3, 4, 5, 8, 9]) (And.intro (spec_DrawRideAt_y1 v3 v5 v11 v13 v15 v17 [1, 2, 4, 5, 6, 8, 9]) (And.intro (spec_DrawRideAt_y1 v3 v5 v11 v13 v15 v17 [0, 1, 2, 5, 6, 8, 9]) (And.intro (spec_DrawRideAt_y1 v3 v5 v11 v13 v15 v17 [1, 2, 3, 5, 6, 8, 9]) (And.intro (spec_DrawRideAt_y1 v3 v5 v11 v13 v15 v17 [1, 2, 4, 5, 6, 8, 9]) (And.intro (spec_DrawRideAt_y1 v3 v5 v11 v13 v15 v17 [0, 1, 2, 3, 4, 5, 6, 8]) (And.intro (spec_DrawRideAt_y1 v3 v5 v11 v13 v15 v17 [0, 1, 2, 3, 4, 5, 8, 9]) (And.intro (spec_DrawRideAt_y1 v3 v5 v11 v13 v15 v17 [0, 1, 2, 3, 4, 5, 6, 8]) (And.intro (spec_DrawRideAt_y1 v3 v5 v11 v13 v15 v17 [0, 1, 2, 3, 5, 6, 8, 9]) (And.intro (spec_DrawRideAt_y1 v3 v5 v11 v13 v15 v17 [0, 1, 2, 3, 4, 5, 8, 9]) (And.intro (spec_DrawRideAt_y1 v3 v5 v11 v13 v15 v17 [0, 1, 2, 3, 5, 6, 8, 9]) (And.intro (spec_DrawRideAt_y1 v3 v5 v11 v13 v15 v17 [0, 1, 2, 3, 4, 5, 6, 8]) (And.intro (spec_StartsAt_ok v3.1 v13.Trip v15 h16) (And.intro (spec_DrawRideAt_y1 v3 v5 v11 v13 v15 v17 [0, 1, 2, 4, 5, 6, 7, 8]) (And.intro (spec_DrawRideAt_y1 v3 v5 v11 v13 v15 v17 [0, 1, 2, 4, 5, 6, 8, 9]) (And.intro (spec_DrawRideAt_y1 v3 v5 v11 v13 v15 v17 [0, 1, 2, 3, 4, 5, 8, 9]) (And.intro (spec_DrawRideAt_y1 v3 v5 v11 v13 v15 v17 [0, 1, 2, 4, 5, 6, 8, 9]) (And.intro (spec_DrawRideAt_y1 v3 v5 v11 v13 v15 v17 [0, 1, 2, 3, 5, 6, 8, 9]) (And.intro (spec_DrawRideAt_y1 v3 v5 v11 v13 v15 v17 [0, 1, 2, 4, 5, 6, 8, 9]) (And.intro (spec_DrawRideAt_y1 v3 v5 v11 v13 v15 v17 [0, 1, 2, 3, 4, 5, 6, 8]) (And.intro (spec_StartsAt_ok v3.1 v13.Trip v15 h16) (And.intro (spec_DrawRideAt_y1 v3 v5 v11 v13 v15 v17 [1, 2, 3, 4, 5, 6, 7, 8]) (And.intro (spec_DrawRideAt_y1 v3 v5 v11 v13 v15 v17 [1, 2, 3, 4, 5, 6, 8, 9]) (And.intro (spec_DrawRideAt_y1 v3 v5 v11 v13 v15 v17 [0, 1, 2, 3, 4, 5, 8, 9]) (And.intro (spec_DrawRideAt_y1 v3 v5 v11 v13 v15 v17 [1, 2, 3, 4, 5, 6, 8, 9]) (And.intro (spec_DrawRideAt_y1 v3 v5 v11 v13 v15 v17 [0, 1, 2, 3, 5, 6, 8, 9]) (And.intro (spec_DrawRideAt_y1 v3 v5 v11 v13 v15 v17 [1, 2, 3, 4, 5, 6, 8, 9]) (And.intro (spec_DrawRideAt_y1 v3 v5 v11 v13 v15 v17 [0, 1, 2, 4, 5, 6, 7, 8]) (And.intro (spec_DrawRideAt_y1 v3 v5 v11 v13 v15 v17 [1, 2, 3, 4, 5, 6, 7, 8]) (And.intro (spec_DrawRideAt_y1 v3 v5 v11 v13 v15 v17 [1, 2, 4, 5, 6, 7, 8, 9]) (And.intro (spec_DrawRideAt_y1 v3 v5 v11 v13 v15 v17 [0, 1, 2, 4, 5, 6, 8, 9]) (And.intro (spec_DrawRideAt_y1 v3 v5 v11 v13 v15 v17 [1, 2, 3, 4, 5, 6, 8, 9]) (And.intro (spec_StartsAt_ok v3.1 v13.Trip v15 h16) (And.intro (spec_DrawRideAt_y1 v3 v5 v11 v13 v15 v17 [1, 2, 4, 5, 6, 7, 8, 9]) (And.intro (spec_StartsAt_ok v3.1 v13.Trip v15 h16) (And.intro (spec_DrawRideAt_y1 v3 v5 v11 v13 v15 v17 [0, 1, 2, 3, 4, 5, 6, 7, 8]) (And.intro (spec_DrawRideAt_y1 v3 v5 v11 v13 v15 v17 [0, 1, 2, 3, 4, 5, 6, 8, 9]) (And.intro (spec_DrawRideAt_y1 v3 v5 v11 v13 v15 v17 [0, 1, 2, 3, 4, 5, 6, 8, 9]) (And.intro (spec_DrawRideAt_y1 v3 v5 v11 v13 v15 v17 [0, 1, 2, 3, 4, 5, 6, 8, 9]) (And.intro (spec_DrawRideAt_y1 v3 v5 v11 v13 v15 v17 [0, 1, 2, 3, 4, 5, 6, 7, 8]) (And.intro (spec_DrawRideAt_y1 v3 v5 v11 v13 v15 v17 [0, 1, 2, 4, 5, 6, 7, 8, 9]) (And.intro (spec_DrawRideAt_y1 v3 v5 v11 v13 v15 v17 [0, 1, 2, 3, 4, 5, 6, 8, 9]) (And.intro (spec_StartsAt_ok v3.1 v13.Trip v15 h16) (And.intro (spec_DrawRideAt_y1 v3 v5 v11 v13 v15 v17 [0, 1, 2, 4, 5, 6, 7, 8, 9]) (And.intro (spec_DrawRideAt_y1 v3 v5 v11 v13 v15 v17 [0, 1, 2, 3, 4, 5, 6, 7, 8]) (And.intro (spec_DrawRideAt_y1 v3 v5 v11 v13 v15 v17 [1, 2, 3, 4, 5, 6, 7, 8, 9]) (And.intro (spec_DrawRideAt_y1 v3 v5 v11 v13 v15 v17 [0, 1, 2, 3, 4, 5, 6, 8, 9]) (And.intro (spec_StartsAt_ok v3.1 v13.Trip v15 h16) (And.intro (spec_DrawRideAt_y1 v3 v5 v11 v13 v15 v17 [1, 2, 3, 4, 5, 6, 7, 8, 9]) (And.intro (spec_DrawRideAt_y1 v3 v5 v11 v13 v15 v17 [0, 1, 2, 4, 5, 6, 7, 8, 9]) (And.intro (spec_DrawRideAt_y1 v3 v5 v11 v13 v15 v17 [1, 2, 3, 4, 5, 6, 7, 8, 9]) (And.intro (And.intro (con_sw 901 7 (con_sw 900 1 (spec_l1Int_ok v11.2 ([(-1), 0, 1, 60, 1200] : List Int) v17 h18))) (rfl : ([1, 7] : List Nat) = [1, 7])) (And.intro (spec_DrawRideAt_y1 v3 v5 v11 v13 v15 v17 [1, 2, 4, 5, 6, 7, 8, 9, 10, 11]) (And.intro (spec_DrawRideAt_y1 v3 v5 v11 v13 v15 v17 [0, 1, 2, 3, 4, 5, 6, 7, 8, 9]) (And.intro (spec_StartsAt_ok v3.1 v13.Trip v15 h16) (And.intro (spec_DrawRideAt_y1 v3 v5 v11 v13 v15 v17 [0, 1, 2, 3, 4, 5, 6, 7, 8, 9]) (And.intro (spec_DrawRideAt_y1 v3 v5 v11 v13 v15 v17 [0, 1, 2, 3, 4, 5, 6, 7, 8, 9]) (And.intro (And.intro (con_sw 901 7 (con_sw 900 1 (spec_l1Int_ok v11.2 ([(-1), 0, 1, 60, 1200] : List Int) v17 h18))) (rfl : ([1, 7] : List Nat) = [1, 7])) (And.intro (spec_DrawRideAt_y1 v3 v5 v11 v13 v15 v17 [0, 1, 2, 4, 5, 6, 7, 8, 9, 10, 11]) (And.intro (spec_DrawRideAt_y1 v3 v5 v11 v13 v15 v17 [0, 1, 2, 3, 4, 5, 6, 7, 8, 9]) (And.intro (And.intro (con_sw 901 7 (con_sw 900 1 (spec_l1Int_ok v11.2 ([(-1), 0, 1, 60, 1200] : List Int) v17 h18))) (rfl : ([1, 7] : List Nat) = [1, 7])) (And.intro (spec_DrawRideAt_y1 v3 v5 v11 v13 v15 v17 [1, 2, 3, 4, 5, 6, 7, 8, 9, 10, 11]) (And.intro (spec_DrawRideAt_y1 v3 v5 v11 v13 v15 v17 [0, 1, 2, 4, 5, 6, 7, 8, 9, 10, 11]) (And.intro (spec_DrawRideAt_y1 v3 v5 v11 v13 v15 v17 [1, 2, 3, 4, 5, 6, 7, 8, 9, 10, 11]) (And.intro (And.intro (con_sw 901 7 (con_sw 900 1 (spec_l1Int_ok v11.2 ([(-1), 0, 1, 60, 1200] : List Int) v17 h18))) (rfl : ([1, 7] : List Nat) = [1, 7])) (And.intro (spec_DrawRideAt_y1 v3 v5 v11 v13 v15 v17 [0, 1, 2, 3, 4, 5, 6, 7, 8, 9, 10, 11]) (And.intro (spec_DrawRideAt_y1 v3 v5 v11 v13 v15 v17 [0, 1, 2, 3, 4, 5, 6, 7, 8, 9, 10, 11]) (And.intro (spec_DrawRideAt_y1 v3 v5 v11 v13 v15 v17 [0, 1, 2, 4, 5, 6, 7, 8, 9, 10, 11, 12, 13]) (And.intro (spec_DrawRideAt_y1 v3 v5 v11 v13 v15 v17 [0, 1, 2, 3, 4, 5, 6, 7, 8, 9, 10, 11]) (And.intro (rfl : (spec_DrawRideAt_x1 v3 v5 v13 v15 v17) = (spec_DrawRideAt_x1 v3 v5 v13 v15 v17)) (And.intro (rfl : (spec_DrawRideAt_x1 v3 v5 v13 v15 v17) = (spec_DrawRideAt_x1 v3 v5 v13 v15 v17)) True.intro))))))))))))))))))))))))))))))))))))))))))))))))))))))))))))))))))))))))))))))))))))))))))))))))))))))))))))))))))))))))))))))))))))))) (by kernel_rfl) (J1 () hM)
    · obtain ⟨v19, h20, hM⟩ := bind_some hM
      obtain ⟨v21, h22, hM⟩ := bind_some hM
      have hE : some ((Network.mk v3.1.Legs v3.1.Off v3.1.Change), v5.1, w64 (1 + v19.1), v21.1) = some r := hM
      have hE := Option.some.inj hE
      subst hE
      exact pr R 9999 [.new 0, .call true [] (.o (.c (.ptr 1 0))) [] [(1, .box 87 [.rs 1 (v1.b.map encU8), .v (.int .i64 v1.i), .v (.int .i64 v1.h)])], .call true [1] (.o (.agg [.sl 2, .sl 3, .v (.int .i64 v3.1.Change)])) [(1, .box 87 [.rs 1 (v3.2.b.map encU8), .v (.int .i64 v3.2.i), .v (.int .i64 v3.2.h)])] [(2, .row 64 6 (v3.1.Legs.map Leg.enc)), (3, .row 3 1 (v3.1.Off.map encI))], .new 4, .ad (.keep [0, 2, 3, 4, 5, 6, 7, 10, 11, 12, 13, 14, 15] [1, 2, 3, 0, 4]), .call true [1, 2, 3] (.o (.c (.sl 5))) [(1, .box 87 [.rs 1 (v5.2.b.map encU8), .v (.int .i64 v5.2.i), .v (.int .i64 v5.2.h)]), (2, .row 64 6 (v3.1.Legs.map Leg.enc)), (3, .row 3 1 (v3.1.Off.map encI))] [(5, .row 71 4 (v5.1.map Booking.enc))], .ln (v5.1.length), .as 20 true, .call true [1] (.o (.c (.v (.bool v8.1)))) [(1, .box 87 [.rs 1 (v8.2.b.map encU8), .v (.int .i64 v8.2.i), .v (.int .i64 v8.2.h)])] [], .as 23 false, .xo [[], [], [], [.call true [1] (.o (.c (.v (.int .i64 v19.1)))) [(1, .box 87 [.rs 1 (v19.2.b.map encU8), .v (.int .i64 v19.2.i), .v (.int .i64 v19.2.h)])] []], [], [], [.call true [1] (.o (.c (.v (.int .i64 v21.1)))) [(1, .box 87 [.rs 1 (v21.2.b.map encU8), .v (.int .i64 v21.2.i), .v (.int .i64 v21.2.h)])] []], [], [], [], []] [.keep [2, 3, 4, 5] [0, 2, 3, 5]] (spec_DrawRideAt_x2 v3 v5 v19 v21)] [.sw 2 1000, .sw 3 1001, .sw 5 1002] [] [1000, 1001, 1002] (And.intro (And.intro (con_sw 1000 1 (spec_l1New_ok a0 v1 h2)) (rfl : ([] : List Nat) = [])) (And.intro (And.intro (con_sw 900 1 (con_sw 1001 3 (con_sw 1000 2 (spec_l3Draw_ok v1 6 v3 h4)))) (rfl : ([1] : List Nat) = [1])) (And.intro (And.intro (con_sw 921 3 (con_sw 901 2 (con_sw 900 1 (con_sw 1000 5 (spec_l6Any_ok v3.2 v3.1 v5 h6))))) (rfl : ([1, 2, 3] : List Nat) = [1, 2, 3])) (And.intro (lenm Booking.enc v5.1) (And.intro h7 (And.intro (And.intro (con_sw 900 1 (spec_l1Once_ok v5.2 2 v8 h9)) (rfl : ([1] : List Nat) = [1])) (And.intro h10 (And.intro (And.intro (con_sw 900 1 (spec_l1Below_ok v8.2 12 v19 h20)) (rfl : ([1] : List Nat) = [1])) (And.intro (And.intro (con_sw 900 1 (spec_l4At_ok v19.2 v21 h22)) (rfl : ([1] : List Nat) = [1])) (And.intro (rfl : (spec_DrawRideAt_x2 v3 v5 v19 v21) = (spec_DrawRideAt_x2 v3 v5 v19 v21)) (And.intro (And.intro (con_sw 900 1 (spec_l1Below_ok v8.2 12 v19 h20)) (rfl : ([1] : List Nat) = [1])) (And.intro (And.intro (con_sw 900 1 (spec_l4At_ok v19.2 v21 h22)) (rfl : ([1] : List Nat) = [1])) (And.intro (rfl : (spec_DrawRideAt_x2 v3 v5 v19 v21) = (spec_DrawRideAt_x2 v3 v5 v19 v21)) (And.intro (And.intro (con_sw 900 1 (spec_l4At_ok v19.2 v21 h22)) (rfl : ([1] : List Nat) = [1])) (And.intro (rfl : (spec_DrawRideAt_x2 v3 v5 v19 v21) = (spec_DrawRideAt_x2 v3 v5 v19 v21)) True.intro))))))))))))))) (by kernel_rfl)
  · obtain ⟨v23, h24, hM⟩ := bind_some hM
    obtain ⟨v25, h26, hM⟩ := bind_some hM
    have hE : some ((Network.mk v3.1.Legs v3.1.Off v3.1.Change), v5.1, w64 (1 + v23.1), v25.1) = some r := hM
    have hE := Option.some.inj hE
    subst hE
    exact pr R 9999 [.new 0, .call true [] (.o (.c (.ptr 1 0))) [] [(1, .box 87 [.rs 1 (v1.b.map encU8), .v (.int .i64 v1.i), .v (.int .i64 v1.h)])], .call true [1] (.o (.agg [.sl 2, .sl 3, .v (.int .i64 v3.1.Change)])) [(1, .box 87 [.rs 1 (v3.2.b.map encU8), .v (.int .i64 v3.2.i), .v (.int .i64 v3.2.h)])] [(2, .row 64 6 (v3.1.Legs.map Leg.enc)), (3, .row 3 1 (v3.1.Off.map encI))], .new 4, .ad (.keep [0, 2, 3, 4, 5, 6, 7, 10, 11, 12, 13, 14, 15] [1, 2, 3, 0, 4]), .call true [1, 2, 3] (.o (.c (.sl 5))) [(1, .box 87 [.rs 1 (v5.2.b.map encU8), .v (.int .i64 v5.2.i), .v (.int .i64 v5.2.h)]), (2, .row 64 6 (v3.1.Legs.map Leg.enc)), (3, .row 3 1 (v3.1.Off.map encI))] [(5, .row 71 4 (v5.1.map Booking.enc))], .ln (v5.1.length), .as 20 false, .xo [[], [], [], [.call true [1] (.o (.c (.v (.int .i64 v23.1)))) [(1, .box 87 [.rs 1 (v23.2.b.map encU8), .v (.int .i64 v23.2.i), .v (.int .i64 v23.2.h)])] []], [], [], [.call true [1] (.o (.c (.v (.int .i64 v25.1)))) [(1, .box 87 [.rs 1 (v25.2.b.map encU8), .v (.int .i64 v25.2.i), .v (.int .i64 v25.2.h)])] []], [], [], [], []] [.keep [2, 3, 4, 5] [0, 2, 3, 5]] (spec_DrawRideAt_x3 v3 v5 v23 v25)] [.sw 2 1000, .sw 3 1001, .sw 5 1002] [] [1000, 1001, 1002] (And.intro (And.intro (con_sw 1000 1 (spec_l1New_ok a0 v1 h2)) (rfl : ([] : List Nat) = [])) (And.intro (And.intro (con_sw 900 1 (con_sw 1001 3 (con_sw 1000 2 (spec_l3Draw_ok v1 6 v3 h4)))) (rfl : ([1] : List Nat) = [1])) (And.intro (And.intro (con_sw 921 3 (con_sw 901 2 (con_sw 900 1 (con_sw 1000 5 (spec_l6Any_ok v3.2 v3.1 v5 h6))))) (rfl : ([1, 2, 3] : List Nat) = [1, 2, 3])) (And.intro (lenm Booking.enc v5.1) (And.intro h7 (And.intro (And.intro (con_sw 900 1 (spec_l1Below_ok v5.2 12 v23 h24)) (rfl : ([1] : List Nat) = [1])) (And.intro (And.intro (con_sw 900 1 (spec_l4At_ok v23.2 v25 h26)) (rfl : ([1] : List Nat) = [1])) (And.intro (rfl : (spec_DrawRideAt_x3 v3 v5 v23 v25) = (spec_DrawRideAt_x3 v3 v5 v23 v25)) (And.intro (And.intro (con_sw 900 1 (spec_l1Below_ok v5.2 12 v23 h24)) (rfl : ([1] : List Nat) = [1])) (And.intro (And.intro (con_sw 900 1 (spec_l4At_ok v23.2 v25 h26)) (rfl : ([1] : List Nat) = [1])) (And.intro (rfl : (spec_DrawRideAt_x3 v3 v5 v23 v25) = (spec_DrawRideAt_x3 v3 v5 v23 v25)) (And.intro (And.intro (con_sw 900 1 (spec_l4At_ok v23.2 v25 h26)) (rfl : ([1] : List Nat) = [1])) (And.intro (rfl : (spec_DrawRideAt_x3 v3 v5 v23 v25) = (spec_DrawRideAt_x3 v3 v5 v23 v25)) True.intro))))))))))))) (by kernel_rfl)

-- loop.example/g03014/impl.compareInts
def impl_compareInts (a0 : Int) (a1 : Int) : Option Int :=
  bif (decide (a0 < a1)) then
  some (-1)
  else
  bif (decide (a0 > a1)) then
  some 1
  else
  some 0
theorem impl_compareInts_ok (a0 : Int) (a1 : Int) (r : Int) (hM : impl_compareInts a0 a1 = some r) :
    Con Try.prog 93 [.c (.v (.int .i64 a0)), .c (.v (.int .i64 a1))] [] (.o (.c (.v (.int .i64 r)))) [] [] := by
  unfold impl_compareInts at hM
  refine cn (N := 13) (pids := []) Try_mixed Try.func93 (by kernel_rfl) (by kernel_rfl) (by kernel_rfl) rfl fun ρ g w R => ?_
  rcases cond_cases hM with ⟨h1, hM⟩ | ⟨h1, hM⟩
  · have hE : some (-1) = some r := hM
    have hE := Option.some.inj hE
    subst hE
    exact pr R 9999 [.as 5 true] [] [] [] (And.intro h1 True.intro) (by kernel_rfl)
  · rcases cond_cases hM with ⟨h2, hM⟩ | ⟨h2, hM⟩
    · have hE : some 1 = some r := hM
      have hE := Option.some.inj hE
      subst hE
      exact pr R 9999 [.as 5 false, .as 9 true] [] [] [] (And.intro h1 (And.intro h2 True.intro)) (by kernel_rfl)
    · have hE : some 0 = some r := hM
      have hE := Option.some.inj hE
      subst hE
      exact pr R 9999 [.as 5 false, .as 9 false] [] [] [] (And.intro h1 (And.intro h2 True.intro)) (by kernel_rfl)

-- loop.example/g03014/impl.first
def impl_first_L1_b (a0 : (List Int)) (s1 : Int) : Option (Ctl Int Unit Int) :=
  bif (decide (s1 < (a0.length : Int))) then
  (gi a0 s1).bind fun v3 =>
  bif (v3 != 0) then
  some (.ret v3)
  else
  some (.next (w64 (s1 + 1)))
  else
  some (.brk ())
def impl_first_L1 (a0 : (List Int)) (s : Int) : Option (Ctl Int Unit Int) := impl_first_L1_b a0 s
def impl_first_L1_s (a0 : (List Int)) (s1 : Int) : St := ⟨[(5, .o (.c (.rs 1 (a0.map encI)))), (6, .o (.c (.v (.int .i64 (a0.length : Int))))), (7, .o (.c (.v (.int .i64 s1))))], []⟩
def impl_first_L1_S (a0 : (List Int)) (s : Int) : St := impl_first_L1_s a0 s
def impl_first_L1_a : Option Int :=
  some 0
def impl_first_L1_k (x : (Unit) ⊕ (Int)) : Option Int := match x with
  | .inl t => impl_first_L1_a
  | .inr y => some y
def impl_first (a0 : (List Int)) : Option Int :=
  (loopM (impl_first_L1 a0) big 0).bind (impl_first_L1_k)
theorem impl_first_ok (a0 : (List Int)) (r : Int) (hM : impl_first a0 = some r) :
    Con Try.prog 92 [.c (.rs 1 (a0.map encI))] [] (.o (.c (.v (.int .i64 r)))) [] [] := by
  unfold impl_first at hM
  refine cn (N := 15) (pids := []) Try_mixed Try.func92 (by kernel_rfl) (by kernel_rfl) (by kernel_rfl) rfl fun ρ g w R => ?_
  have K1 : ∀ (_ : Unit), impl_first_L1_a = some r → Gr R [.code (cAt Try.f92 [1, 1])] (⟨[], []⟩) := by
    intro _ hM
    unfold impl_first_L1_a at hM
    have hE : some 0 = some r := hM
    have hE := Option.some.inj hE
    subst hE
    exact pr R 9999 [] [] [] [] True.intro (by kernel_rfl)
  refine pc R 9999 [.ln (a0.length)] [.keep [5, 6, 7] []] (k' := [.code (.loop (cAt Try.f92 [1, 0, 1, 0, 0])), .blk 0, .code (cAt Try.f92 [1, 1])]) (S' := impl_first_L1_S a0 0) (And.intro (lenm encI a0) True.intro) (by kernel_rfl) ?_
  refine lq (impl_first_L1_S a0) (body := impl_first_L1 a0) (k := impl_first_L1_k) hM fun m1 s c1 hM hK1 => ?_
  obtain ⟨s1, hs⟩ : ∃ z, z = s := ⟨_, rfl⟩
  subst hs
  have hM : impl_first_L1_b a0 s1 = some c1 := hM
  unfold impl_first_L1_b at hM
  rcases cond_cases hM with ⟨h2, hM⟩ | ⟨h2, hM⟩
  · obtain ⟨v3, h4, hM⟩ := bind_some hM
    rcases cond_cases hM with ⟨h5, hM⟩ | ⟨h5, hM⟩
    · have hE : some (Ctl.ret v3) = some c1 := hM
      have hE := Option.some.inj hE
      subst hE
      have hE : some v3 = some r := hK1
      have hE := Option.some.inj hE
      subst hE
      exact pr R 9999 [.as 8 true, .ix (encI v3), .as 12 true] [] [] [] (And.intro h2 (And.intro (gi_map encI h4) (And.intro h5 True.intro))) (by kernel_rfl)
    · have hE : some (Ctl.next (w64 (s1 + 1))) = some c1 := hM
      have hE := Option.some.inj hE
      subst hE
      exact pc R 9999 [.as 8 true, .ix (encI v3), .as 12 false] [.keep [5, 6, 7] []] (And.intro h2 (And.intro (gi_map encI h4) (And.intro h5 True.intro))) (by kernel_rfl) (li (Sf := impl_first_L1_S a0) (M := Mk (impl_first_L1 a0) (impl_first_L1_k) r) (k := [.blk 0, .code (cAt Try.f92 [1, 1])]) (Nat.lt_succ_self m1) hK1)
  · have hE : some (Ctl.brk ()) = some c1 := hM
    have hE := Option.some.inj hE
    subst hE
    exact pc R 5 [.as 8 false] [.keep [] []] (And.intro h2 True.intro) (by kernel_rfl) (K1 () hK1)

-- loop.example/g03014/impl.compareBookings
def impl_compareBookings (a0 : Booking) (a1 : Booking) : Option Int :=
  (impl_compareInts a0.Trip.Day a1.Trip.Day).bind fun v1 =>
  (impl_compareInts a0.Trip.Leg a1.Trip.Leg).bind fun v3 =>
  (impl_compareInts a0.Thing a1.Thing).bind fun v5 =>
  (impl_first ([v1, v3, v5] : List Int)).bind fun v7 =>
  some v7
theorem impl_compareBookings_ok (a0 : Booking) (a1 : Booking) (r : Int) (hM : impl_compareBookings a0 a1 = some r) :
    Con Try.prog 74 [.c (.v (.agg (Booking.enc a0).toArray)), .c (.v (.agg (Booking.enc a1).toArray))] [] (.o (.c (.v (.int .i64 r)))) [] [] := by
  unfold impl_compareBookings at hM
  refine cn (N := 26) (pids := []) Try_mixed Try.func74 (by kernel_rfl) (by kernel_rfl) (by kernel_rfl) rfl fun ρ g w R => ?_
  obtain ⟨v1, h2, hM⟩ := bind_some hM
  obtain ⟨v3, h4, hM⟩ := bind_some hM
  obtain ⟨v5, h6, hM⟩ := bind_some hM
  obtain ⟨v7, h8, hM⟩ := bind_some hM
  have hE : some v7 = some r := hM
  have hE := Option.some.inj hE
  subst hE
  exact pr R 9999 [.new 0, .new 1, .call false [] (.o (.c (.v (.int .i64 v1)))) [] [], .call false [] (.o (.c (.v (.int .i64 v3)))) [] [], .call false [] (.o (.c (.v (.int .i64 v5)))) [] [], .new 2, .call false [] (.o (.c (.v (.int .i64 v7)))) [] []] [] [] [] (And.intro (impl_compareInts_ok a0.Trip.Day a1.Trip.Day v1 h2) (And.intro (impl_compareInts_ok a0.Trip.Leg a1.Trip.Leg v3 h4) (And.intro (impl_compareInts_ok a0.Thing a1.Thing v5 h6) (And.intro (impl_first_ok ([v1, v3, v5] : List Int) v7 h8) True.intro)))) (by kernel_rfl)

-- loop.example/g03014/impl.RunsOn
def impl_RunsOn (a0 : Network) (a1 : Int) (a2 : Int) : Option Bool :=
  (impl_IsNetwork a0).bind fun v1 =>
  bif v1 then
  (impl_runs a0 a1 a2).bind fun v4 =>
  some v4
  else
  some false
theorem impl_RunsOn_ok (a0 : Network) (a1 : Int) (a2 : Int) (r : Bool) (hM : impl_RunsOn a0 a1 a2 = some r) :
    Con Try.prog 78 [.agg [.rs 6 (a0.Legs.map Leg.enc), .rs 1 (a0.Off.map encI), .v (.int .i64 a0.Change)], .c (.v (.int .i64 a1)), .c (.v (.int .i64 a2))] [] (.o (.c (.v (.bool r)))) [] [] := by
  unfold impl_RunsOn at hM
  refine cn (N := 15) (pids := []) Try_mixed Try.func78 (by kernel_rfl) (by kernel_rfl) (by kernel_rfl) rfl fun ρ g w R => ?_
  obtain ⟨v1, h2, hM⟩ := bind_some hM
  rcases cond_cases hM with ⟨h3, hM⟩ | ⟨h3, hM⟩
  · obtain ⟨v4, h5, hM⟩ := bind_some hM
    have hE : some v4 = some r := hM
    have hE := Option.some.inj hE
    subst hE
    exact pr R 9999 [.new 0, .call false [] (.o (.c (.v (.bool v1)))) [] [], .as 9 true, .call false [] (.o (.c (.v (.bool v4)))) [] []] [] [] [] (And.intro (impl_IsNetwork_ok a0 v1 h2) (And.intro h3 (And.intro (impl_runs_ok a0 a1 a2 v4 h5) True.intro))) (by kernel_rfl)
  · have hE : some false = some r := hM
    have hE := Option.some.inj hE
    subst hE
    exact pr R 9999 [.new 0, .call false [] (.o (.c (.v (.bool v1)))) [] [], .as 9 false] [] [] [] (And.intro (impl_IsNetwork_ok a0 v1 h2) (And.intro h3 True.intro)) (by kernel_rfl)

-- loop.example/g03014/impl.IsTrip
def impl_IsTrip (a0 : Network) (a1 : Trip) : Option Bool :=
  (impl_RunsOn a0 a1.Leg a1.Day).bind fun v1 =>
  some v1
theorem impl_IsTrip_ok (a0 : Network) (a1 : Trip) (r : Bool) (hM : impl_IsTrip a0 a1 = some r) :
    Con Try.prog 54 [.agg [.rs 6 (a0.Legs.map Leg.enc), .rs 1 (a0.Off.map encI), .v (.int .i64 a0.Change)], .c (.v (.agg (Trip.enc a1).toArray))] [] (.o (.c (.v (.bool r)))) [] [] := by
  unfold impl_IsTrip at hM
  refine cn (N := 11) (pids := []) Try_mixed Try.func54 (by kernel_rfl) (by kernel_rfl) (by kernel_rfl) rfl fun ρ g w R => ?_
  obtain ⟨v1, h2, hM⟩ := bind_some hM
  have hE : some v1 = some r := hM
  have hE := Option.some.inj hE
  subst hE
  exact pr R 9999 [.new 0, .new 1, .call false [] (.o (.c (.v (.bool v1)))) [] []] [] [] [] (And.intro (impl_RunsOn_ok a0 a1.Leg a1.Day v1 h2) True.intro) (by kernel_rfl)

-- loop.example/g03014/impl.LoadOf
def impl_LoadOf_L1_b (a0 : (List Booking)) (a1 : Trip) (s1 : Int) (s2 : Int) : Option (Ctl (Int × Int) Int Int) :=
  bif (decide (s2 < (a0.length : Int))) then
  (gi a0 s2).bind fun v5 =>
  bif (decide (v5.Trip = a1)) then
  some (.next (w64 (s1 + v5.Weight), w64 (s2 + 1)))
  else
  some (.next (s1, w64 (s2 + 1)))
  else
  some (.brk s1)
def impl_LoadOf_L1 (a0 : (List Booking)) (a1 : Trip) (s : Int × Int) : Option (Ctl (Int × Int) Int Int) := impl_LoadOf_L1_b a0 a1 s.1 s.2
def impl_LoadOf_L1_s (a0 : (List Booking)) (a1 : Trip) (s1 : Int) (s2 : Int) : St := ⟨[(3, .o (.c (.ptr 0 0))), (5, .o (.c (.v (.int .i64 s1)))), (8, .o (.c (.rs 4 (a0.map Booking.enc)))), (9, .o (.c (.v (.int .i64 (a0.length : Int))))), (10, .o (.c (.v (.int .i64 s2))))], [(0, .box 32 [.v (.int .i64 a1.Leg), .v (.int .i64 a1.Day)])]⟩
def impl_LoadOf_L1_S (a0 : (List Booking)) (a1 : Trip) (s : Int × Int) : St := impl_LoadOf_L1_s a0 a1 s.1 s.2
def impl_LoadOf_L1_a (s3 : Int) : Option Int :=
  some s3
def impl_LoadOf_L1_k (x : (Int) ⊕ (Int)) : Option Int := match x with
  | .inl t => impl_LoadOf_L1_a t
  | .inr y => some y
def impl_LoadOf (a0 : (List Booking)) (a1 : Trip) : Option Int :=
  (loopM (impl_LoadOf_L1 a0 a1) big (0, 0)).bind (impl_LoadOf_L1_k)
theorem impl_LoadOf_ok (a0 : (List Booking)) (a1 : Trip) (r : Int) (hM : impl_LoadOf a0 a1 = some r) :
    Con Try.prog 21 [.c (.rs 4 (a0.map Booking.enc)), .c (.v (.agg (Trip.enc a1).toArray))] [] (.o (.c (.v (.int .i64 r)))) [] [] := by
  unfold impl_LoadOf at hM
  refine cn (N := 24) (pids := []) Try_mixed Try.func21 (by kernel_rfl) (by kernel_rfl) (by kernel_rfl) rfl fun ρ g w R => ?_
  have K1 : ∀ (s3 : Int), impl_LoadOf_L1_a s3 = some r → Gr R [.code (cAt Try.f21 [1, 1, 1])] (⟨[(5, .o (.c (.v (.int .i64 s3))))], []⟩) := by
    intro s3 hM
    unfold impl_LoadOf_L1_a at hM
    have hE : some s3 = some r := hM
    have hE := Option.some.inj hE
    subst hE
    exact pr R 9999 [] [] [] [] True.intro (by kernel_rfl)
  refine pc R 9999 [.new 0, .ln (a0.length)] [.keep [3, 5, 8, 9, 10] [0]] (k' := [.code (.loop (cAt Try.f21 [1, 1, 0, 1, 0, 0])), .blk 0, .code (cAt Try.f21 [1, 1, 1])]) (S' := impl_LoadOf_L1_S a0 a1 (0, 0)) (And.intro (lenm Booking.enc a0) True.intro) (by kernel_rfl) ?_
  refine lq (impl_LoadOf_L1_S a0 a1) (body := impl_LoadOf_L1 a0 a1) (k := impl_LoadOf_L1_k) hM fun m1 s c1 hM hK1 => ?_
  obtain ⟨s1, s2⟩ := s
  have hM : impl_LoadOf_L1_b a0 a1 s1 s2 = some c1 := hM
  unfold impl_LoadOf_L1_b at hM
  rcases cond_cases hM with ⟨h4, hM⟩ | ⟨h4, hM⟩
  · obtain ⟨v5, h6, hM⟩ := bind_some hM
    rcases cond_cases hM with ⟨h7, hM⟩ | ⟨h7, hM⟩
    · have hE : some (Ctl.next (w64 (s1 + v5.Weight), w64 (s2 + 1))) = some c1 := hM
      have hE := Option.some.inj hE
      subst hE
      exact pc R 9999 [.as 11 true, .ix (Booking.enc v5), .new 1, .run 17 (.bool (decide (v5.Trip = a1))), .as 17 true] [.keep [3, 5, 8, 9, 10] [0]] (And.intro h4 (And.intro (gi_map Booking.enc h6) (And.intro (Trip_eql32 v5.Trip a1) (And.intro h7 True.intro)))) (by kernel_rfl) (li (Sf := impl_LoadOf_L1_S a0 a1) (M := Mk (impl_LoadOf_L1 a0 a1) (impl_LoadOf_L1_k) r) (k := [.blk 0, .code (cAt Try.f21 [1, 1, 1])]) (Nat.lt_succ_self m1) hK1)
    · have hE : some (Ctl.next (s1, w64 (s2 + 1))) = some c1 := hM
      have hE := Option.some.inj hE
      subst hE
      exact pc R 9999 [.as 11 true, .ix (Booking.enc v5), .new 1, .run 17 (.bool (decide (v5.Trip = a1))), .as 17 false] [.keep [3, 5, 8, 9, 10] [0]] (And.intro h4 (And.intro (gi_map Booking.enc h6) (And.intro (Trip_eql32 v5.Trip a1) (And.intro h7 True.intro)))) (by kernel_rfl) (li (Sf := impl_LoadOf_L1_S a0 a1) (M := Mk (impl_LoadOf_L1 a0 a1) (impl_LoadOf_L1_k) r) (k := [.blk 0, .code (cAt Try.f21 [1, 1, 1])]) (Nat.lt_succ_self m1) hK1)
  · have hE : some (Ctl.brk s1) = some c1 := hM
    have hE := Option.some.inj hE
    subst hE
    exact pc R 5 [.as 11 false] [.keep [5] []] (And.intro h4 True.intro) (by kernel_rfl) (K1 s1 hK1)

-- loop.example/g03014/impl.AreBookings
def impl_AreBookings_L1_b (a0 : Network) (a1 : (List Booking)) (s5 : Int) : Option (Ctl Int Unit Bool) :=
  bif (decide (s5 < (a1.length : Int))) then
  (gi a1 s5).bind fun v7 =>
  bif (decide (s5 > 0)) then
  (gi a1 (w64 (s5 - 1))).bind fun v10 =>
  (impl_compareBookings v10 v7).bind fun v12 =>
  bif (decide (v12 ≥ 0)) then
  some (.ret false)
  else
  (impl_IsTrip a0 v7.Trip).bind fun v15 =>
  bif (!v15) then
  some (.ret false)
  else
  (impl_within v7.Thing 1 9999).bind fun v18 =>
  bif (!v18) then
  some (.ret false)
  else
  (impl_within v7.Weight 1 1000000).bind fun v21 =>
  bif (!v21) then
  some (.ret false)
  else
  (impl_LoadOf a1 v7.Trip).bind fun v24 =>
  (gi a0.Legs v7.Trip.Leg).bind fun v26 =>
  bif (decide (v24 > v26.Room)) then
  some (.ret false)
  else
  some (.next (w64 (s5 + 1)))
  else
  (impl_IsTrip a0 v7.Trip).bind fun v29 =>
  bif (!v29) then
  some (.ret false)
  else
  (impl_within v7.Thing 1 9999).bind fun v32 =>
  bif (!v32) then
  some (.ret false)
  else
  (impl_within v7.Weight 1 1000000).bind fun v35 =>
  bif (!v35) then
  some (.ret false)
  else
  (impl_LoadOf a1 v7.Trip).bind fun v38 =>
  (gi a0.Legs v7.Trip.Leg).bind fun v40 =>
  bif (decide (v38 > v40.Room)) then
  some (.ret false)
  else
  some (.next (w64 (s5 + 1)))
  else
  some (.brk ())
def impl_AreBookings_L1 (a0 : Network) (a1 : (List Booking)) (s : Int) : Option (Ctl Int Unit Bool) := impl_AreBookings_L1_b a0 a1 s
def impl_AreBookings_L1_s (a0 : Network) (a1 : (List Booking)) (s5 : Int) : St := ⟨[(1, .o (.c (.rs 4 (a1.map Booking.enc)))), (2, .o (.c (.ptr 0 0))), (15, .o (.c (.rs 4 (a1.map Booking.enc)))), (16, .o (.c (.v (.int .i64 (a1.length : Int))))), (17, .o (.c (.v (.int .i64 s5))))], [(0, .box 27 [.rs 6 (a0.Legs.map Leg.enc), .rs 1 (a0.Off.map encI), .v (.int .i64 a0.Change)])]⟩
def impl_AreBookings_L1_S (a0 : Network) (a1 : (List Booking)) (s : Int) : St := impl_AreBookings_L1_s a0 a1 s
def impl_AreBookings_L1_a : Option Bool :=
  some true
def impl_AreBookings_L1_k (x : (Unit) ⊕ (Bool)) : Option Bool := match x with
  | .inl t => impl_AreBookings_L1_a
  | .inr y => some y
def impl_AreBookings (a0 : Network) (a1 : (List Booking)) : Option Bool :=
  (impl_IsNetwork a0).bind fun v1 =>
  bif (!v1) then
  some false
  else
  bif (decide ((a1.length : Int) > 120)) then
  some false
  else
  (loopM (impl_AreBookings_L1 a0 a1) big 0).bind (impl_AreBookings_L1_k)
theorem impl_AreBookings_ok (a0 : Network) (a1 : (List Booking)) (r : Bool) (hM : impl_AreBookings a0 a1 = some r) :
    Con Try.prog 48 [.agg [.rs 6 (a0.Legs.map Leg.enc), .rs 1 (a0.Off.map encI), .v (.int .i64 a0.Change)], .c (.rs 4 (a1.map Booking.enc))] [] (.o (.c (.v (.bool r)))) [] [] := by
  unfold impl_AreBookings at hM
  refine cn (N := 69) (pids := []) Try_mixed Try.func48 (by kernel_rfl) (by kernel_rfl) (by kernel_rfl) rfl fun ρ g w R => ?_
  obtain ⟨v1, h2, hM⟩ := bind_some hM
  rcases cond_cases hM with ⟨h3, hM⟩ | ⟨h3, hM⟩
  · have hE : some false = some r := hM
    have hE := Option.some.inj hE
    subst hE
    exact pr R 9999 [.new 0, .call false [] (.o (.c (.v (.bool v1)))) [] [], .as 10 true] [] [] [] (And.intro (impl_IsNetwork_ok a0 v1 h2) (And.intro h3 True.intro)) (by kernel_rfl)
  · rcases cond_cases hM with ⟨h4, hM⟩ | ⟨h4, hM⟩
    · have hE : some false = some r := hM
      have hE := Option.some.inj hE
      subst hE
      exact pr R 9999 [.new 0, .call false [] (.o (.c (.v (.bool v1)))) [] [], .as 10 false, .ln (a1.length), .as 14 true] [] [] [] (And.intro (impl_IsNetwork_ok a0 v1 h2) (And.intro h3 (And.intro (lenm Booking.enc a1) (And.intro h4 True.intro)))) (by kernel_rfl)
    · have K1 : ∀ (_ : Unit), impl_AreBookings_L1_a = some r → Gr R [.code (cAt Try.f48 [1, 1, 1])] (⟨[], []⟩) := by
        intro _ hM
        unfold impl_AreBookings_L1_a at hM
        have hE : some true = some r := hM
        have hE := Option.some.inj hE
        subst hE
        exact pr R 9999 [] [] [] [] True.intro (by kernel_rfl)
      refine pc R 9999 [.new 0, .call false [] (.o (.c (.v (.bool v1)))) [] [], .as 10 false, .ln (a1.length), .as 14 false, .ln (a1.length)] [.keep [1, 2, 15, 16, 17] [0]] (k' := [.code (.loop (cAt Try.f48 [1, 1, 0, 1, 0, 0])), .blk 0, .code (cAt Try.f48 [1, 1, 1])]) (S' := impl_AreBookings_L1_S a0 a1 0) (And.intro (impl_IsNetwork_ok a0 v1 h2) (And.intro h3 (And.intro (lenm Booking.enc a1) (And.intro h4 (And.intro (lenm Booking.enc a1) True.intro))))) (by kernel_rfl) ?_
      refine lq (impl_AreBookings_L1_S a0 a1) (body := impl_AreBookings_L1 a0 a1) (k := impl_AreBookings_L1_k) hM fun m1 s c1 hM hK1 => ?_
      obtain ⟨s5, hs⟩ : ∃ z, z = s := ⟨_, rfl⟩
      subst hs
      have hM : impl_AreBookings_L1_b a0 a1 s5 = some c1 := hM
      unfold impl_AreBookings_L1_b at hM
      rcases cond_cases hM with ⟨h6, hM⟩ | ⟨h6, hM⟩
      · obtain ⟨v7, h8, hM⟩ := bind_some hM
        rcases cond_cases hM with ⟨h9, hM⟩ | ⟨h9, hM⟩
        · obtain ⟨v10, h11, hM⟩ := bind_some hM
          obtain ⟨v12, h13, hM⟩ := bind_some hM
          rcases cond_cases hM with ⟨h14, hM⟩ | ⟨h14, hM⟩
          · have hE : some (Ctl.ret false) = some c1 := hM
            have hE := Option.some.inj hE
            subst hE
            have hE : some false = some r := hK1
            have hE := Option.some.inj hE
            subst hE
            exact pr R 9999 [.as 18 true, .ix (Booking.enc v7), .new 1, .as 24 true, .ix (Booking.enc v10), .call false [] (.o (.c (.v (.int .i64 v12)))) [] [], .as 34 true] [] [] [] (And.intro h6 (And.intro (gi_map Booking.enc h8) (And.intro h9 (And.intro (gi_map Booking.enc h11) (And.intro (impl_compareBookings_ok v10 v7 v12 h13) (And.intro h14 True.intro)))))) (by kernel_rfl)
          · obtain ⟨v15, h16, hM⟩ := bind_some hM
            rcases cond_cases hM with ⟨h17, hM⟩ | ⟨h17, hM⟩
            · have hE : some (Ctl.ret false) = some c1 := hM
              have hE := Option.some.inj hE
              subst hE
              have hE : some false = some r := hK1
              have hE := Option.some.inj hE
              subst hE
              exact pr R 9999 [.as 18 true, .ix (Booking.enc v7), .new 1, .as 24 true, .ix (Booking.enc v10), .call false [] (.o (.c (.v (.int .i64 v12)))) [] [], .as 34 false, .call false [] (.o (.c (.v (.bool v15)))) [] [], .as 41 true] [] [] [] (And.intro h6 (And.intro (gi_map Booking.enc h8) (And.intro h9 (And.intro (gi_map Booking.enc h11) (And.intro (impl_compareBookings_ok v10 v7 v12 h13) (And.intro h14 (And.intro (impl_IsTrip_ok a0 v7.Trip v15 h16) (And.intro h17 True.intro)))))))) (by kernel_rfl)
            · obtain ⟨v18, h19, hM⟩ := bind_some hM
              rcases cond_cases hM with ⟨h20, hM⟩ | ⟨h20, hM⟩
              · have hE : some (Ctl.ret false) = some c1 := hM
                have hE := Option.some.inj hE
                subst hE
                have hE : some false = some r := hK1
                have hE := Option.some.inj hE
                subst hE
                exact pr R 9999 [.as 18 true, .ix (Booking.enc v7), .new 1, .as 24 true, .ix (Booking.enc v10), .call false [] (.o (.c (.v (.int .i64 v12)))) [] [], .as 34 false, .call false [] (.o (.c (.v (.bool v15)))) [] [], .as 41 false, .call false [] (.o (.c (.v (.bool v18)))) [] [], .as 47 true] [] [] [] (And.intro h6 (And.intro (gi_map Booking.enc h8) (And.intro h9 (And.intro (gi_map Booking.enc h11) (And.intro (impl_compareBookings_ok v10 v7 v12 h13) (And.intro h14 (And.intro (impl_IsTrip_ok a0 v7.Trip v15 h16) (And.intro h17 (And.intro (impl_within_ok v7.Thing 1 9999 v18 h19) (And.intro h20 True.intro)))))))))) (by kernel_rfl)
              · obtain ⟨v21, h22, hM⟩ := bind_some hM
                rcases cond_cases hM with ⟨h23, hM⟩ | ⟨h23, hM⟩
                · have hE : some (Ctl.ret false) = some c1 := hM
                  have hE := Option.some.inj hE
                  subst hE
                  have hE : some false = some r := hK1
                  have hE := Option.some.inj hE
                  subst hE
                  exact pr R 9999 [.as 18 true, .ix (Booking.enc v7), .new 1, .as 24 true, .ix (Booking.enc v10), .call false [] (.o (.c (.v (.int .i64 v12)))) [] [], .as 34 false, .call false [] (.o (.c (.v (.bool v15)))) [] [], .as 41 false, .call false [] (.o (.c (.v (.bool v18)))) [] [], .as 47 false, .call false [] (.o (.c (.v (.bool v21)))) [] [], .as 53 true] [] [] [] (And.intro h6 (And.intro (gi_map Booking.enc h8) (And.intro h9 (And.intro (gi_map Booking.enc h11) (And.intro (impl_compareBookings_ok v10 v7 v12 h13) (And.intro h14 (And.intro (impl_IsTrip_ok a0 v7.Trip v15 h16) (And.intro h17 (And.intro (impl_within_ok v7.Thing 1 9999 v18 h19) (And.intro h20 (And.intro (impl_within_ok v7.Weight 1 1000000 v21 h22) (And.intro h23 True.intro)))))))))))) (by kernel_rfl)
                · obtain ⟨v24, h25, hM⟩ := bind_some hM
                  obtain ⟨v26, h27, hM⟩ := bind_some hM
                  rcases cond_cases hM with ⟨h28, hM⟩ | ⟨h28, hM⟩
                  · have hE : some (Ctl.ret false) = some c1 := hM
                    have hE := Option.some.inj hE
                    subst hE
                    have hE : some false = some r := hK1
                    have hE := Option.some.inj hE
                    subst hE
                    exact pr R 9999 [.as 18 true, .ix (Booking.enc v7), .new 1, .as 24 true, .ix (Booking.enc v10), .call false [] (.o (.c (.v (.int .i64 v12)))) [] [], .as 34 false, .call false [] (.o (.c (.v (.bool v15)))) [] [], .as 41 false, .call false [] (.o (.c (.v (.bool v18)))) [] [], .as 47 false, .call false [] (.o (.c (.v (.bool v21)))) [] [], .as 53 false, .call false [] (.o (.c (.v (.int .i64 v24)))) [] [], .ix (Leg.enc v26), .as 67 true] [] [] [] (And.intro h6 (And.intro (gi_map Booking.enc h8) (And.intro h9 (And.intro (gi_map Booking.enc h11) (And.intro (impl_compareBookings_ok v10 v7 v12 h13) (And.intro h14 (And.intro (impl_IsTrip_ok a0 v7.Trip v15 h16) (And.intro h17 (And.intro (impl_within_ok v7.Thing 1 9999 v18 h19) (And.intro h20 (And.intro (impl_within_ok v7.Weight 1 1000000 v21 h22) (And.intro h23 (And.intro (impl_LoadOf_ok a1 v7.Trip v24 h25) (And.intro (gi_map Leg.enc h27) (And.intro h28 True.intro))))))))))))))) (by kernel_rfl)
                  · have hE : some (Ctl.next (w64 (s5 + 1))) = some c1 := hM
                    have hE := Option.some.inj hE
                    subst hE
                    exact pc R 9999 [.as 18 true, .ix (Booking.enc v7), .new 1, .as 24 true, .ix (Booking.enc v10), .call false [] (.o (.c (.v (.int .i64 v12)))) [] [], .as 34 false, .call false [] (.o (.c (.v (.bool v15)))) [] [], .as 41 false, .call false [] (.o (.c (.v (.bool v18)))) [] [], .as 47 false, .call false [] (.o (.c (.v (.bool v21)))) [] [], .as 53 false, .call false [] (.o (.c (.v (.int .i64 v24)))) [] [], .ix (Leg.enc v26), .as 67 false] [.keep [1, 2, 15, 16, 17] [0]] (And.intro h6 (And.intro (gi_map Booking.enc h8) (And.intro h9 (And.intro (gi_map Booking.enc h11) (And.intro (impl_compareBookings_ok v10 v7 v12 h13) (And.intro h14 (And.intro (impl_IsTrip_ok a0 v7.Trip v15 h16) (And.intro h17 (And.intro (impl_within_ok v7.Thing 1 9999 v18 h19) (And.intro h20 (And.intro (impl_within_ok v7.Weight 1 1000000 v21 h22) (And.intro h23 (And.intro (impl_LoadOf_ok a1 v7.Trip v24 h25) (And.intro (gi_map Leg.enc h27) (And.intro h28 True.intro))))))))))))))) (by kernel_rfl) (li (Sf := impl_AreBookings_L1_S a0 a1) (M := Mk (impl_AreBookings_L1 a0 a1) (impl_AreBookings_L1_k) r) (k := [.blk 0, .code (cAt Try.f48 [1, 1, 1])]) (Nat.lt_succ_self m1) hK1)
        · obtain ⟨v29, h30, hM⟩ := bind_some hM
          rcases cond_cases hM with ⟨h31, hM⟩ | ⟨h31, hM⟩
          · have hE : some (Ctl.ret false) = some c1 := hM
            have hE := Option.some.inj hE
            subst hE
            have hE : some false = some r := hK1
            have hE := Option.some.inj hE
            subst hE
            exact pr R 9999 [.as 18 true, .ix (Booking.enc v7), .new 1, .as 24 false, .call false [] (.o (.c (.v (.bool v29)))) [] [], .as 41 true] [] [] [] (And.intro h6 (And.intro (gi_map Booking.enc h8) (And.intro h9 (And.intro (impl_IsTrip_ok a0 v7.Trip v29 h30) (And.intro h31 True.intro))))) (by kernel_rfl)
          · obtain ⟨v32, h33, hM⟩ := bind_some hM
            rcases cond_cases hM with ⟨h34, hM⟩ | ⟨h34, hM⟩
            · have hE : some (Ctl.ret false) = some c1 := hM
              have hE := Option.some.inj hE
              subst hE
              have hE : some false = some r := hK1
              have hE := Option.some.inj hE
              subst hE
              exact pr R 9999 [.as 18 true, .ix (Booking.enc v7), .new 1, .as 24 false, .call false [] (.o (.c (.v (.bool v29)))) [] [], .as 41 false, .call false [] (.o (.c (.v (.bool v32)))) [] [], .as 47 true] [] [] [] (And.intro h6 (And.intro (gi_map Booking.enc h8) (And.intro h9 (And.intro (impl_IsTrip_ok a0 v7.Trip v29 h30) (And.intro h31 (And.intro (impl_within_ok v7.Thing 1 9999 v32 h33) (And.intro h34 True.intro))))))) (by kernel_rfl)
            · obtain ⟨v35, h36, hM⟩ := bind_some hM
              rcases cond_cases hM with ⟨h37, hM⟩ | ⟨h37, hM⟩
              · have hE : some (Ctl.ret false) = some c1 := hM
                have hE := Option.some.inj hE
                subst hE
                have hE : some false = some r := hK1
                have hE := Option.some.inj hE
                subst hE
                exact pr R 9999 [.as 18 true, .ix (Booking.enc v7), .new 1, .as 24 false, .call false [] (.o (.c (.v (.bool v29)))) [] [], .as 41 false, .call false [] (.o (.c (.v (.bool v32)))) [] [], .as 47 false, .call false [] (.o (.c (.v (.bool v35)))) [] [], .as 53 true] [] [] [] (And.intro h6 (And.intro (gi_map Booking.enc h8) (And.intro h9 (And.intro (impl_IsTrip_ok a0 v7.Trip v29 h30) (And.intro h31 (And.intro (impl_within_ok v7.Thing 1 9999 v32 h33) (And.intro h34 (And.intro (impl_within_ok v7.Weight 1 1000000 v35 h36) (And.intro h37 True.intro))))))))) (by kernel_rfl)
              · obtain ⟨v38, h39, hM⟩ := bind_some hM
                obtain ⟨v40, h41, hM⟩ := bind_some hM
                rcases cond_cases hM with ⟨h42, hM⟩ | ⟨h42, hM⟩
                · have hE : some (Ctl.ret false) = some c1 := hM
                  have hE := Option.some.inj hE
                  subst hE
                  have hE : some false = some r := hK1
                  have hE := Option.some.inj hE
                  subst hE
                  exact pr R 9999 [.as 18 true, .ix (Booking.enc v7), .new 1, .as 24 false, .call false [] (.o (.c (.v (.bool v29)))) [] [], .as 41 false, .call false [] (.o (.c (.v (.bool v32)))) [] [], .as 47 false, .call false [] (.o (.c (.v (.bool v35)))) [] [], .as 53 false, .call false [] (.o (.c (.v (.int .i64 v38)))) [] [], .ix (Leg.enc v40), .as 67 true] [] [] [] (And.intro h6 (And.intro (gi_map Booking.enc h8) (And.intro h9 (And.intro (impl_IsTrip_ok a0 v7.Trip v29 h30) (And.intro h31 (And.intro (impl_within_ok v7.Thing 1 9999 v32 h33) (And.intro h34 (And.intro (impl_within_ok v7.Weight 1 1000000 v35 h36) (And.intro h37 (And.intro (impl_LoadOf_ok a1 v7.Trip v38 h39) (And.intro (gi_map Leg.enc h41) (And.intro h42 True.intro)))))))))))) (by kernel_rfl)
                · have hE : some (Ctl.next (w64 (s5 + 1))) = some c1 := hM
                  have hE := Option.some.inj hE
                  subst hE
                  exact pc R 9999 [.as 18 true, .ix (Booking.enc v7), .new 1, .as 24 false, .call false [] (.o (.c (.v (.bool v29)))) [] [], .as 41 false, .call false [] (.o (.c (.v (.bool v32)))) [] [], .as 47 false, .call false [] (.o (.c (.v (.bool v35)))) [] [], .as 53 false, .call false [] (.o (.c (.v (.int .i64 v38)))) [] [], .ix (Leg.enc v40), .as 67 false] [.keep [1, 2, 15, 16, 17] [0]] (And.intro h6 (And.intro (gi_map Booking.enc h8) (And.intro h9 (And.intro (impl_IsTrip_ok a0 v7.Trip v29 h30) (And.intro h31 (And.intro (impl_within_ok v7.Thing 1 9999 v32 h33) (And.intro h34 (And.intro (impl_within_ok v7.Weight 1 1000000 v35 h36) (And.intro h37 (And.intro (impl_LoadOf_ok a1 v7.Trip v38 h39) (And.intro (gi_map Leg.enc h41) (And.intro h42 True.intro)))))))))))) (by kernel_rfl) (li (Sf := impl_AreBookings_L1_S a0 a1) (M := Mk (impl_AreBookings_L1 a0 a1) (impl_AreBookings_L1_k) r) (k := [.blk 0, .code (cAt Try.f48 [1, 1, 1])]) (Nat.lt_succ_self m1) hK1)
      · have hE : some (Ctl.brk ()) = some c1 := hM
        have hE := Option.some.inj hE
        subst hE
        exact pc R 5 [.as 18 false] [.keep [] []] (And.intro h6 True.intro) (by kernel_rfl) (K1 () hK1)

-- loop.example/g03014/impl.RideAt
def impl_RideAt_L1_b (a0 : Network) (a1 : (List Booking)) (a2 : Int) (a3 : Int) (s4 : Int) : Option (Ctl Int Unit (Trip × Bool)) :=
  bif (decide (s4 < (a1.length : Int))) then
  (gi a1 s4).bind fun v6 =>
  bif (v6.Thing == a2) then
  (impl_starts a0 v6.Trip).bind fun v9 =>
  bif (decide (v9 ≤ a3)) then
  (impl_ends a0 v6.Trip).bind fun v12 =>
  bif (decide (a3 < v12)) then
  some (.ret (v6.Trip, true))
  else
  some (.next (w64 (s4 + 1)))
  else
  some (.next (w64 (s4 + 1)))
  else
  some (.next (w64 (s4 + 1)))
  else
  some (.brk ())
def impl_RideAt_L1 (a0 : Network) (a1 : (List Booking)) (a2 : Int) (a3 : Int) (s : Int) : Option (Ctl Int Unit (Trip × Bool)) := impl_RideAt_L1_b a0 a1 a2 a3 s
def impl_RideAt_L1_s (a0 : Network) (a1 : (List Booking)) (a2 : Int) (a3 : Int) (s4 : Int) : St := ⟨[(2, .o (.c (.v (.int .i64 a2)))), (3, .o (.c (.v (.int .i64 a3)))), (4, .o (.c (.ptr 0 0))), (8, .o (.c (.ptr 1 0))), (17, .o (.c (.rs 4 (a1.map Booking.enc)))), (18, .o (.c (.v (.int .i64 (a1.length : Int))))), (19, .o (.c (.v (.int .i64 s4))))], [(0, .box 27 [.rs 6 (a0.Legs.map Leg.enc), .rs 1 (a0.Off.map encI), .v (.int .i64 a0.Change)]), (1, .box 32 [.v (.int .i64 0), .v (.int .i64 0)])]⟩
def impl_RideAt_L1_S (a0 : Network) (a1 : (List Booking)) (a2 : Int) (a3 : Int) (s : Int) : St := impl_RideAt_L1_s a0 a1 a2 a3 s
def impl_RideAt_L1_a : Option (Trip × Bool) :=
  some ((Trip.mk ((Trip.mk 0 0).Leg) ((Trip.mk 0 0).Day)), false)
def impl_RideAt_L1_k (x : (Unit) ⊕ (Trip × Bool)) : Option (Trip × Bool) := match x with
  | .inl t => impl_RideAt_L1_a
  | .inr y => some y
def impl_RideAt (a0 : Network) (a1 : (List Booking)) (a2 : Int) (a3 : Int) : Option (Trip × Bool) :=
  (impl_AreBookings a0 a1).bind fun v1 =>
  bif (!v1) then
  some ((Trip.mk ((Trip.mk 0 0).Leg) ((Trip.mk 0 0).Day)), false)
  else
  (loopM (impl_RideAt_L1 a0 a1 a2 a3) big 0).bind (impl_RideAt_L1_k)
theorem impl_RideAt_ok (a0 : Network) (a1 : (List Booking)) (a2 : Int) (a3 : Int) (r : Trip × Bool) (hM : impl_RideAt a0 a1 a2 a3 = some r) :
    Con Try.prog 13 [.agg [.rs 6 (a0.Legs.map Leg.enc), .rs 1 (a0.Off.map encI), .v (.int .i64 a0.Change)], .c (.rs 4 (a1.map Booking.enc)), .c (.v (.int .i64 a2)), .c (.v (.int .i64 a3))] [] (.tup [.c (.v (.agg (Trip.enc r.1).toArray)), .c (.v (.bool r.2))]) [] [] := by
  unfold impl_RideAt at hM
  refine cn (N := 47) (pids := []) Try_mixed Try.func13 (by kernel_rfl) (by kernel_rfl) (by kernel_rfl) rfl fun ρ g w R => ?_
  obtain ⟨v1, h2, hM⟩ := bind_some hM
  rcases cond_cases hM with ⟨h3, hM⟩ | ⟨h3, hM⟩
  · have hE : some ((Trip.mk ((Trip.mk 0 0).Leg) ((Trip.mk 0 0).Day)), false) = some r := hM
    have hE := Option.some.inj hE
    subst hE
    exact pr R 9999 [.new 0, .new 1, .call false [] (.o (.c (.v (.bool v1)))) [] [], .as 15 true] [] [] [] (And.intro (impl_AreBookings_ok a0 a1 v1 h2) (And.intro h3 True.intro)) (by kernel_rfl)
  · have K1 : ∀ (_ : Unit), impl_RideAt_L1_a = some r → Gr R [.code (cAt Try.f13 [1, 1, 1])] (⟨[(8, .o (.c (.ptr 1 0)))], [(1, .box 32 [.v (.int .i64 0), .v (.int .i64 0)])]⟩) := by
      intro _ hM
      unfold impl_RideAt_L1_a at hM
      have hE : some ((Trip.mk ((Trip.mk 0 0).Leg) ((Trip.mk 0 0).Day)), false) = some r := hM
      have hE := Option.some.inj hE
      subst hE
      exact pr R 9999 [] [] [] [] True.intro (by kernel_rfl)
    refine pc R 9999 [.new 0, .new 1, .call false [] (.o (.c (.v (.bool v1)))) [] [], .as 15 false, .ln (a1.length)] [.keep [2, 3, 4, 8, 17, 18, 19] [0, 1]] (k' := [.code (.loop (cAt Try.f13 [1, 1, 0, 1, 0, 0])), .blk 0, .code (cAt Try.f13 [1, 1, 1])]) (S' := impl_RideAt_L1_S a0 a1 a2 a3 0) (And.intro (impl_AreBookings_ok a0 a1 v1 h2) (And.intro h3 (And.intro (lenm Booking.enc a1) True.intro))) (by kernel_rfl) ?_
    refine lq (impl_RideAt_L1_S a0 a1 a2 a3) (body := impl_RideAt_L1 a0 a1 a2 a3) (k := impl_RideAt_L1_k) hM fun m1 s c1 hM hK1 => ?_
    obtain ⟨s4, hs⟩ : ∃ z, z = s := ⟨_, rfl⟩
    subst hs
    have hM : impl_RideAt_L1_b a0 a1 a2 a3 s4 = some c1 := hM
    unfold impl_RideAt_L1_b at hM
    rcases cond_cases hM with ⟨h5, hM⟩ | ⟨h5, hM⟩
    · obtain ⟨v6, h7, hM⟩ := bind_some hM
      rcases cond_cases hM with ⟨h8, hM⟩ | ⟨h8, hM⟩
      · obtain ⟨v9, h10, hM⟩ := bind_some hM
        rcases cond_cases hM with ⟨h11, hM⟩ | ⟨h11, hM⟩
        · obtain ⟨v12, h13, hM⟩ := bind_some hM
          rcases cond_cases hM with ⟨h14, hM⟩ | ⟨h14, hM⟩
          · have hE : some (Ctl.ret (v6.Trip, true)) = some c1 := hM
            have hE := Option.some.inj hE
            subst hE
            have hE : some (v6.Trip, true) = some r := hK1
            have hE := Option.some.inj hE
            subst hE
            exact pr R 9999 [.as 20 true, .ix (Booking.enc v6), .new 2, .as 27 true, .call false [] (.o (.c (.v (.int .i64 v9)))) [] [], .as 35 true, .call false [] (.o (.c (.v (.int .i64 v12)))) [] [], .as 42 true] [] [] [] (And.intro h5 (And.intro (gi_map Booking.enc h7) (And.intro h8 (And.intro (impl_starts_ok a0 v6.Trip v9 h10) (And.intro h11 (And.intro (impl_ends_ok a0 v6.Trip v12 h13) (And.intro h14 True.intro))))))) (by kernel_rfl)
          · have hE : some (Ctl.next (w64 (s4 + 1))) = some c1 := hM
            have hE := Option.some.inj hE
            subst hE
            exact pc R 9999 [.as 20 true, .ix (Booking.enc v6), .new 2, .as 27 true, .call false [] (.o (.c (.v (.int .i64 v9)))) [] [], .as 35 true, .call false [] (.o (.c (.v (.int .i64 v12)))) [] [], .as 42 false] [.keep [2, 3, 4, 8, 17, 18, 19] [0, 1]] (And.intro h5 (And.intro (gi_map Booking.enc h7) (And.intro h8 (And.intro (impl_starts_ok a0 v6.Trip v9 h10) (And.intro h11 (And.intro (impl_ends_ok a0 v6.Trip v12 h13) (And.intro h14 True.intro))))))) (by kernel_rfl) (li (Sf := impl_RideAt_L1_S a0 a1 a2 a3) (M := Mk (impl_RideAt_L1 a0 a1 a2 a3) (impl_RideAt_L1_k) r) (k := [.blk 0, .code (cAt Try.f13 [1, 1, 1])]) (Nat.lt_succ_self m1) hK1)
        · have hE : some (Ctl.next (w64 (s4 + 1))) = some c1 := hM
          have hE := Option.some.inj hE
          subst hE
          exact pc R 9999 [.as 20 true, .ix (Booking.enc v6), .new 2, .as 27 true, .call false [] (.o (.c (.v (.int .i64 v9)))) [] [], .as 35 false] [.keep [2, 3, 4, 8, 17, 18, 19] [0, 1]] (And.intro h5 (And.intro (gi_map Booking.enc h7) (And.intro h8 (And.intro (impl_starts_ok a0 v6.Trip v9 h10) (And.intro h11 True.intro))))) (by kernel_rfl) (li (Sf := impl_RideAt_L1_S a0 a1 a2 a3) (M := Mk (impl_RideAt_L1 a0 a1 a2 a3) (impl_RideAt_L1_k) r) (k := [.blk 0, .code (cAt Try.f13 [1, 1, 1])]) (Nat.lt_succ_self m1) hK1)
      · have hE : some (Ctl.next (w64 (s4 + 1))) = some c1 := hM
        have hE := Option.some.inj hE
        subst hE
        exact pc R 9999 [.as 20 true, .ix (Booking.enc v6), .new 2, .as 27 false] [.keep [2, 3, 4, 8, 17, 18, 19] [0, 1]] (And.intro h5 (And.intro (gi_map Booking.enc h7) (And.intro h8 True.intro))) (by kernel_rfl) (li (Sf := impl_RideAt_L1_S a0 a1 a2 a3) (M := Mk (impl_RideAt_L1 a0 a1 a2 a3) (impl_RideAt_L1_k) r) (k := [.blk 0, .code (cAt Try.f13 [1, 1, 1])]) (Nat.lt_succ_self m1) hK1)
    · have hE : some (Ctl.brk ()) = some c1 := hM
      have hE := Option.some.inj hE
      subst hE
      exact pc R 5 [.as 20 false] [.keep [8] [1]] (And.intro h5 True.intro) (by kernel_rfl) (K1 () hK1)

-- loop.example/g03014/spec.RideAt
def spec_RideAt_L1_b (a0 : Network) (a1 : (List Booking)) (a2 : Int) (a3 : Int) (s4 : Int) : Option (Ctl Int Unit (Trip × Bool)) :=
  bif (decide (s4 < (a1.length : Int))) then
  (gi a1 s4).bind fun v6 =>
  bif (v6.Thing == a2) then
  (gi a1 s4).bind fun v9 =>
  (spec_l3Starts a0 v9.Trip).bind fun v11 =>
  bif (decide (v11 ≤ a3)) then
  (gi a1 s4).bind fun v14 =>
  (spec_l3Ends a0 v14.Trip).bind fun v16 =>
  bif (decide (a3 < v16)) then
  (gi a1 s4).bind fun v19 =>
  some (.ret (v19.Trip, true))
  else
  some (.next (w64 (s4 + 1)))
  else
  some (.next (w64 (s4 + 1)))
  else
  some (.next (w64 (s4 + 1)))
  else
  some (.brk ())
def spec_RideAt_L1 (a0 : Network) (a1 : (List Booking)) (a2 : Int) (a3 : Int) (s : Int) : Option (Ctl Int Unit (Trip × Bool)) := spec_RideAt_L1_b a0 a1 a2 a3 s
def spec_RideAt_L1_s (a0 : Network) (a1 : (List Booking)) (a2 : Int) (a3 : Int) (s4 : Int) : St := ⟨[(1, .o (.c (.rs 4 (a1.map Booking.enc)))), (2, .o (.c (.v (.int .i64 a2)))), (3, .o (.c (.v (.int .i64 a3)))), (4, .o (.c (.ptr 0 0))), (8, .o (.c (.ptr 1 0))), (10, .o (.c (.v (.int .i64 s4))))], [(0, .box 27 [.rs 6 (a0.Legs.map Leg.enc), .rs 1 (a0.Off.map encI), .v (.int .i64 a0.Change)]), (1, .box 32 [.v (.int .i64 0), .v (.int .i64 0)])]⟩
def spec_RideAt_L1_S (a0 : Network) (a1 : (List Booking)) (a2 : Int) (a3 : Int) (s : Int) : St := spec_RideAt_L1_s a0 a1 a2 a3 s
def spec_RideAt_L1_a : Option (Trip × Bool) :=
  some ((Trip.mk ((Trip.mk 0 0).Leg) ((Trip.mk 0 0).Day)), false)
def spec_RideAt_L1_k (x : (Unit) ⊕ (Trip × Bool)) : Option (Trip × Bool) := match x with
  | .inl t => spec_RideAt_L1_a
  | .inr y => some y
def spec_RideAt (a0 : Network) (a1 : (List Booking)) (a2 : Int) (a3 : Int) : Option (Trip × Bool) :=
  (spec_AreBookings a0 a1).bind fun v1 =>
  bif (!v1) then
  some ((Trip.mk ((Trip.mk 0 0).Leg) ((Trip.mk 0 0).Day)), false)
  else
  (loopM (spec_RideAt_L1 a0 a1 a2 a3) big 0).bind (spec_RideAt_L1_k)
theorem spec_RideAt_ok (a0 : Network) (a1 : (List Booking)) (a2 : Int) (a3 : Int) (r : Trip × Bool) (hM : spec_RideAt a0 a1 a2 a3 = some r) :
    Con Try.prog 14 [.agg [.rs 6 (a0.Legs.map Leg.enc), .rs 1 (a0.Off.map encI), .v (.int .i64 a0.Change)], .c (.rs 4 (a1.map Booking.enc)), .c (.v (.int .i64 a2)), .c (.v (.int .i64 a3))] [] (.tup [.c (.v (.agg (Trip.enc r.1).toArray)), .c (.v (.bool r.2))]) [] [] := by
  unfold spec_RideAt at hM
  refine cn (N := 57) (pids := []) Try_mixed Try.func14 (by kernel_rfl) (by kernel_rfl) (by kernel_rfl) rfl fun ρ g w R => ?_
  obtain ⟨v1, h2, hM⟩ := bind_some hM
  rcases cond_cases hM with ⟨h3, hM⟩ | ⟨h3, hM⟩
  · have hE : some ((Trip.mk ((Trip.mk 0 0).Leg) ((Trip.mk 0 0).Day)), false) = some r := hM
    have hE := Option.some.inj hE
    subst hE
    exact pr R 9999 [.new 0, .new 1, .call false [] (.o (.c (.v (.bool v1)))) [] [], .as 14 true] [] [] [] (And.intro (spec_AreBookings_ok a0 a1 v1 h2) (And.intro h3 True.intro)) (by kernel_rfl)
  · have K1 : ∀ (_ : Unit), spec_RideAt_L1_a = some r → Gr R [.code (cAt Try.f14 [1, 1, 1])] (⟨[(8, .o (.c (.ptr 1 0)))], [(1, .box 32 [.v (.int .i64 0), .v (.int .i64 0)])]⟩) := by
      intro _ hM
      unfold spec_RideAt_L1_a at hM
      have hE : some ((Trip.mk ((Trip.mk 0 0).Leg) ((Trip.mk 0 0).Day)), false) = some r := hM
      have hE := Option.some.inj hE
      subst hE
      exact pr R 9999 [] [] [] [] True.intro (by kernel_rfl)
    refine pc R 9999 [.new 0, .new 1, .call false [] (.o (.c (.v (.bool v1)))) [] [], .as 14 false] [.keep [1, 2, 3, 4, 8, 10] [0, 1]] (k' := [.code (.loop (cAt Try.f14 [1, 1, 0, 1, 0, 0])), .blk 0, .code (cAt Try.f14 [1, 1, 1])]) (S' := spec_RideAt_L1_S a0 a1 a2 a3 0) (And.intro (spec_AreBookings_ok a0 a1 v1 h2) (And.intro h3 True.intro)) (by kernel_rfl) ?_
    refine lq (spec_RideAt_L1_S a0 a1 a2 a3) (body := spec_RideAt_L1 a0 a1 a2 a3) (k := spec_RideAt_L1_k) hM fun m1 s c1 hM hK1 => ?_
    obtain ⟨s4, hs⟩ : ∃ z, z = s := ⟨_, rfl⟩
    subst hs
    have hM : spec_RideAt_L1_b a0 a1 a2 a3 s4 = some c1 := hM
    unfold spec_RideAt_L1_b at hM
    rcases cond_cases hM with ⟨h5, hM⟩ | ⟨h5, hM⟩
    · obtain ⟨v6, h7, hM⟩ := bind_some hM
      rcases cond_cases hM with ⟨h8, hM⟩ | ⟨h8, hM⟩
      · obtain ⟨v9, h10, hM⟩ := bind_some hM
        obtain ⟨v11, h12, hM⟩ := bind_some hM
        rcases cond_cases hM with ⟨h13, hM⟩ | ⟨h13, hM⟩
        · obtain ⟨v14, h15, hM⟩ := bind_some hM
          obtain ⟨v16, h17, hM⟩ := bind_some hM
          rcases cond_cases hM with ⟨h18, hM⟩ | ⟨h18, hM⟩
          · obtain ⟨v19, h20, hM⟩ := bind_some hM
            have hE : some (Ctl.ret (v19.Trip, true)) = some c1 := hM
            have hE := Option.some.inj hE
            subst hE
            have hE : some (v19.Trip, true) = some r := hK1
            have hE := Option.some.inj hE
            subst hE
            exact pr R 9999 [.ln (a1.length), .as 19 true, .ix (Booking.enc v6), .as 29 true, .ix (Booking.enc v9), .call false [] (.o (.c (.v (.int .i64 v11)))) [] [], .as 40 true, .ix (Booking.enc v14), .call false [] (.o (.c (.v (.int .i64 v16)))) [] [], .as 50 true, .ix (Booking.enc v19)] [] [] [] (And.intro (lenm Booking.enc a1) (And.intro h5 (And.intro (gi_map Booking.enc h7) (And.intro h8 (And.intro (gi_map Booking.enc h10) (And.intro (spec_l3Starts_ok a0 v9.Trip v11 h12) (And.intro h13 (And.intro (gi_map Booking.enc h15) (And.intro (spec_l3Ends_ok a0 v14.Trip v16 h17) (And.intro h18 (And.intro (gi_map Booking.enc h20) True.intro))))))))))) (by kernel_rfl)
          · have hE : some (Ctl.next (w64 (s4 + 1))) = some c1 := hM
            have hE := Option.some.inj hE
            subst hE
            exact pc R 9999 [.ln (a1.length), .as 19 true, .ix (Booking.enc v6), .as 29 true, .ix (Booking.enc v9), .call false [] (.o (.c (.v (.int .i64 v11)))) [] [], .as 40 true, .ix (Booking.enc v14), .call false [] (.o (.c (.v (.int .i64 v16)))) [] [], .as 50 false] [.keep [1, 2, 3, 4, 8, 10] [0, 1]] (And.intro (lenm Booking.enc a1) (And.intro h5 (And.intro (gi_map Booking.enc h7) (And.intro h8 (And.intro (gi_map Booking.enc h10) (And.intro (spec_l3Starts_ok a0 v9.Trip v11 h12) (And.intro h13 (And.intro (gi_map Booking.enc h15) (And.intro (spec_l3Ends_ok a0 v14.Trip v16 h17) (And.intro h18 True.intro)))))))))) (by kernel_rfl) (li (Sf := spec_RideAt_L1_S a0 a1 a2 a3) (M := Mk (spec_RideAt_L1 a0 a1 a2 a3) (spec_RideAt_L1_k) r) (k := [.blk 0, .code (cAt Try.f14 [1, 1, 1])]) (Nat.lt_succ_self m1) hK1)
        · have hE : some (Ctl.next (w64 (s4 + 1))) = some c1 := hM
          have hE := Option.some.inj hE
          subst hE
          exact pc R 9999 [.ln (a1.length), .as 19 true, .ix (Booking.enc v6), .as 29 true, .ix (Booking.enc v9), .call false [] (.o (.c (.v (.int .i64 v11)))) [] [], .as 40 false] [.keep [1, 2, 3, 4, 8, 10] [0, 1]] (And.intro (lenm Booking.enc a1) (And.intro h5 (And.intro (gi_map Booking.enc h7) (And.intro h8 (And.intro (gi_map Booking.enc h10) (And.intro (spec_l3Starts_ok a0 v9.Trip v11 h12) (And.intro h13 True.intro))))))) (by kernel_rfl) (li (Sf := spec_RideAt_L1_S a0 a1 a2 a3) (M := Mk (spec_RideAt_L1 a0 a1 a2 a3) (spec_RideAt_L1_k) r) (k := [.blk 0, .code (cAt Try.f14 [1, 1, 1])]) (Nat.lt_succ_self m1) hK1)
      · have hE : some (Ctl.next (w64 (s4 + 1))) = some c1 := hM
        have hE := Option.some.inj hE
        subst hE
        exact pc R 9999 [.ln (a1.length), .as 19 true, .ix (Booking.enc v6), .as 29 false] [.keep [1, 2, 3, 4, 8, 10] [0, 1]] (And.intro (lenm Booking.enc a1) (And.intro h5 (And.intro (gi_map Booking.enc h7) (And.intro h8 True.intro)))) (by kernel_rfl) (li (Sf := spec_RideAt_L1_S a0 a1 a2 a3) (M := Mk (spec_RideAt_L1 a0 a1 a2 a3) (spec_RideAt_L1_k) r) (k := [.blk 0, .code (cAt Try.f14 [1, 1, 1])]) (Nat.lt_succ_self m1) hK1)
    · have hE : some (Ctl.brk ()) = some c1 := hM
      have hE := Option.some.inj hE
      subst hE
      exact pc R 5 [.ln (a1.length), .as 19 false] [.keep [8] [1]] (And.intro (lenm Booking.enc a1) (And.intro h5 True.intro)) (by kernel_rfl) (K1 () hK1)

-- loop.example/g03014/impl.StartsAt
def impl_StartsAt (a0 : Network) (a1 : Trip) : Option Int :=
  (impl_IsTrip a0 a1).bind fun v1 =>
  bif (!v1) then
  some (-1)
  else
  (impl_starts a0 a1).bind fun v4 =>
  some v4
theorem impl_StartsAt_ok (a0 : Network) (a1 : Trip) (r : Int) (hM : impl_StartsAt a0 a1 = some r) :
    Con Try.prog 15 [.agg [.rs 6 (a0.Legs.map Leg.enc), .rs 1 (a0.Off.map encI), .v (.int .i64 a0.Change)], .c (.v (.agg (Trip.enc a1).toArray))] [] (.o (.c (.v (.int .i64 r)))) [] [] := by
  unfold impl_StartsAt at hM
  refine cn (N := 12) (pids := []) Try_mixed Try.func15 (by kernel_rfl) (by kernel_rfl) (by kernel_rfl) rfl fun ρ g w R => ?_
  obtain ⟨v1, h2, hM⟩ := bind_some hM
  rcases cond_cases hM with ⟨h3, hM⟩ | ⟨h3, hM⟩
  · have hE : some (-1) = some r := hM
    have hE := Option.some.inj hE
    subst hE
    exact pr R 9999 [.new 0, .new 1, .call false [] (.o (.c (.v (.bool v1)))) [] [], .as 8 true] [] [] [] (And.intro (impl_IsTrip_ok a0 a1 v1 h2) (And.intro h3 True.intro)) (by kernel_rfl)
  · obtain ⟨v4, h5, hM⟩ := bind_some hM
    have hE : some v4 = some r := hM
    have hE := Option.some.inj hE
    subst hE
    exact pr R 9999 [.new 0, .new 1, .call false [] (.o (.c (.v (.bool v1)))) [] [], .as 8 false, .call false [] (.o (.c (.v (.int .i64 v4)))) [] []] [] [] [] (And.intro (impl_IsTrip_ok a0 a1 v1 h2) (And.intro h3 (And.intro (impl_starts_ok a0 a1 v4 h5) True.intro))) (by kernel_rfl)

-- loop.example/g03014/impl.EndsAt
def impl_EndsAt (a0 : Network) (a1 : Trip) : Option Int :=
  (impl_IsTrip a0 a1).bind fun v1 =>
  bif (!v1) then
  some (-1)
  else
  (impl_ends a0 a1).bind fun v4 =>
  some v4
theorem impl_EndsAt_ok (a0 : Network) (a1 : Trip) (r : Int) (hM : impl_EndsAt a0 a1 = some r) :
    Con Try.prog 16 [.agg [.rs 6 (a0.Legs.map Leg.enc), .rs 1 (a0.Off.map encI), .v (.int .i64 a0.Change)], .c (.v (.agg (Trip.enc a1).toArray))] [] (.o (.c (.v (.int .i64 r)))) [] [] := by
  unfold impl_EndsAt at hM
  refine cn (N := 12) (pids := []) Try_mixed Try.func16 (by kernel_rfl) (by kernel_rfl) (by kernel_rfl) rfl fun ρ g w R => ?_
  obtain ⟨v1, h2, hM⟩ := bind_some hM
  rcases cond_cases hM with ⟨h3, hM⟩ | ⟨h3, hM⟩
  · have hE : some (-1) = some r := hM
    have hE := Option.some.inj hE
    subst hE
    exact pr R 9999 [.new 0, .new 1, .call false [] (.o (.c (.v (.bool v1)))) [] [], .as 8 true] [] [] [] (And.intro (impl_IsTrip_ok a0 a1 v1 h2) (And.intro h3 True.intro)) (by kernel_rfl)
  · obtain ⟨v4, h5, hM⟩ := bind_some hM
    have hE : some v4 = some r := hM
    have hE := Option.some.inj hE
    subst hE
    exact pr R 9999 [.new 0, .new 1, .call false [] (.o (.c (.v (.bool v1)))) [] [], .as 8 false, .call false [] (.o (.c (.v (.int .i64 v4)))) [] []] [] [] [] (And.intro (impl_IsTrip_ok a0 a1 v1 h2) (And.intro h3 (And.intro (impl_ends_ok a0 a1 v4 h5) True.intro))) (by kernel_rfl)

-- loop.example/g03014/impl.TripsOf
def impl_TripsOf_L1_b (a0 : (List Booking)) (a1 : Int) (s1 : (List Trip)) (s2 : Int) : Option (Ctl ((List Trip) × Int) (List Trip) (List Trip)) :=
  bif (decide (s2 < (a0.length : Int))) then
  (gi a0 s2).bind fun v5 =>
  bif (v5.Thing == a1) then
  (ap 16 s1 ([v5.Trip] : List Trip)).bind fun v8 =>
  some (.next (v8, w64 (s2 + 1)))
  else
  some (.next (s1, w64 (s2 + 1)))
  else
  some (.brk s1)
def impl_TripsOf_L1 (a0 : (List Booking)) (a1 : Int) (s : (List Trip) × Int) : Option (Ctl ((List Trip) × Int) (List Trip) (List Trip)) := impl_TripsOf_L1_b a0 a1 s.1 s.2
def impl_TripsOf_L1_s (a0 : (List Booking)) (a1 : Int) (s1 : (List Trip)) (s2 : Int) : St := ⟨[(1, .o (.c (.v (.int .i64 a1)))), (5, .o (.c (.sl 0))), (9, .o (.c (.rs 4 (a0.map Booking.enc)))), (10, .o (.c (.v (.int .i64 (a0.length : Int))))), (11, .o (.c (.v (.int .i64 s2))))], [(0, .row 32 2 (s1.map Trip.enc))]⟩
def impl_TripsOf_L1_S (a0 : (List Booking)) (a1 : Int) (s : (List Trip) × Int) : St := impl_TripsOf_L1_s a0 a1 s.1 s.2
def impl_TripsOf_L1_a (s3 : (List Trip)) : Option (List Trip) :=
  some s3
def impl_TripsOf_L1_k (x : ((List Trip)) ⊕ ((List Trip))) : Option (List Trip) := match x with
  | .inl t => impl_TripsOf_L1_a t
  | .inr y => some y
def impl_TripsOf (a0 : (List Booking)) (a1 : Int) : Option (List Trip) :=
  (loopM (impl_TripsOf_L1 a0 a1) big (([] : List Trip), 0)).bind (impl_TripsOf_L1_k)
theorem impl_TripsOf_ok (a0 : (List Booking)) (a1 : Int) (r : (List Trip)) (hM : impl_TripsOf a0 a1 = some r) :
    Con Try.prog 18 [.c (.rs 4 (a0.map Booking.enc)), .c (.v (.int .i64 a1))] [] (.o (.c (.sl 1000))) [] [(1000, .row 32 2 (r.map Trip.enc))] := by
  unfold impl_TripsOf at hM
  refine cn (N := 26) (pids := []) Try_mixed Try.func18 (by kernel_rfl) (by kernel_rfl) (by kernel_rfl) rfl fun ρ g w R => ?_
  have K1 : ∀ (s3 : (List Trip)), impl_TripsOf_L1_a s3 = some r → Gr R [.code (cAt Try.f18 [1, 1, 1])] (⟨[(5, .o (.c (.sl 0)))], [(0, .row 32 2 (s3.map Trip.enc))]⟩) := by
    intro s3 hM
    unfold impl_TripsOf_L1_a at hM
    have hE : some s3 = some r := hM
    have hE := Option.some.inj hE
    subst hE
    exact pr R 9999 [] [.sw 0 1000] [] [1000] True.intro (by kernel_rfl)
  refine pc R 9999 [.new 0, .ln (a0.length)] [.keep [1, 5, 9, 10, 11] [0]] (k' := [.code (.loop (cAt Try.f18 [1, 1, 0, 1, 0, 0])), .blk 0, .code (cAt Try.f18 [1, 1, 1])]) (S' := impl_TripsOf_L1_S a0 a1 (([] : List Trip), 0)) (And.intro (lenm Booking.enc a0) True.intro) (by kernel_rfl) ?_
  refine lq (impl_TripsOf_L1_S a0 a1) (body := impl_TripsOf_L1 a0 a1) (k := impl_TripsOf_L1_k) hM fun m1 s c1 hM hK1 => ?_
  obtain ⟨s1, s2⟩ := s
  have hM : impl_TripsOf_L1_b a0 a1 s1 s2 = some c1 := hM
  unfold impl_TripsOf_L1_b at hM
  rcases cond_cases hM with ⟨h4, hM⟩ | ⟨h4, hM⟩
  · obtain ⟨v5, h6, hM⟩ := bind_some hM
    rcases cond_cases hM with ⟨h7, hM⟩ | ⟨h7, hM⟩
    · obtain ⟨v8, h9, hM⟩ := bind_some hM
      have hE : some (Ctl.next (v8, w64 (s2 + 1))) = some c1 := hM
      have hE := Option.some.inj hE
      subst hE
      exact pc R 9999 [.as 12 true, .ix (Booking.enc v5), .new 1, .as 18 true, .new 2, .new 3, .nm (v8.map Trip.enc)] [.sw 3 0, .keep [1, 5, 9, 10, 11] [0]] (And.intro h4 (And.intro (gi_map Booking.enc h6) (And.intro h7 (And.intro (ap_ok Trip.enc h9) True.intro)))) (by kernel_rfl) (li (Sf := impl_TripsOf_L1_S a0 a1) (M := Mk (impl_TripsOf_L1 a0 a1) (impl_TripsOf_L1_k) r) (k := [.blk 0, .code (cAt Try.f18 [1, 1, 1])]) (Nat.lt_succ_self m1) hK1)
    · have hE : some (Ctl.next (s1, w64 (s2 + 1))) = some c1 := hM
      have hE := Option.some.inj hE
      subst hE
      exact pc R 9999 [.as 12 true, .ix (Booking.enc v5), .new 1, .as 18 false] [.keep [1, 5, 9, 10, 11] [0]] (And.intro h4 (And.intro (gi_map Booking.enc h6) (And.intro h7 True.intro))) (by kernel_rfl) (li (Sf := impl_TripsOf_L1_S a0 a1) (M := Mk (impl_TripsOf_L1 a0 a1) (impl_TripsOf_L1_k) r) (k := [.blk 0, .code (cAt Try.f18 [1, 1, 1])]) (Nat.lt_succ_self m1) hK1)
  · have hE : some (Ctl.brk s1) = some c1 := hM
    have hE := Option.some.inj hE
    subst hE
    exact pc R 5 [.as 12 false] [.keep [5] [0]] (And.intro h4 True.intro) (by kernel_rfl) (K1 s1 hK1)

-- loop.example/g03014/laws.rides
def laws_rides_L1_b (a0 : (List Trip)) (a1 : Trip) (s1 : Int) : Option (Ctl Int Unit Bool) :=
  bif (decide (s1 < (a0.length : Int))) then
  (gi a0 s1).bind fun v3 =>
  bif (decide (v3 = a1)) then
  some (.ret true)
  else
  some (.next (w64 (s1 + 1)))
  else
  some (.brk ())
def laws_rides_L1 (a0 : (List Trip)) (a1 : Trip) (s : Int) : Option (Ctl Int Unit Bool) := laws_rides_L1_b a0 a1 s
def laws_rides_L1_s (a0 : (List Trip)) (a1 : Trip) (s1 : Int) : St := ⟨[(0, .o (.c (.rs 2 (a0.map Trip.enc)))), (3, .o (.c (.ptr 0 0))), (5, .o (.c (.v (.int .i64 s1))))], [(0, .box 32 [.v (.int .i64 a1.Leg), .v (.int .i64 a1.Day)])]⟩
def laws_rides_L1_S (a0 : (List Trip)) (a1 : Trip) (s : Int) : St := laws_rides_L1_s a0 a1 s
def laws_rides_L1_a : Option Bool :=
  some false
def laws_rides_L1_k (x : (Unit) ⊕ (Bool)) : Option Bool := match x with
  | .inl t => laws_rides_L1_a
  | .inr y => some y
def laws_rides (a0 : (List Trip)) (a1 : Trip) : Option Bool :=
  (loopM (laws_rides_L1 a0 a1) big 0).bind (laws_rides_L1_k)
theorem laws_rides_ok (a0 : (List Trip)) (a1 : Trip) (r : Bool) (hM : laws_rides a0 a1 = some r) :
    Con Try.prog 17 [.c (.rs 2 (a0.map Trip.enc)), .c (.v (.agg (Trip.enc a1).toArray))] [] (.o (.c (.v (.bool r)))) [] [] := by
  unfold laws_rides at hM
  refine cn (N := 18) (pids := []) Try_mixed Try.func17 (by kernel_rfl) (by kernel_rfl) (by kernel_rfl) rfl fun ρ g w R => ?_
  have K1 : ∀ (_ : Unit), laws_rides_L1_a = some r → Gr R [.code (cAt Try.f17 [1, 1])] (⟨[], []⟩) := by
    intro _ hM
    unfold laws_rides_L1_a at hM
    have hE : some false = some r := hM
    have hE := Option.some.inj hE
    subst hE
    exact pr R 9999 [] [] [] [] True.intro (by kernel_rfl)
  refine pc R 9999 [.new 0] [.keep [0, 3, 5] [0]] (k' := [.code (.loop (cAt Try.f17 [1, 0, 1, 0, 0])), .blk 0, .code (cAt Try.f17 [1, 1])]) (S' := laws_rides_L1_S a0 a1 0) True.intro (by kernel_rfl) ?_
  refine lq (laws_rides_L1_S a0 a1) (body := laws_rides_L1 a0 a1) (k := laws_rides_L1_k) hM fun m1 s c1 hM hK1 => ?_
  obtain ⟨s1, hs⟩ : ∃ z, z = s := ⟨_, rfl⟩
  subst hs
  have hM : laws_rides_L1_b a0 a1 s1 = some c1 := hM
  unfold laws_rides_L1_b at hM
  rcases cond_cases hM with ⟨h2, hM⟩ | ⟨h2, hM⟩
  · obtain ⟨v3, h4, hM⟩ := bind_some hM
    rcases cond_cases hM with ⟨h5, hM⟩ | ⟨h5, hM⟩
    · have hE : some (Ctl.ret true) = some c1 := hM
      have hE := Option.some.inj hE
      subst hE
      have hE : some true = some r := hK1
      have hE := Option.some.inj hE
      subst hE
      exact pr R 9999 [.ln (a0.length), .as 9 true, .ix (Trip.enc v3), .run 17 (.bool (decide (v3 = a1))), .as 17 true] [] [] [] (And.intro (lenm Trip.enc a0) (And.intro h2 (And.intro (gi_map Trip.enc h4) (And.intro (Trip_eql32 v3 a1) (And.intro h5 True.intro))))) (by kernel_rfl)
    · have hE : some (Ctl.next (w64 (s1 + 1))) = some c1 := hM
      have hE := Option.some.inj hE
      subst hE
      exact pc R 9999 [.ln (a0.length), .as 9 true, .ix (Trip.enc v3), .run 17 (.bool (decide (v3 = a1))), .as 17 false] [.keep [0, 3, 5] [0]] (And.intro (lenm Trip.enc a0) (And.intro h2 (And.intro (gi_map Trip.enc h4) (And.intro (Trip_eql32 v3 a1) (And.intro h5 True.intro))))) (by kernel_rfl) (li (Sf := laws_rides_L1_S a0 a1) (M := Mk (laws_rides_L1 a0 a1) (laws_rides_L1_k) r) (k := [.blk 0, .code (cAt Try.f17 [1, 1])]) (Nat.lt_succ_self m1) hK1)
  · have hE : some (Ctl.brk ()) = some c1 := hM
    have hE := Option.some.inj hE
    subst hE
    exact pc R 5 [.ln (a0.length), .as 9 false] [.keep [] []] (And.intro (lenm Trip.enc a0) (And.intro h2 True.intro)) (by kernel_rfl) (K1 () hK1)

-- loop.example/g03014/impl.WhoRides
def impl_WhoRides_L1_b (a0 : (List Booking)) (a1 : Trip) (s1 : (List Int)) (s2 : Int) : Option (Ctl ((List Int) × Int) (List Int) (List Int)) :=
  bif (decide (s2 < (a0.length : Int))) then
  (gi a0 s2).bind fun v5 =>
  bif (decide (v5.Trip = a1)) then
  (ap 8 s1 ([v5.Thing] : List Int)).bind fun v8 =>
  some (.next (v8, w64 (s2 + 1)))
  else
  some (.next (s1, w64 (s2 + 1)))
  else
  some (.brk s1)
def impl_WhoRides_L1 (a0 : (List Booking)) (a1 : Trip) (s : (List Int) × Int) : Option (Ctl ((List Int) × Int) (List Int) (List Int)) := impl_WhoRides_L1_b a0 a1 s.1 s.2
def impl_WhoRides_L1_s (a0 : (List Booking)) (a1 : Trip) (s1 : (List Int)) (s2 : Int) : St := ⟨[(3, .o (.c (.ptr 0 0))), (5, .o (.c (.sl 1))), (9, .o (.c (.rs 4 (a0.map Booking.enc)))), (10, .o (.c (.v (.int .i64 (a0.length : Int))))), (11, .o (.c (.v (.int .i64 s2))))], [(0, .box 32 [.v (.int .i64 a1.Leg), .v (.int .i64 a1.Day)]), (1, .row 3 1 (s1.map encI))]⟩
def impl_WhoRides_L1_S (a0 : (List Booking)) (a1 : Trip) (s : (List Int) × Int) : St := impl_WhoRides_L1_s a0 a1 s.1 s.2
def impl_WhoRides_L1_a (s3 : (List Int)) : Option (List Int) :=
  some s3
def impl_WhoRides_L1_k (x : ((List Int)) ⊕ ((List Int))) : Option (List Int) := match x with
  | .inl t => impl_WhoRides_L1_a t
  | .inr y => some y
def impl_WhoRides (a0 : (List Booking)) (a1 : Trip) : Option (List Int) :=
  (loopM (impl_WhoRides_L1 a0 a1) big (([] : List Int), 0)).bind (impl_WhoRides_L1_k)
theorem impl_WhoRides_ok (a0 : (List Booking)) (a1 : Trip) (r : (List Int)) (hM : impl_WhoRides a0 a1 = some r) :
    Con Try.prog 20 [.c (.rs 4 (a0.map Booking.enc)), .c (.v (.agg (Trip.enc a1).toArray))] [] (.o (.c (.sl 1000))) [] [(1000, .row 3 1 (r.map encI))] := by
  unfold impl_WhoRides at hM
  refine cn (N := 26) (pids := []) Try_mixed Try.func20 (by kernel_rfl) (by kernel_rfl) (by kernel_rfl) rfl fun ρ g w R => ?_
  have K1 : ∀ (s3 : (List Int)), impl_WhoRides_L1_a s3 = some r → Gr R [.code (cAt Try.f20 [1, 1, 1])] (⟨[(5, .o (.c (.sl 1)))], [(1, .row 3 1 (s3.map encI))]⟩) := by
    intro s3 hM
    unfold impl_WhoRides_L1_a at hM
    have hE : some s3 = some r := hM
    have hE := Option.some.inj hE
    subst hE
    exact pr R 9999 [] [.sw 1 1000] [] [1000] True.intro (by kernel_rfl)
  refine pc R 9999 [.new 0, .new 1, .ln (a0.length)] [.keep [3, 5, 9, 10, 11] [0, 1]] (k' := [.code (.loop (cAt Try.f20 [1, 1, 0, 1, 0, 0])), .blk 0, .code (cAt Try.f20 [1, 1, 1])]) (S' := impl_WhoRides_L1_S a0 a1 (([] : List Int), 0)) (And.intro (lenm Booking.enc a0) True.intro) (by kernel_rfl) ?_
  refine lq (impl_WhoRides_L1_S a0 a1) (body := impl_WhoRides_L1 a0 a1) (k := impl_WhoRides_L1_k) hM fun m1 s c1 hM hK1 => ?_
  obtain ⟨s1, s2⟩ := s
  have hM : impl_WhoRides_L1_b a0 a1 s1 s2 = some c1 := hM
  unfold impl_WhoRides_L1_b at hM
  rcases cond_cases hM with ⟨h4, hM⟩ | ⟨h4, hM⟩
  · obtain ⟨v5, h6, hM⟩ := bind_some hM
    rcases cond_cases hM with ⟨h7, hM⟩ | ⟨h7, hM⟩
    · obtain ⟨v8, h9, hM⟩ := bind_some hM
      have hE : some (Ctl.next (v8, w64 (s2 + 1))) = some c1 := hM
      have hE := Option.some.inj hE
      subst hE
      exact pc R 9999 [.as 12 true, .ix (Booking.enc v5), .new 2, .run 18 (.bool (decide (v5.Trip = a1))), .as 18 true, .new 3, .new 4, .nm (v8.map encI)] [.sw 4 1, .keep [3, 5, 9, 10, 11] [0, 1]] (And.intro h4 (And.intro (gi_map Booking.enc h6) (And.intro (Trip_eql32 v5.Trip a1) (And.intro h7 (And.intro (ap_ok encI h9) True.intro))))) (by kernel_rfl) (li (Sf := impl_WhoRides_L1_S a0 a1) (M := Mk (impl_WhoRides_L1 a0 a1) (impl_WhoRides_L1_k) r) (k := [.blk 0, .code (cAt Try.f20 [1, 1, 1])]) (Nat.lt_succ_self m1) hK1)
    · have hE : some (Ctl.next (s1, w64 (s2 + 1))) = some c1 := hM
      have hE := Option.some.inj hE
      subst hE
      exact pc R 9999 [.as 12 true, .ix (Booking.enc v5), .new 2, .run 18 (.bool (decide (v5.Trip = a1))), .as 18 false] [.keep [3, 5, 9, 10, 11] [0, 1]] (And.intro h4 (And.intro (gi_map Booking.enc h6) (And.intro (Trip_eql32 v5.Trip a1) (And.intro h7 True.intro)))) (by kernel_rfl) (li (Sf := impl_WhoRides_L1_S a0 a1) (M := Mk (impl_WhoRides_L1 a0 a1) (impl_WhoRides_L1_k) r) (k := [.blk 0, .code (cAt Try.f20 [1, 1, 1])]) (Nat.lt_succ_self m1) hK1)
  · have hE : some (Ctl.brk s1) = some c1 := hM
    have hE := Option.some.inj hE
    subst hE
    exact pc R 5 [.as 12 false] [.keep [5] [1]] (And.intro h4 True.intro) (by kernel_rfl) (K1 s1 hK1)

-- loop.example/g03014/laws.has
def laws_has_L1_b (a0 : (List Int)) (a1 : Int) (s1 : Int) : Option (Ctl Int Unit Bool) :=
  bif (decide (s1 < (a0.length : Int))) then
  (gi a0 s1).bind fun v3 =>
  bif (v3 == a1) then
  some (.ret true)
  else
  some (.next (w64 (s1 + 1)))
  else
  some (.brk ())
def laws_has_L1 (a0 : (List Int)) (a1 : Int) (s : Int) : Option (Ctl Int Unit Bool) := laws_has_L1_b a0 a1 s
def laws_has_L1_s (a0 : (List Int)) (a1 : Int) (s1 : Int) : St := ⟨[(0, .o (.c (.rs 1 (a0.map encI)))), (1, .o (.c (.v (.int .i64 a1)))), (5, .o (.c (.v (.int .i64 s1))))], []⟩
def laws_has_L1_S (a0 : (List Int)) (a1 : Int) (s : Int) : St := laws_has_L1_s a0 a1 s
def laws_has_L1_a : Option Bool :=
  some false
def laws_has_L1_k (x : (Unit) ⊕ (Bool)) : Option Bool := match x with
  | .inl t => laws_has_L1_a
  | .inr y => some y
def laws_has (a0 : (List Int)) (a1 : Int) : Option Bool :=
  (loopM (laws_has_L1 a0 a1) big 0).bind (laws_has_L1_k)
theorem laws_has_ok (a0 : (List Int)) (a1 : Int) (r : Bool) (hM : laws_has a0 a1 = some r) :
    Con Try.prog 19 [.c (.rs 1 (a0.map encI)), .c (.v (.int .i64 a1))] [] (.o (.c (.v (.bool r)))) [] [] := by
  unfold laws_has at hM
  refine cn (N := 18) (pids := []) Try_mixed Try.func19 (by kernel_rfl) (by kernel_rfl) (by kernel_rfl) rfl fun ρ g w R => ?_
  have K1 : ∀ (_ : Unit), laws_has_L1_a = some r → Gr R [.code (cAt Try.f19 [1, 1])] (⟨[], []⟩) := by
    intro _ hM
    unfold laws_has_L1_a at hM
    have hE : some false = some r := hM
    have hE := Option.some.inj hE
    subst hE
    exact pr R 9999 [] [] [] [] True.intro (by kernel_rfl)
  refine pc R 9999 [] [.keep [0, 1, 5] []] (k' := [.code (.loop (cAt Try.f19 [1, 0, 1, 0, 0])), .blk 0, .code (cAt Try.f19 [1, 1])]) (S' := laws_has_L1_S a0 a1 0) True.intro (by kernel_rfl) ?_
  refine lq (laws_has_L1_S a0 a1) (body := laws_has_L1 a0 a1) (k := laws_has_L1_k) hM fun m1 s c1 hM hK1 => ?_
  obtain ⟨s1, hs⟩ : ∃ z, z = s := ⟨_, rfl⟩
  subst hs
  have hM : laws_has_L1_b a0 a1 s1 = some c1 := hM
  unfold laws_has_L1_b at hM
  rcases cond_cases hM with ⟨h2, hM⟩ | ⟨h2, hM⟩
  · obtain ⟨v3, h4, hM⟩ := bind_some hM
    rcases cond_cases hM with ⟨h5, hM⟩ | ⟨h5, hM⟩
    · have hE : some (Ctl.ret true) = some c1 := hM
      have hE := Option.some.inj hE
      subst hE
      have hE : some true = some r := hK1
      have hE := Option.some.inj hE
      subst hE
      exact pr R 9999 [.ln (a0.length), .as 9 true, .ix (encI v3), .as 17 true] [] [] [] (And.intro (lenm encI a0) (And.intro h2 (And.intro (gi_map encI h4) (And.intro h5 True.intro)))) (by kernel_rfl)
    · have hE : some (Ctl.next (w64 (s1 + 1))) = some c1 := hM
      have hE := Option.some.inj hE
      subst hE
      exact pc R 9999 [.ln (a0.length), .as 9 true, .ix (encI v3), .as 17 false] [.keep [0, 1, 5] []] (And.intro (lenm encI a0) (And.intro h2 (And.intro (gi_map encI h4) (And.intro h5 True.intro)))) (by kernel_rfl) (li (Sf := laws_has_L1_S a0 a1) (M := Mk (laws_has_L1 a0 a1) (laws_has_L1_k) r) (k := [.blk 0, .code (cAt Try.f19 [1, 1])]) (Nat.lt_succ_self m1) hK1)
  · have hE : some (Ctl.brk ()) = some c1 := hM
    have hE := Option.some.inj hE
    subst hE
    exact pc R 5 [.ln (a0.length), .as 9 false] [.keep [] []] (And.intro (lenm encI a0) (And.intro h2 True.intro)) (by kernel_rfl) (K1 () hK1)

-- loop.example/g03014/laws.FnRide
def laws_FnRide_x1 (v28 : Int) : St := ⟨[(2, .o (.c (.v (.bool (decide (v28 > 0))))))], []⟩
def laws_FnRide_x2 : St := ⟨[(2, .o (.c (.v (.bool false))))], []⟩
def laws_FnRide_x3 : St := ⟨[(2, .o (.c (.v (.bool false))))], []⟩
def laws_FnRide_x4 : St := ⟨[(2, .o (.c (.v (.bool false))))], []⟩
def laws_FnRide_x5 : St := ⟨[(2, .o (.c (.v (.bool false))))], []⟩
def laws_FnRide (a0 : (List Int)) : Option Bool :=
  (laws_big a0).bind fun v1 =>
  bif v1 then
  some true
  else
  (spec_DrawRideAt a0).bind fun v4 =>
  (impl_RideAt v4.1 v4.2.1 v4.2.2.1 v4.2.2.2).bind fun v6 =>
  (spec_RideAt v4.1 v4.2.1 v4.2.2.1 v4.2.2.2).bind fun v8 =>
  bif (!(v6.2 == v8.2)) then
  some false
  else
  bif (!v6.2) then
  some true
  else
  (impl_StartsAt v4.1 v6.1).bind fun v12 =>
  bif (decide (v12 ≤ v4.2.2.2)) then
  (impl_EndsAt v4.1 v6.1).bind fun v15 =>
  bif (decide (v4.2.2.2 < v15)) then
  (impl_TripsOf v4.2.1 v4.2.2.1).bind fun v18 =>
  (laws_rides v18 v6.1).bind fun v20 =>
  bif v20 then
  (impl_WhoRides v4.2.1 v6.1).bind fun v23 =>
  (laws_has v23 v4.2.2.1).bind fun v25 =>
  bif v25 then
  (impl_LoadOf v4.2.1 v6.1).bind fun v28 =>
  some (decide (v28 > 0))
  else
  some false
  else
  some false
  else
  some false
  else
  some false
theorem laws_FnRide_ok (a0 : (List Int)) (r : Bool) (hM : laws_FnRide a0 = some r) :
    Con Try.prog 3 [.c (.rs 1 (a0.map encU8))] [] (.o (.c (.v (.bool r)))) [] [] := by
  unfold laws_FnRide at hM
  refine cn (N := 73) (pids := []) Try_mixed Try.func3 (by kernel_rfl) (by kernel_rfl) (by kernel_rfl) rfl fun ρ g w R => ?_
  obtain ⟨v1, h2, hM⟩ := bind_some hM
  rcases cond_cases hM with ⟨h3, hM⟩ | ⟨h3, hM⟩
  · have hE : some true = some r := hM
    have hE := Option.some.inj hE
    subst hE
    exact pr R 9999 [.call false [] (.o (.c (.v (.bool v1)))) [] [], .as 12 true] [] [] [] (And.intro (laws_big_ok a0 v1 h2) (And.intro h3 True.intro)) (by kernel_rfl)
  · obtain ⟨v4, h5, hM⟩ := bind_some hM
    obtain ⟨v6, h7, hM⟩ := bind_some hM
    obtain ⟨v8, h9, hM⟩ := bind_some hM
    rcases cond_cases hM with ⟨h10, hM⟩ | ⟨h10, hM⟩
    · have hE : some false = some r := hM
      have hE := Option.some.inj hE
      subst hE
      exact pr R 9999 [.call false [] (.o (.c (.v (.bool v1)))) [] [], .as 12 false, .call false [] (.tup [.agg [.sl 0, .sl 1, .v (.int .i64 v4.1.Change)], .c (.sl 2), .c (.v (.int .i64 v4.2.2.1)), .c (.v (.int .i64 v4.2.2.2))]) [] [(0, .row 64 6 (v4.1.Legs.map Leg.enc)), (1, .row 3 1 (v4.1.Off.map encI)), (2, .row 71 4 (v4.2.1.map Booking.enc))], .new 3, .call false [] (.tup [.c (.v (.agg (Trip.enc v6.1).toArray)), .c (.v (.bool v6.2))]) [] [], .new 4, .call false [] (.tup [.c (.v (.agg (Trip.enc v8.1).toArray)), .c (.v (.bool v8.2))]) [] [], .new 5, .as 38 true] [] [] [] (And.intro (laws_big_ok a0 v1 h2) (And.intro h3 (And.intro (And.intro (con_sw 1002 2 (con_sw 1001 1 (con_sw 1000 0 (spec_DrawRideAt_ok a0 v4 h5)))) (rfl : ([] : List Nat) = [])) (And.intro (impl_RideAt_ok v4.1 v4.2.1 v4.2.2.1 v4.2.2.2 v6 h7) (And.intro (spec_RideAt_ok v4.1 v4.2.1 v4.2.2.1 v4.2.2.2 v8 h9) (And.intro h10 True.intro)))))) (by kernel_rfl)
    · rcases cond_cases hM with ⟨h11, hM⟩ | ⟨h11, hM⟩
      · have hE : some true = some r := hM
        have hE := Option.some.inj hE
        subst hE
        exact pr R 9999 [.call false [] (.o (.c (.v (.bool v1)))) [] [], .as 12 false, .call false [] (.tup [.agg [.sl 0, .sl 1, .v (.int .i64 v4.1.Change)], .c (.sl 2), .c (.v (.int .i64 v4.2.2.1)), .c (.v (.int .i64 v4.2.2.2))]) [] [(0, .row 64 6 (v4.1.Legs.map Leg.enc)), (1, .row 3 1 (v4.1.Off.map encI)), (2, .row 71 4 (v4.2.1.map Booking.enc))], .new 3, .call false [] (.tup [.c (.v (.agg (Trip.enc v6.1).toArray)), .c (.v (.bool v6.2))]) [] [], .new 4, .call false [] (.tup [.c (.v (.agg (Trip.enc v8.1).toArray)), .c (.v (.bool v8.2))]) [] [], .new 5, .as 38 false, .as 40 true] [] [] [] (And.intro (laws_big_ok a0 v1 h2) (And.intro h3 (And.intro (And.intro (con_sw 1002 2 (con_sw 1001 1 (con_sw 1000 0 (spec_DrawRideAt_ok a0 v4 h5)))) (rfl : ([] : List Nat) = [])) (And.intro (impl_RideAt_ok v4.1 v4.2.1 v4.2.2.1 v4.2.2.2 v6 h7) (And.intro (spec_RideAt_ok v4.1 v4.2.1 v4.2.2.1 v4.2.2.2 v8 h9) (And.intro h10 (And.intro h11 True.intro))))))) (by kernel_rfl)
      · obtain ⟨v12, h13, hM⟩ := bind_some hM
        rcases cond_cases hM with ⟨h14, hM⟩ | ⟨h14, hM⟩
        · obtain ⟨v15, h16, hM⟩ := bind_some hM
          rcases cond_cases hM with ⟨h17, hM⟩ | ⟨h17, hM⟩
          · obtain ⟨v18, h19, hM⟩ := bind_some hM
            obtain ⟨v20, h21, hM⟩ := bind_some hM
            rcases cond_cases hM with ⟨h22, hM⟩ | ⟨h22, hM⟩
            · obtain ⟨v23, h24, hM⟩ := bind_some hM
              obtain ⟨v25, h26, hM⟩ := bind_some hM
              rcases cond_cases hM with ⟨h27, hM⟩ | ⟨h27, hM⟩
              · obtain ⟨v28, h29, hM⟩ := bind_some hM
                have hE : some (decide (v28 > 0)) = some r := hM
                have hE := Option.some.inj hE
                subst hE
                exact pr R 9999 [.call false [] (.o (.c (.v (.bool v1)))) [] [], .as 12 false, .call false [] (.tup [.agg [.sl 0, .sl 1, .v (.int .i64 v4.1.Change)], .c (.sl 2), .c (.v (.int .i64 v4.2.2.1)), .c (.v (.int .i64 v4.2.2.2))]) [] [(0, .row 64 6 (v4.1.Legs.map Leg.enc)), (1, .row 3 1 (v4.1.Off.map encI)), (2, .row 71 4 (v4.2.1.map Booking.enc))], .new 3, .call false [] (.tup [.c (.v (.agg (Trip.enc v6.1).toArray)), .c (.v (.bool v6.2))]) [] [], .new 4, .call false [] (.tup [.c (.v (.agg (Trip.enc v8.1).toArray)), .c (.v (.bool v8.2))]) [] [], .new 5, .as 38 false, .as 40 false, .xo [[], [], [.call false [] (.o (.c (.v (.int .i64 v12)))) [] []], [], [], [], [.as 46 true], [], [], [.call false [] (.o (.c (.v (.int .i64 v15)))) [] []], [], [], [], [.as 53 true], [], [.call false [] (.o (.c (.sl 6))) [] [(6, .row 32 2 (v18.map Trip.enc))]], [], [.call false [] (.o (.c (.v (.bool v20)))) [] []], [], [], [.as 60 true], [], [.call false [] (.o (.c (.sl 7))) [] [(7, .row 3 1 (v23.map encI))]], [], [.call false [] (.o (.c (.v (.bool v25)))) [] []], [], [], [.as 67 true], [], [.call false [] (.o (.c (.v (.int .i64 v28)))) [] []], [], [], []] [.keep [2] []] (laws_FnRide_x1 v28)] [] [] [] (And.intro (laws_big_ok a0 v1 h2) (And.intro h3 (And.intro (And.intro (con_sw 1002 2 (con_sw 1001 1 (con_sw 1000 0 (spec_DrawRideAt_ok a0 v4 h5)))) (rfl : ([] : List Nat) = [])) (And.intro (impl_RideAt_ok v4.1 v4.2.1 v4.2.2.1 v4.2.2.2 v6 h7) (And.intro (spec_RideAt_ok v4.1 v4.2.1 v4.2.2.1 v4.2.2.2 v8 h9) (And.intro h10 (And.intro h11 (And.intro (impl_StartsAt_ok v4.1 v6.1 v12 h13) (And.intro h14 (And.intro (impl_EndsAt_ok v4.1 v6.1 v15 h16) (And.intro h17 (And.intro (And.intro (con_sw 1000 6 (impl_TripsOf_ok v4.2.1 v4.2.2.1 v18 h19)) (rfl : ([] : List Nat) = [])) (And.intro (laws_rides_ok v18 v6.1 v20 h21) (And.intro h22 (And.intro (And.intro (con_sw 1000 7 (impl_WhoRides_ok v4.2.1 v6.1 v23 h24)) (rfl : ([] : List Nat) = [])) (And.intro (laws_has_ok v23 v4.2.2.1 v25 h26) (And.intro h27 (And.intro (impl_LoadOf_ok v4.2.1 v6.1 v28 h29) (And.intro (rfl : (laws_FnRide_x1 v28) = (laws_FnRide_x1 v28)) (And.intro (And.intro (con_sw 1000 6 (impl_TripsOf_ok v4.2.1 v4.2.2.1 v18 h19)) (rfl : ([] : List Nat) = [])) (And.intro (laws_rides_ok v18 v6.1 v20 h21) (And.intro h22 (And.intro (And.intro (con_sw 1000 7 (impl_WhoRides_ok v4.2.1 v6.1 v23 h24)) (rfl : ([] : List Nat) = [])) (And.intro (laws_has_ok v23 v4.2.2.1 v25 h26) (And.intro h27 (And.intro (impl_LoadOf_ok v4.2.1 v6.1 v28 h29) (And.intro (rfl : (laws_FnRide_x1 v28) = (laws_FnRide_x1 v28)) (And.intro (impl_EndsAt_ok v4.1 v6.1 v15 h16) (And.intro h17 (And.intro (And.intro (con_sw 1000 6 (impl_TripsOf_ok v4.2.1 v4.2.2.1 v18 h19)) (rfl : ([] : List Nat) = [])) (And.intro (laws_rides_ok v18 v6.1 v20 h21) (And.intro h22 (And.intro (And.intro (con_sw 1000 7 (impl_WhoRides_ok v4.2.1 v6.1 v23 h24)) (rfl : ([] : List Nat) = [])) (And.intro (laws_has_ok v23 v4.2.2.1 v25 h26) (And.intro h27 (And.intro (impl_LoadOf_ok v4.2.1 v6.1 v28 h29) (And.intro (rfl : (laws_FnRide_x1 v28) = (laws_FnRide_x1 v28)) (And.intro (And.intro (con_sw 1000 6 (impl_TripsOf_ok v4.2.1 v4.2.2.1 v18 h19)) (rfl : ([] : List Nat) = [])) (And.intro (laws_rides_ok v18 v6.1 v20 h21) (And.intro h22 (And.intro (And.intro (con_sw 1000 7 (impl_WhoRides_ok v4.2.1 v6.1 v23 h24)) (rfl : ([] : List Nat) = [])) (And.intro (laws_has_ok v23 v4.2.2.1 v25 h26) (And.intro h27 (And.intro (impl_LoadOf_ok v4.2.1 v6.1 v28 h29) (And.intro (rfl : (laws_FnRide_x1 v28) = (laws_FnRide_x1 v28)) (And.intro (impl_StartsAt_ok v4.1 v6.1 v12 h13) (And.intro h14 (And.intro (impl_EndsAt_ok v4.1 v6.1 v15 h16) (And.intro h17 (And.intro (And.intro (con_sw 1000 6 (impl_TripsOf_ok v4.2.1 v4.2.2.1 v18 h19)) (rfl : ([] : List Nat) = [])) (And.intro (laws_rides_ok v18 v6.1 v20 h21) (And.intro h22 (And.intro (And.intro (con_sw 1000 7 (impl_WhoRides_ok v4.2.1 v6.1 v23 h24)) (rfl : ([] : List Nat) = [])) (And.intro (laws_has_ok v23 v4.2.2.1 v25 h26) (And.intro h27 (And.intro (impl_LoadOf_ok v4.2.1 v6.1 v28 h29) (And.intro (rfl : (laws_FnRide_x1 v28) = (laws_FnRide_x1 v28)) (And.intro (And.intro (con_sw 1000 6 (impl_TripsOf_ok v4.2.1 v4.2.2.1 v18 h19)) (rfl : ([] : List Nat) = [])) (And.intro (laws_rides_ok v18 v6.1 v20 h21) (And.intro h22 (And.intro (And.intro (con_sw 1000 7 (impl_WhoRides_ok v4.2.1 v6.1 v23 h24)) (rfl : ([] : List Nat) = [])) (And.intro (laws_has_ok v23 v4.2.2.1 v25 h26) (And.intro h27 (And.intro (impl_LoadOf_ok v4.2.1 v6.1 v28 h29) (And.intro (rfl : (laws_FnRide_x1 v28) = (laws_FnRide_x1 v28)) (And.intro (impl_EndsAt_ok v4.1 v6.1 v15 h16) (And.intro h17 (And.intro (And.intro (con_sw 1000 6 (impl_TripsOf_ok v4.2.1 v4.2.2.1 v18 h19)) (rfl : ([] : List Nat) = [])) (And.intro (laws_rides_ok v18 v6.1 v20 h21) (And.intro h22 (And.intro (And.intro (con_sw 1000 7 (impl_WhoRides_ok v4.2.1 v6.1 v23 h24)) (rfl : ([] : List Nat) = [])) (And.intro (laws_has_ok v23 v4.2.2.1 v25 h26) (And.intro h27 (And.intro (impl_LoadOf_ok v4.2.1 v6.1 v28 h29) (And.intro (rfl : (laws_FnRide_x1 v28) = (laws_FnRide_x1 v28)) (And.intro (And.intro (con_sw 1000 6 (impl_TripsOf_ok v4.2.1 v4.2.2.1 v18 h19)) (rfl : ([] : List Nat) = [])) (And.intro (laws_rides_ok v18 v6.1 v20 h21) (And.intro h22 (And.intro (And.intro (con_sw 1000 7 (impl_WhoRides_ok v4.2.1 v6.1 v23 h24)) (rfl : ([] : List Nat) = [])) (And.intro (laws_has_ok v23 v4.2.2.1 v25 h26) (And.intro h27 (And.intro (impl_LoadOf_ok v4.2.1 v6.1 v28 h29) (And.intro (rfl : (laws_FnRide_x1 v28) = (laws_FnRide_x1 v28)) True.intro))))))))))))))))))))))))))))))))))))))))))))))))))))))))))))))))))))))))))))))))))) (by kernel_rfl)
              · have hE : some false = some r := hM
                have hE := Option.some.inj hE
                subst hE
                exact pr R 9999 [.call false [] (.o (.c (.v (.bool v1)))) [] [], .as 12 false, .call false [] (.tup [.agg [.sl 0, .sl 1, .v (.int .i64 v4.1.Change)], .c (.sl 2), .c (.v (.int .i64 v4.2.2.1)), .c (.v (.int .i64 v4.2.2.2))]) [] [(0, .row 64 6 (v4.1.Legs.map Leg.enc)), (1, .row 3 1 (v4.1.Off.map encI)), (2, .row 71 4 (v4.2.1.map Booking.enc))], .new 3, .call false [] (.tup [.c (.v (.agg (Trip.enc v6.1).toArray)), .c (.v (.bool v6.2))]) [] [], .new 4, .call false [] (.tup [.c (.v (.agg (Trip.enc v8.1).toArray)), .c (.v (.bool v8.2))]) [] [], .new 5, .as 38 false, .as 40 false, .xo [[], [], [.call false [] (.o (.c (.v (.int .i64 v12)))) [] []], [], [], [], [.as 46 true], [], [], [.call false [] (.o (.c (.v (.int .i64 v15)))) [] []], [], [], [], [.as 53 true], [], [.call false [] (.o (.c (.sl 6))) [] [(6, .row 32 2 (v18.map Trip.enc))]], [], [.call false [] (.o (.c (.v (.bool v20)))) [] []], [], [], [.as 60 true], [], [.call false [] (.o (.c (.sl 7))) [] [(7, .row 3 1 (v23.map encI))]], [], [.call false [] (.o (.c (.v (.bool v25)))) [] []], [], [], [.as 67 false], [], [], [], [], []] [.keep [2] []] laws_FnRide_x2] [] [] [] (And.intro (laws_big_ok a0 v1 h2) (And.intro h3 (And.intro (And.intro (con_sw 1002 2 (con_sw 1001 1 (con_sw 1000 0 (spec_DrawRideAt_ok a0 v4 h5)))) (rfl : ([] : List Nat) = [])) (And.intro (impl_RideAt_ok v4.1 v4.2.1 v4.2.2.1 v4.2.2.2 v6 h7) (And.intro (spec_RideAt_ok v4.1 v4.2.1 v4.2.2.1 v4.2.2.2 v8 h9) (And.intro h10 (And.intro h11 (And.intro (impl_StartsAt_ok v4.1 v6.1 v12 h13) (And.intro h14 (And.intro (impl_EndsAt_ok v4.1 v6.1 v15 h16) (And.intro h17 (And.intro (And.intro (con_sw 1000 6 (impl_TripsOf_ok v4.2.1 v4.2.2.1 v18 h19)) (rfl : ([] : List Nat) = [])) (And.intro (laws_rides_ok v18 v6.1 v20 h21) (And.intro h22 (And.intro (And.intro (con_sw 1000 7 (impl_WhoRides_ok v4.2.1 v6.1 v23 h24)) (rfl : ([] : List Nat) = [])) (And.intro (laws_has_ok v23 v4.2.2.1 v25 h26) (And.intro h27 (And.intro (rfl : laws_FnRide_x2 = laws_FnRide_x2) (And.intro (And.intro (con_sw 1000 6 (impl_TripsOf_ok v4.2.1 v4.2.2.1 v18 h19)) (rfl : ([] : List Nat) = [])) (And.intro (laws_rides_ok v18 v6.1 v20 h21) (And.intro h22 (And.intro (And.intro (con_sw 1000 7 (impl_WhoRides_ok v4.2.1 v6.1 v23 h24)) (rfl : ([] : List Nat) = [])) (And.intro (laws_has_ok v23 v4.2.2.1 v25 h26) (And.intro h27 (And.intro (rfl : laws_FnRide_x2 = laws_FnRide_x2) (And.intro (impl_EndsAt_ok v4.1 v6.1 v15 h16) (And.intro h17 (And.intro (And.intro (con_sw 1000 6 (impl_TripsOf_ok v4.2.1 v4.2.2.1 v18 h19)) (rfl : ([] : List Nat) = [])) (And.intro (laws_rides_ok v18 v6.1 v20 h21) (And.intro h22 (And.intro (And.intro (con_sw 1000 7 (impl_WhoRides_ok v4.2.1 v6.1 v23 h24)) (rfl : ([] : List Nat) = [])) (And.intro (laws_has_ok v23 v4.2.2.1 v25 h26) (And.intro h27 (And.intro (rfl : laws_FnRide_x2 = laws_FnRide_x2) (And.intro (And.intro (con_sw 1000 6 (impl_TripsOf_ok v4.2.1 v4.2.2.1 v18 h19)) (rfl : ([] : List Nat) = [])) (And.intro (laws_rides_ok v18 v6.1 v20 h21) (And.intro h22 (And.intro (And.intro (con_sw 1000 7 (impl_WhoRides_ok v4.2.1 v6.1 v23 h24)) (rfl : ([] : List Nat) = [])) (And.intro (laws_has_ok v23 v4.2.2.1 v25 h26) (And.intro h27 (And.intro (rfl : laws_FnRide_x2 = laws_FnRide_x2) (And.intro (impl_StartsAt_ok v4.1 v6.1 v12 h13) (And.intro h14 (And.intro (impl_EndsAt_ok v4.1 v6.1 v15 h16) (And.intro h17 (And.intro (And.intro (con_sw 1000 6 (impl_TripsOf_ok v4.2.1 v4.2.2.1 v18 h19)) (rfl : ([] : List Nat) = [])) (And.intro (laws_rides_ok v18 v6.1 v20 h21) (And.intro h22 (And.intro (And.intro (con_sw 1000 7 (impl_WhoRides_ok v4.2.1 v6.1 v23 h24)) (rfl : ([] : List Nat) = [])) (And.intro (laws_has_ok v23 v4.2.2.1 v25 h26) (And.intro h27 (And.intro (rfl : laws_FnRide_x2 = laws_FnRide_x2) (And.intro (And.intro (con_sw 1000 6 (impl_TripsOf_ok v4.2.1 v4.2.2.1 v18 h19)) (rfl : ([] : List Nat) = [])) (And.intro (laws_rides_ok v18 v6.1 v20 h21) (And.intro h22 (And.intro (And.intro (con_sw 1000 7 (impl_WhoRides_ok v4.2.1 v6.1 v23 h24)) (rfl : ([] : List Nat) = [])) (And.intro (laws_has_ok v23 v4.2.2.1 v25 h26) (And.intro h27 (And.intro (rfl : laws_FnRide_x2 = laws_FnRide_x2) (And.intro (impl_EndsAt_ok v4.1 v6.1 v15 h16) (And.intro h17 (And.intro (And.intro (con_sw 1000 6 (impl_TripsOf_ok v4.2.1 v4.2.2.1 v18 h19)) (rfl : ([] : List Nat) = [])) (And.intro (laws_rides_ok v18 v6.1 v20 h21) (And.intro h22 (And.intro (And.intro (con_sw 1000 7 (impl_WhoRides_ok v4.2.1 v6.1 v23 h24)) (rfl : ([] : List Nat) = [])) (And.intro (laws_has_ok v23 v4.2.2.1 v25 h26) (And.intro h27 (And.intro (rfl : laws_FnRide_x2 = laws_FnRide_x2) (And.intro (And.intro (con_sw 1000 6 (impl_TripsOf_ok v4.2.1 v4.2.2.1 v18 h19)) (rfl : ([] : List Nat) = [])) (And.intro (laws_rides_ok v18 v6.1 v20 h21) (And.intro h22 (And.intro (And.intro (con_sw 1000 7 (impl_WhoRides_ok v4.2.1 v6.1 v23 h24)) (rfl : ([] : List Nat) = [])) (And.intro (laws_has_ok v23 v4.2.2.1 v25 h26) (And.intro h27 (And.intro (rfl : laws_FnRide_x2 = laws_FnRide_x2) True.intro))))))))))))))))))))))))))))))))))))))))))))))))))))))))))))))))))))))))))) (by kernel_rfl)
            · have hE : some false = some r := hM
              have hE := Option.some.inj hE
              subst hE
              exact pr R 9999 [.call false [] (.o (.c (.v (.bool v1)))) [] [], .as 12 false, .call false [] (.tup [.agg [.sl 0, .sl 1, .v (.int .i64 v4.1.Change)], .c (.sl 2), .c (.v (.int .i64 v4.2.2.1)), .c (.v (.int .i64 v4.2.2.2))]) [] [(0, .row 64 6 (v4.1.Legs.map Leg.enc)), (1, .row 3 1 (v4.1.Off.map encI)), (2, .row 71 4 (v4.2.1.map Booking.enc))], .new 3, .call false [] (.tup [.c (.v (.agg (Trip.enc v6.1).toArray)), .c (.v (.bool v6.2))]) [] [], .new 4, .call false [] (.tup [.c (.v (.agg (Trip.enc v8.1).toArray)), .c (.v (.bool v8.2))]) [] [], .new 5, .as 38 false, .as 40 false, .xo [[], [], [.call false [] (.o (.c (.v (.int .i64 v12)))) [] []], [], [], [], [.as 46 true], [], [], [.call false [] (.o (.c (.v (.int .i64 v15)))) [] []], [], [], [], [.as 53 true], [], [.call false [] (.o (.c (.sl 6))) [] [(6, .row 32 2 (v18.map Trip.enc))]], [], [.call false [] (.o (.c (.v (.bool v20)))) [] []], [], [], [.as 60 false], [], [], [], [], [], [], [], [], [], [], [], []] [.keep [2] []] laws_FnRide_x3] [] [] [] (And.intro (laws_big_ok a0 v1 h2) (And.intro h3 (And.intro (And.intro (con_sw 1002 2 (con_sw 1001 1 (con_sw 1000 0 (spec_DrawRideAt_ok a0 v4 h5)))) (rfl : ([] : List Nat) = [])) (And.intro (impl_RideAt_ok v4.1 v4.2.1 v4.2.2.1 v4.2.2.2 v6 h7) (And.intro (spec_RideAt_ok v4.1 v4.2.1 v4.2.2.1 v4.2.2.2 v8 h9) (And.intro h10 (And.intro h11 (And.intro (impl_StartsAt_ok v4.1 v6.1 v12 h13) (And.intro h14 (And.intro (impl_EndsAt_ok v4.1 v6.1 v15 h16) (And.intro h17 (And.intro (And.intro (con_sw 1000 6 (impl_TripsOf_ok v4.2.1 v4.2.2.1 v18 h19)) (rfl : ([] : List Nat) = [])) (And.intro (laws_rides_ok v18 v6.1 v20 h21) (And.intro h22 (And.intro (rfl : laws_FnRide_x3 = laws_FnRide_x3) (And.intro (And.intro (con_sw 1000 6 (impl_TripsOf_ok v4.2.1 v4.2.2.1 v18 h19)) (rfl : ([] : List Nat) = [])) (And.intro (laws_rides_ok v18 v6.1 v20 h21) (And.intro h22 (And.intro (rfl : laws_FnRide_x3 = laws_FnRide_x3) (And.intro (impl_EndsAt_ok v4.1 v6.1 v15 h16) (And.intro h17 (And.intro (And.intro (con_sw 1000 6 (impl_TripsOf_ok v4.2.1 v4.2.2.1 v18 h19)) (rfl : ([] : List Nat) = [])) (And.intro (laws_rides_ok v18 v6.1 v20 h21) (And.intro h22 (And.intro (rfl : laws_FnRide_x3 = laws_FnRide_x3) (And.intro (And.intro (con_sw 1000 6 (impl_TripsOf_ok v4.2.1 v4.2.2.1 v18 h19)) (rfl : ([] : List Nat) = [])) (And.intro (laws_rides_ok v18 v6.1 v20 h21) (And.intro h22 (And.intro (rfl : laws_FnRide_x3 = laws_FnRide_x3) (And.intro (impl_StartsAt_ok v4.1 v6.1 v12 h13) (And.intro h14 (And.intro (impl_EndsAt_ok v4.1 v6.1 v15 h16) (And.intro h17 (And.intro (And.intro (con_sw 1000 6 (impl_TripsOf_ok v4.2.1 v4.2.2.1 v18 h19)) (rfl : ([] : List Nat) = [])) (And.intro (laws_rides_ok v18 v6.1 v20 h21) (And.intro h22 (And.intro (rfl : laws_FnRide_x3 = laws_FnRide_x3) (And.intro (And.intro (con_sw 1000 6 (impl_TripsOf_ok v4.2.1 v4.2.2.1 v18 h19)) (rfl : ([] : List Nat) = [])) (And.intro (laws_rides_ok v18 v6.1 v20 h21) (And.intro h22 (And.intro (rfl : laws_FnRide_x3 = laws_FnRide_x3) (And.intro (impl_EndsAt_ok v4.1 v6.1 v15 h16) (And.intro h17 (And.intro (And.intro (con_sw 1000 6 (impl_TripsOf_ok v4.2.1 v4.2.2.1 v18 h19)) (rfl : ([] : List Nat) = [])) (And.intro (laws_rides_ok v18 v6.1 v20 h21) (And.intro h22 (And.intro (rfl : laws_FnRide_x3 = laws_FnRide_x3) (And.intro (And.intro (con_sw 1000 6 (impl_TripsOf_ok v4.2.1 v4.2.2.1 v18 h19)) (rfl : ([] : List Nat) = [])) (And.intro (laws_rides_ok v18 v6.1 v20 h21) (And.intro h22 (And.intro (rfl : laws_FnRide_x3 = laws_FnRide_x3) True.intro))))))))))))))))))))))))))))))))))))))))))))))))))) (by kernel_rfl)
          · have hE : some false = some r := hM
            have hE := Option.some.inj hE
            subst hE
            exact pr R 9999 [.call false [] (.o (.c (.v (.bool v1)))) [] [], .as 12 false, .call false [] (.tup [.agg [.sl 0, .sl 1, .v (.int .i64 v4.1.Change)], .c (.sl 2), .c (.v (.int .i64 v4.2.2.1)), .c (.v (.int .i64 v4.2.2.2))]) [] [(0, .row 64 6 (v4.1.Legs.map Leg.enc)), (1, .row 3 1 (v4.1.Off.map encI)), (2, .row 71 4 (v4.2.1.map Booking.enc))], .new 3, .call false [] (.tup [.c (.v (.agg (Trip.enc v6.1).toArray)), .c (.v (.bool v6.2))]) [] [], .new 4, .call false [] (.tup [.c (.v (.agg (Trip.enc v8.1).toArray)), .c (.v (.bool v8.2))]) [] [], .new 5, .as 38 false, .as 40 false, .xo [[], [], [.call false [] (.o (.c (.v (.int .i64 v12)))) [] []], [], [], [], [.as 46 true], [], [], [.call false [] (.o (.c (.v (.int .i64 v15)))) [] []], [], [], [], [.as 53 false], [], [], [], [], [], [], [], [], [], [], [], [], [], [], [], [], [], [], []] [.keep [2] []] laws_FnRide_x4] [] [] [] (And.intro (laws_big_ok a0 v1 h2) (And.intro h3 (And.intro (And.intro (con_sw 1002 2 (con_sw 1001 1 (con_sw 1000 0 (spec_DrawRideAt_ok a0 v4 h5)))) (rfl : ([] : List Nat) = [])) (And.intro (impl_RideAt_ok v4.1 v4.2.1 v4.2.2.1 v4.2.2.2 v6 h7) (And.intro (spec_RideAt_ok v4.1 v4.2.1 v4.2.2.1 v4.2.2.2 v8 h9) (And.intro h10 (And.intro h11 (And.intro (impl_StartsAt_ok v4.1 v6.1 v12 h13) (And.intro h14 (And.intro (impl_EndsAt_ok v4.1 v6.1 v15 h16) (And.intro h17 (And.intro (rfl : laws_FnRide_x4 = laws_FnRide_x4) (And.intro (rfl : laws_FnRide_x4 = laws_FnRide_x4) (And.intro (impl_EndsAt_ok v4.1 v6.1 v15 h16) (And.intro h17 (And.intro (rfl : laws_FnRide_x4 = laws_FnRide_x4) (And.intro (rfl : laws_FnRide_x4 = laws_FnRide_x4) (And.intro (impl_StartsAt_ok v4.1 v6.1 v12 h13) (And.intro h14 (And.intro (impl_EndsAt_ok v4.1 v6.1 v15 h16) (And.intro h17 (And.intro (rfl : laws_FnRide_x4 = laws_FnRide_x4) (And.intro (rfl : laws_FnRide_x4 = laws_FnRide_x4) (And.intro (impl_EndsAt_ok v4.1 v6.1 v15 h16) (And.intro h17 (And.intro (rfl : laws_FnRide_x4 = laws_FnRide_x4) (And.intro (rfl : laws_FnRide_x4 = laws_FnRide_x4) True.intro))))))))))))))))))))))))))) (by kernel_rfl)
        · have hE : some false = some r := hM
          have hE := Option.some.inj hE
          subst hE
          exact pr R 9999 [.call false [] (.o (.c (.v (.bool v1)))) [] [], .as 12 false, .call false [] (.tup [.agg [.sl 0, .sl 1, .v (.int .i64 v4.1.Change)], .c (.sl 2), .c (.v (.int .i64 v4.2.2.1)), .c (.v (.int .i64 v4.2.2.2))]) [] [(0, .row 64 6 (v4.1.Legs.map Leg.enc)), (1, .row 3 1 (v4.1.Off.map encI)), (2, .row 71 4 (v4.2.1.map Booking.enc))], .new 3, .call false [] (.tup [.c (.v (.agg (Trip.enc v6.1).toArray)), .c (.v (.bool v6.2))]) [] [], .new 4, .call false [] (.tup [.c (.v (.agg (Trip.enc v8.1).toArray)), .c (.v (.bool v8.2))]) [] [], .new 5, .as 38 false, .as 40 false, .xo [[], [], [.call false [] (.o (.c (.v (.int .i64 v12)))) [] []], [], [], [], [.as 46 false], [], [], [], [], [], [], [], [], [], [], [], [], [], [], [], [], [], [], [], [], [], [], [], [], [], []] [.keep [2] []] laws_FnRide_x5] [] [] [] (And.intro (laws_big_ok a0 v1 h2) (And.intro h3 (And.intro (And.intro (con_sw 1002 2 (con_sw 1001 1 (con_sw 1000 0 (spec_DrawRideAt_ok a0 v4 h5)))) (rfl : ([] : List Nat) = [])) (And.intro (impl_RideAt_ok v4.1 v4.2.1 v4.2.2.1 v4.2.2.2 v6 h7) (And.intro (spec_RideAt_ok v4.1 v4.2.1 v4.2.2.1 v4.2.2.2 v8 h9) (And.intro h10 (And.intro h11 (And.intro (impl_StartsAt_ok v4.1 v6.1 v12 h13) (And.intro h14 (And.intro (rfl : laws_FnRide_x5 = laws_FnRide_x5) (And.intro (rfl : laws_FnRide_x5 = laws_FnRide_x5) (And.intro (rfl : laws_FnRide_x5 = laws_FnRide_x5) (And.intro (rfl : laws_FnRide_x5 = laws_FnRide_x5) (And.intro (impl_StartsAt_ok v4.1 v6.1 v12 h13) (And.intro h14 (And.intro (rfl : laws_FnRide_x5 = laws_FnRide_x5) (And.intro (rfl : laws_FnRide_x5 = laws_FnRide_x5) (And.intro (rfl : laws_FnRide_x5 = laws_FnRide_x5) (And.intro (rfl : laws_FnRide_x5 = laws_FnRide_x5) True.intro))))))))))))))))))) (by kernel_rfl)
end Go.Sx
