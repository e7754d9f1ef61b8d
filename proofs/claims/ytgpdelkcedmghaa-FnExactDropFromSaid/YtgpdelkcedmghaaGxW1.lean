/- The functions of the program as plain Lean, and that each runs so (printed by wip/gen). -/
import Derived.Test.YtgpdelkcedmghaaSxR
import Derived.Laws.StructEq
import Derived.Test.YtgpdelkcedmghaaProg
namespace Go.Sx
open Go.Proofs
set_option linter.unusedVariables false
theorem Try_mixed : Try.prog.follows .mixedOrders = true := by kernel_rfl
structure Trip where
  Leg : Int
  Day : Int
  deriving DecidableEq, Inhabited
def Trip.enc (x : Trip) : List Value := [.int .i64 x.Leg, .int .i64 x.Day]
structure Leg where
  From : ByteArray
  To : ByteArray
  Start : Int
  Takes : Int
  Days : Int
  Room : Int
  deriving DecidableEq, Inhabited
def Leg.enc (x : Leg) : List Value := [.string x.From, .string x.To, .int .i64 x.Start, .int .i64 x.Takes, .int .i64 x.Days, .int .i64 x.Room]
structure Network where
  Legs : (List Leg)
  Off : (List Int)
  Change : Int
  deriving DecidableEq, Inhabited
structure Booking where
  Thing : Int
  Trip : Trip
  Weight : Int
  deriving DecidableEq, Inhabited
def Booking.enc (x : Booking) : List Value := [.int .i64 x.Thing, .int .i64 x.Trip.Leg, .int .i64 x.Trip.Day, .int .i64 x.Weight]
theorem Trip_eql31 (a b : Trip) : ∀ w, (do let r ← (do eqGuard .eql 31 (.tmp 0) (.tmp 0) (.agg (Trip.enc a).toArray) (.agg (Trip.enc b).toArray); binOp .eql 31 (.agg (Trip.enc a).toArray) (.agg (Trip.enc b).toArray)); pure (Next.value r) : Sem Next).run Try.prog w = .ok (.value (.bool (decide (a = b)))) w := by
  intro w
  simp only [Sem.run_bind]
  rw [run_eqGuard_agg w _ _ _ _ _ _ (by kernel_rfl)]
  simp only [Result.andThen_ok]
  rw [run_eql_struct, run_equalIn_struct w _ _ _ _ (by kernel_rfl) (by kernel_rfl)]
  have i3 : ∀ (x y : Int) (w : World), (Op.equalIn 9999 3 (.int .i64 x) (.int .i64 y)).run Try.prog w = .ok (x == y) w := fun x y w => run_equalIn_int w 9998 3 .i64 .i64 x y Try.underlying3
  simp [Program.fieldsOf, Try.underlying31, Op.eqFields, part, Sem.run_bind, Trip.enc, isAgg, Result.andThen, i3]
  obtain ⟨x0, x1⟩ := a
  obtain ⟨y0, y1⟩ := b
  simp only [Trip.mk.injEq]
  by_cases h0 : x0 = y0 <;> simp [h0]
  by_cases h1 : x1 = y1 <;> simp [h1]


-- loop.example/g03014/spec.Max
def spec_Max (a0 : Int) (a1 : Int) : Option Int :=
  bif (decide (a1 > a0)) then
  some a1
  else
  some a0
theorem spec_Max_ok (a0 : Int) (a1 : Int) (r : Int) (hM : spec_Max a0 a1 = some r) :
    Con Try.prog 15 [.c (.v (.int .i64 a0)), .c (.v (.int .i64 a1))] [] (.o (.c (.v (.int .i64 r)))) [] [] := by
  unfold spec_Max at hM
  refine cn (N := 10) (pids := []) Try_mixed Try.func15 (by kernel_rfl) (by kernel_rfl) (by kernel_rfl) rfl fun ρ g w R => ?_
  rcases cond_cases hM with ⟨h1, hM⟩ | ⟨h1, hM⟩
  · have hE : some a1 = some r := hM
    have hE := Option.some.inj hE
    subst hE
    exact pr R 9999 [.as 7 true] [] [] [] (And.intro h1 True.intro) (by kernel_rfl)
  · have hE : some a0 = some r := hM
    have hE := Option.some.inj hE
    subst hE
    exact pr R 9999 [.as 7 false] [] [] [] (And.intro h1 True.intro) (by kernel_rfl)

-- loop.example/g03014/impl.Max
def impl_Max (a0 : Int) (a1 : Int) : Option Int :=
  some (if a1 > a0 then a1 else a0)
theorem impl_Max_ok (a0 : Int) (a1 : Int) (r : Int) (hM : impl_Max a0 a1 = some r) :
    Con Try.prog 16 [.c (.v (.int .i64 a0)), .c (.v (.int .i64 a1))] [] (.o (.c (.v (.int .i64 r)))) [] [] := by
  unfold impl_Max at hM
  refine cn (N := 8) (pids := []) Try_mixed Try.func16 (by kernel_rfl) (by kernel_rfl) (by kernel_rfl) rfl fun ρ g w R => ?_
  have hE : some (if a1 > a0 then a1 else a0) = some r := hM
  have hE := Option.some.inj hE
  subst hE
  exact pr R 9999 [] [] [] [] True.intro (by kernel_rfl)

-- loop.example/g03014/laws.FnExactMax
def laws_FnExactMax (a0 : Int) (a1 : Int) : Option Bool :=
  (spec_Max a0 a1).bind fun v1 =>
  (impl_Max a0 a1).bind fun v3 =>
  bif (v3 != v1) then
  some false
  else
  some true
theorem laws_FnExactMax_ok (a0 : Int) (a1 : Int) (r : Bool) (hM : laws_FnExactMax a0 a1 = some r) :
    Con Try.prog 3 [.c (.v (.int .i64 a0)), .c (.v (.int .i64 a1))] [] (.o (.c (.v (.bool r)))) [] [] := by
  unfold laws_FnExactMax at hM
  refine cn (N := 16) (pids := []) Try_mixed Try.func3 (by kernel_rfl) (by kernel_rfl) (by kernel_rfl) rfl fun ρ g w R => ?_
  obtain ⟨v1, h2, hM⟩ := bind_some hM
  obtain ⟨v3, h4, hM⟩ := bind_some hM
  rcases cond_cases hM with ⟨h5, hM⟩ | ⟨h5, hM⟩
  · have hE : some false = some r := hM
    have hE := Option.some.inj hE
    subst hE
    exact pr R 9999 [.call false [] (.o (.c (.v (.int .i64 v1)))) [] [], .call false [] (.o (.c (.v (.int .i64 v3)))) [] [], .as 15 true] [] [] [] (And.intro (spec_Max_ok a0 a1 v1 h2) (And.intro (impl_Max_ok a0 a1 v3 h4) (And.intro h5 True.intro))) (by kernel_rfl)
  · have hE : some true = some r := hM
    have hE := Option.some.inj hE
    subst hE
    exact pr R 9999 [.call false [] (.o (.c (.v (.int .i64 v1)))) [] [], .call false [] (.o (.c (.v (.int .i64 v3)))) [] [], .as 15 false] [] [] [] (And.intro (spec_Max_ok a0 a1 v1 h2) (And.intro (impl_Max_ok a0 a1 v3 h4) (And.intro h5 True.intro))) (by kernel_rfl)

-- loop.example/g03014/laws.szBookingS
def laws_szBookingS (a0 : (List Booking)) (a1 : Int) : Option Int :=
  bif (decide ((w64 (a1 - (a0.length : Int))) < 0)) then
  some (-1)
  else
  some (w64 (a1 - (a0.length : Int)))
theorem laws_szBookingS_ok (a0 : (List Booking)) (a1 : Int) (r : Int) (hM : laws_szBookingS a0 a1 = some r) :
    Con Try.prog 17 [.c (.rs 4 (a0.map Booking.enc)), .c (.v (.int .i64 a1))] [] (.o (.c (.v (.int .i64 r)))) [] [] := by
  unfold laws_szBookingS at hM
  refine cn (N := 12) (pids := []) Try_mixed Try.func17 (by kernel_rfl) (by kernel_rfl) (by kernel_rfl) rfl fun ρ g w R => ?_
  rcases cond_cases hM with ⟨h1, hM⟩ | ⟨h1, hM⟩
  · have hE : some (-1) = some r := hM
    have hE := Option.some.inj hE
    subst hE
    exact pr R 9999 [.ln (a0.length), .as 10 true] [] [] [] (And.intro (lenm Booking.enc a0) (And.intro h1 True.intro)) (by kernel_rfl)
  · have hE : some (w64 (a1 - (a0.length : Int))) = some r := hM
    have hE := Option.some.inj hE
    subst hE
    exact pr R 9999 [.ln (a0.length), .as 10 false] [] [] [] (And.intro (lenm Booking.enc a0) (And.intro h1 True.intro)) (by kernel_rfl)

-- loop.example/g03014/laws.toTrip
def laws_toTrip (a0 : Trip) : Option Trip :=
  some a0
theorem laws_toTrip_ok (a0 : Trip) (r : Trip) (hM : laws_toTrip a0 = some r) :
    Con Try.prog 20 [.c (.v (.agg (Trip.enc a0).toArray))] [] (.o (.c (.v (.agg (Trip.enc r).toArray)))) [] [] := by
  unfold laws_toTrip at hM
  refine cn (N := 11) (pids := []) Try_mixed Try.func20 (by kernel_rfl) (by kernel_rfl) (by kernel_rfl) rfl fun ρ g w R => ?_
  have hE : some a0 = some r := hM
  have hE := Option.some.inj hE
  subst hE
  exact pr R 9999 [.new 0, .new 1, .new 2] [] [] [] True.intro (by kernel_rfl)

-- loop.example/g03014/laws.toBooking
def laws_toBooking (a0 : Booking) : Option Booking :=
  (laws_toTrip a0.Trip).bind fun v1 =>
  some (Booking.mk ((Booking.mk a0.Thing v1 a0.Weight).Thing) (Trip.mk ((Booking.mk a0.Thing v1 a0.Weight).Trip.Leg) ((Booking.mk a0.Thing v1 a0.Weight).Trip.Day)) ((Booking.mk a0.Thing v1 a0.Weight).Weight))
theorem laws_toBooking_ok (a0 : Booking) (r : Booking) (hM : laws_toBooking a0 = some r) :
    Con Try.prog 58 [.c (.v (.agg (Booking.enc a0).toArray))] [] (.o (.c (.v (.agg (Booking.enc r).toArray)))) [] [] := by
  unfold laws_toBooking at hM
  refine cn (N := 15) (pids := []) Try_mixed Try.func58 (by kernel_rfl) (by kernel_rfl) (by kernel_rfl) rfl fun ρ g w R => ?_
  obtain ⟨v1, h2, hM⟩ := bind_some hM
  have hE : some (Booking.mk ((Booking.mk a0.Thing v1 a0.Weight).Thing) (Trip.mk ((Booking.mk a0.Thing v1 a0.Weight).Trip.Leg) ((Booking.mk a0.Thing v1 a0.Weight).Trip.Day)) ((Booking.mk a0.Thing v1 a0.Weight).Weight)) = some r := hM
  have hE := Option.some.inj hE
  subst hE
  exact pr R 9999 [.new 0, .new 1, .new 2, .call false [] (.o (.c (.v (.agg (Trip.enc v1).toArray)))) [] []] [] [] [] (And.intro (laws_toTrip_ok a0.Trip v1 h2) True.intro) (by kernel_rfl)

-- loop.example/g03014/laws.toBookingS
def laws_toBookingS_L1_b (a0 : (List Booking)) (s3 : (List Booking)) (s4 : Int) : Option (Ctl ((List Booking) × Int) (List Booking) (List Booking)) :=
  bif (decide (s4 < (a0.length : Int))) then
  (gi a0 s4).bind fun v7 =>
  (laws_toBooking v7).bind fun v9 =>
  (gi s3 s4).bind fun v11 =>
  some (.next (List.set s3 (Int.toNat s4) v9, w64 (s4 + 1)))
  else
  some (.brk s3)
def laws_toBookingS_L1 (a0 : (List Booking)) (s : (List Booking) × Int) : Option (Ctl ((List Booking) × Int) (List Booking) (List Booking)) := laws_toBookingS_L1_b a0 s.1 s.2
def laws_toBookingS_L1_s (a0 : (List Booking)) (s3 : (List Booking)) (s4 : Int) : St := ⟨[(0, .o (.c (.rs 4 (a0.map Booking.enc)))), (3, .o (.c (.sl 0))), (4, .o (.c (.v (.int .i64 s4))))], [(0, .row 74 4 (s3.map Booking.enc))]⟩
def laws_toBookingS_L1_S (a0 : (List Booking)) (s : (List Booking) × Int) : St := laws_toBookingS_L1_s a0 s.1 s.2
def laws_toBookingS_L1_a (s5 : (List Booking)) : Option (List Booking) :=
  some s5
def laws_toBookingS_L1_k (x : ((List Booking)) ⊕ ((List Booking))) : Option (List Booking) := match x with
  | .inl t => laws_toBookingS_L1_a t
  | .inr y => some y
def laws_toBookingS (a0 : (List Booking)) : Option (List Booking) :=
  ((mkM 32 (a0.length : Int) : Option (List Booking))).bind fun v1 =>
  (loopM (laws_toBookingS_L1 a0) big (v1, 0)).bind (laws_toBookingS_L1_k)
theorem laws_toBookingS_ok (a0 : (List Booking)) (r : (List Booking)) (hM : laws_toBookingS a0 = some r) :
    Con Try.prog 19 [.c (.rs 4 (a0.map Booking.enc))] [] (.o (.c (.sl 1000))) [] [(1000, .row 74 4 (r.map Booking.enc))] := by
  unfold laws_toBookingS at hM
  refine cn (N := 23) (pids := []) Try_mixed Try.func19 (by kernel_rfl) (by kernel_rfl) (by kernel_rfl) rfl fun ρ g w R => ?_
  obtain ⟨v1, h2, hM⟩ := bind_some hM
  have K1 : ∀ (s5 : (List Booking)), laws_toBookingS_L1_a s5 = some r → Gr R [.code (cAt Try.f19 [1, 1, 1])] (⟨[(3, .o (.c (.sl 0)))], [(0, .row 74 4 (s5.map Booking.enc))]⟩) := by
    intro s5 hM
    unfold laws_toBookingS_L1_a at hM
    have hE : some s5 = some r := hM
    have hE := Option.some.inj hE
    subst hE
    exact pr R 9999 [] [.sw 0 1000] [] [1000] True.intro (by kernel_rfl)
  refine pc R 9999 [.ln (a0.length), .new 0, .nm (v1.map Booking.enc)] [.keep [0, 3, 4] [0]] (k' := [.code (.loop (cAt Try.f19 [1, 1, 0, 1, 0, 0])), .blk 0, .code (cAt Try.f19 [1, 1, 1])]) (S' := laws_toBookingS_L1_S a0 (v1, 0)) (And.intro (lenm Booking.enc a0) (And.intro (mkM_ok Booking.enc h2) True.intro)) (by kernel_rfl) ?_
  refine lq (laws_toBookingS_L1_S a0) (body := laws_toBookingS_L1 a0) (k := laws_toBookingS_L1_k) hM fun m1 s c1 hM hK1 => ?_
  obtain ⟨s3, s4⟩ := s
  have hM : laws_toBookingS_L1_b a0 s3 s4 = some c1 := hM
  unfold laws_toBookingS_L1_b at hM
  rcases cond_cases hM with ⟨h6, hM⟩ | ⟨h6, hM⟩
  · obtain ⟨v7, h8, hM⟩ := bind_some hM
    obtain ⟨v9, h10, hM⟩ := bind_some hM
    obtain ⟨v11, h12, hM⟩ := bind_some hM
    have hE : some (Ctl.next (List.set s3 (Int.toNat s4) v9, w64 (s4 + 1))) = some c1 := hM
    have hE := Option.some.inj hE
    subst hE
    exact pc R 9999 [.ln (a0.length), .as 11 true, .ix (Booking.enc v7), .call false [] (.o (.c (.v (.agg (Booking.enc v9).toArray)))) [] [], .ix (Booking.enc v11), .nm ((List.set s3 (Int.toNat s4) v9).map Booking.enc)] [.keep [0, 3, 4] [0]] (And.intro (lenm Booking.enc a0) (And.intro h6 (And.intro (gi_map Booking.enc h8) (And.intro (laws_toBooking_ok v7 v9 h10) (And.intro (gi_lt Booking.enc h12) (And.intro (And.intro (gi_map Booking.enc h12).2 (set_map Booking.enc s3 (Int.toNat s4) v9)) True.intro)))))) (by kernel_rfl) (li (Sf := laws_toBookingS_L1_S a0) (M := Mk (laws_toBookingS_L1 a0) (laws_toBookingS_L1_k) r) (k := [.blk 0, .code (cAt Try.f19 [1, 1, 1])]) (Nat.lt_succ_self m1) hK1)
  · have hE : some (Ctl.brk s3) = some c1 := hM
    have hE := Option.some.inj hE
    subst hE
    exact pc R 5 [.ln (a0.length), .as 11 false] [.keep [3] [0]] (And.intro (lenm Booking.enc a0) (And.intro h6 True.intro)) (by kernel_rfl) (K1 s3 hK1)

-- loop.example/g03014/spec.LoadOf
def spec_LoadOf_L1_b (a0 : (List Booking)) (a1 : Trip) (s1 : Int) (s2 : Int) : Option (Ctl (Int × Int) Int Int) :=
  bif (decide (s2 < (a0.length : Int))) then
  (gi a0 s2).bind fun v5 =>
  bif (decide (v5.Trip = a1)) then
  (gi a0 s2).bind fun v8 =>
  some (.next (w64 (s1 + v8.Weight), w64 (s2 + 1)))
  else
  some (.next (s1, w64 (s2 + 1)))
  else
  some (.brk s1)
def spec_LoadOf_L1 (a0 : (List Booking)) (a1 : Trip) (s : Int × Int) : Option (Ctl (Int × Int) Int Int) := spec_LoadOf_L1_b a0 a1 s.1 s.2
def spec_LoadOf_L1_s (a0 : (List Booking)) (a1 : Trip) (s1 : Int) (s2 : Int) : St := ⟨[(0, .o (.c (.rs 4 (a0.map Booking.enc)))), (3, .o (.c (.ptr 0 0))), (5, .o (.c (.v (.int .i64 s1)))), (6, .o (.c (.v (.int .i64 s2))))], [(0, .box 31 [.v (.int .i64 a1.Leg), .v (.int .i64 a1.Day)])]⟩
def spec_LoadOf_L1_S (a0 : (List Booking)) (a1 : Trip) (s : Int × Int) : St := spec_LoadOf_L1_s a0 a1 s.1 s.2
def spec_LoadOf_L1_a (s3 : Int) : Option Int :=
  some s3
def spec_LoadOf_L1_k (x : (Int) ⊕ (Int)) : Option Int := match x with
  | .inl t => spec_LoadOf_L1_a t
  | .inr y => some y
def spec_LoadOf (a0 : (List Booking)) (a1 : Trip) : Option Int :=
  (loopM (spec_LoadOf_L1 a0 a1) big (0, 0)).bind (spec_LoadOf_L1_k)
theorem spec_LoadOf_ok (a0 : (List Booking)) (a1 : Trip) (r : Int) (hM : spec_LoadOf a0 a1 = some r) :
    Con Try.prog 18 [.c (.rs 4 (a0.map Booking.enc)), .c (.v (.agg (Trip.enc a1).toArray))] [] (.o (.c (.v (.int .i64 r)))) [] [] := by
  unfold spec_LoadOf at hM
  refine cn (N := 28) (pids := []) Try_mixed Try.func18 (by kernel_rfl) (by kernel_rfl) (by kernel_rfl) rfl fun ρ g w R => ?_
  have K1 : ∀ (s3 : Int), spec_LoadOf_L1_a s3 = some r → Gr R [.code (cAt Try.f18 [1, 1, 1])] (⟨[(5, .o (.c (.v (.int .i64 s3))))], []⟩) := by
    intro s3 hM
    unfold spec_LoadOf_L1_a at hM
    have hE : some s3 = some r := hM
    have hE := Option.some.inj hE
    subst hE
    exact pr R 9999 [] [] [] [] True.intro (by kernel_rfl)
  refine pc R 9999 [.new 0] [.keep [0, 3, 5, 6] [0]] (k' := [.code (.loop (cAt Try.f18 [1, 1, 0, 1, 0, 0])), .blk 0, .code (cAt Try.f18 [1, 1, 1])]) (S' := spec_LoadOf_L1_S a0 a1 (0, 0)) True.intro (by kernel_rfl) ?_
  refine lq (spec_LoadOf_L1_S a0 a1) (body := spec_LoadOf_L1 a0 a1) (k := spec_LoadOf_L1_k) hM fun m1 s c1 hM hK1 => ?_
  obtain ⟨s1, s2⟩ := s
  have hM : spec_LoadOf_L1_b a0 a1 s1 s2 = some c1 := hM
  unfold spec_LoadOf_L1_b at hM
  rcases cond_cases hM with ⟨h4, hM⟩ | ⟨h4, hM⟩
  · obtain ⟨v5, h6, hM⟩ := bind_some hM
    rcases cond_cases hM with ⟨h7, hM⟩ | ⟨h7, hM⟩
    · obtain ⟨v8, h9, hM⟩ := bind_some hM
      have hE : some (Ctl.next (w64 (s1 + v8.Weight), w64 (s2 + 1))) = some c1 := hM
      have hE := Option.some.inj hE
      subst hE
      exact pc R 9999 [.ln (a0.length), .as 10 true, .ix (Booking.enc v5), .run 19 (.bool (decide (v5.Trip = a1))), .as 19 true, .ix (Booking.enc v8)] [.keep [0, 3, 5, 6] [0]] (And.intro (lenm Booking.enc a0) (And.intro h4 (And.intro (gi_map Booking.enc h6) (And.intro (Trip_eql31 v5.Trip a1) (And.intro h7 (And.intro (gi_map Booking.enc h9) True.intro)))))) (by kernel_rfl) (li (Sf := spec_LoadOf_L1_S a0 a1) (M := Mk (spec_LoadOf_L1 a0 a1) (spec_LoadOf_L1_k) r) (k := [.blk 0, .code (cAt Try.f18 [1, 1, 1])]) (Nat.lt_succ_self m1) hK1)
    · have hE : some (Ctl.next (s1, w64 (s2 + 1))) = some c1 := hM
      have hE := Option.some.inj hE
      subst hE
      exact pc R 9999 [.ln (a0.length), .as 10 true, .ix (Booking.enc v5), .run 19 (.bool (decide (v5.Trip = a1))), .as 19 false] [.keep [0, 3, 5, 6] [0]] (And.intro (lenm Booking.enc a0) (And.intro h4 (And.intro (gi_map Booking.enc h6) (And.intro (Trip_eql31 v5.Trip a1) (And.intro h7 True.intro))))) (by kernel_rfl) (li (Sf := spec_LoadOf_L1_S a0 a1) (M := Mk (spec_LoadOf_L1 a0 a1) (spec_LoadOf_L1_k) r) (k := [.blk 0, .code (cAt Try.f18 [1, 1, 1])]) (Nat.lt_succ_self m1) hK1)
  · have hE : some (Ctl.brk s1) = some c1 := hM
    have hE := Option.some.inj hE
    subst hE
    exact pc R 5 [.ln (a0.length), .as 10 false] [.keep [5] []] (And.intro (lenm Booking.enc a0) (And.intro h4 True.intro)) (by kernel_rfl) (K1 s1 hK1)

-- loop.example/g03014/impl.LoadOf
def impl_LoadOf_L1_b (a0 : (List Booking)) (a1 : Trip) (s1 : Int) (s2 : Int) : Option (Ctl (Int × Int) Int Int) :=
  bif (decide (s2 < (a0.length : Int))) then
  (gi a0 s2).bind fun v5 =>
  bif (decide (v5.Trip = a1)) then
  some (.next (w64 (s1 + v5.Weight), w64 (s2 + 1)))
  else
  some (.next (s1, w64 (s2 + 1)))
  else
  some (.brk s1)
def impl_LoadOf_L1 (a0 : (List Booking)) (a1 : Trip) (s : Int × Int) : Option (Ctl (Int × Int) Int Int) := impl_LoadOf_L1_b a0 a1 s.1 s.2
def impl_LoadOf_L1_s (a0 : (List Booking)) (a1 : Trip) (s1 : Int) (s2 : Int) : St := ⟨[(3, .o (.c (.ptr 0 0))), (5, .o (.c (.v (.int .i64 s1)))), (8, .o (.c (.rs 4 (a0.map Booking.enc)))), (9, .o (.c (.v (.int .i64 (a0.length : Int))))), (10, .o (.c (.v (.int .i64 s2))))], [(0, .box 31 [.v (.int .i64 a1.Leg), .v (.int .i64 a1.Day)])]⟩
def impl_LoadOf_L1_S (a0 : (List Booking)) (a1 : Trip) (s : Int × Int) : St := impl_LoadOf_L1_s a0 a1 s.1 s.2
def impl_LoadOf_L1_a (s3 : Int) : Option Int :=
  some s3
def impl_LoadOf_L1_k (x : (Int) ⊕ (Int)) : Option Int := match x with
  | .inl t => impl_LoadOf_L1_a t
  | .inr y => some y
def impl_LoadOf (a0 : (List Booking)) (a1 : Trip) : Option Int :=
  (loopM (impl_LoadOf_L1 a0 a1) big (0, 0)).bind (impl_LoadOf_L1_k)
theorem impl_LoadOf_ok (a0 : (List Booking)) (a1 : Trip) (r : Int) (hM : impl_LoadOf a0 a1 = some r) :
    Con Try.prog 21 [.c (.rs 4 (a0.map Booking.enc)), .c (.v (.agg (Trip.enc a1).toArray))] [] (.o (.c (.v (.int .i64 r)))) [] [] := by
  unfold impl_LoadOf at hM
  refine cn (N := 24) (pids := []) Try_mixed Try.func21 (by kernel_rfl) (by kernel_rfl) (by kernel_rfl) rfl fun ρ g w R => ?_
  have K1 : ∀ (s3 : Int), impl_LoadOf_L1_a s3 = some r → Gr R [.code (cAt Try.f21 [1, 1, 1])] (⟨[(5, .o (.c (.v (.int .i64 s3))))], []⟩) := by
    intro s3 hM
    unfold impl_LoadOf_L1_a at hM
    have hE : some s3 = some r := hM
    have hE := Option.some.inj hE
    subst hE
    exact pr R 9999 [] [] [] [] True.intro (by kernel_rfl)
  refine pc R 9999 [.new 0, .ln (a0.length)] [.keep [3, 5, 8, 9, 10] [0]] (k' := [.code (.loop (cAt Try.f21 [1, 1, 0, 1, 0, 0])), .blk 0, .code (cAt Try.f21 [1, 1, 1])]) (S' := impl_LoadOf_L1_S a0 a1 (0, 0)) (And.intro (lenm Booking.enc a0) True.intro) (by kernel_rfl) ?_
  refine lq (impl_LoadOf_L1_S a0 a1) (body := impl_LoadOf_L1 a0 a1) (k := impl_LoadOf_L1_k) hM fun m1 s c1 hM hK1 => ?_
  obtain ⟨s1, s2⟩ := s
  have hM : impl_LoadOf_L1_b a0 a1 s1 s2 = some c1 := hM
  unfold impl_LoadOf_L1_b at hM
  rcases cond_cases hM with ⟨h4, hM⟩ | ⟨h4, hM⟩
  · obtain ⟨v5, h6, hM⟩ := bind_some hM
    rcases cond_cases hM with ⟨h7, hM⟩ | ⟨h7, hM⟩
    · have hE : some (Ctl.next (w64 (s1 + v5.Weight), w64 (s2 + 1))) = some c1 := hM
      have hE := Option.some.inj hE
      subst hE
      exact pc R 9999 [.as 11 true, .ix (Booking.enc v5), .new 1, .run 17 (.bool (decide (v5.Trip = a1))), .as 17 true] [.keep [3, 5, 8, 9, 10] [0]] (And.intro h4 (And.intro (gi_map Booking.enc h6) (And.intro (Trip_eql31 v5.Trip a1) (And.intro h7 True.intro)))) (by kernel_rfl) (li (Sf := impl_LoadOf_L1_S a0 a1) (M := Mk (impl_LoadOf_L1 a0 a1) (impl_LoadOf_L1_k) r) (k := [.blk 0, .code (cAt Try.f21 [1, 1, 1])]) (Nat.lt_succ_self m1) hK1)
    · have hE : some (Ctl.next (s1, w64 (s2 + 1))) = some c1 := hM
      have hE := Option.some.inj hE
      subst hE
      exact pc R 9999 [.as 11 true, .ix (Booking.enc v5), .new 1, .run 17 (.bool (decide (v5.Trip = a1))), .as 17 false] [.keep [3, 5, 8, 9, 10] [0]] (And.intro h4 (And.intro (gi_map Booking.enc h6) (And.intro (Trip_eql31 v5.Trip a1) (And.intro h7 True.intro)))) (by kernel_rfl) (li (Sf := impl_LoadOf_L1_S a0 a1) (M := Mk (impl_LoadOf_L1 a0 a1) (impl_LoadOf_L1_k) r) (k := [.blk 0, .code (cAt Try.f21 [1, 1, 1])]) (Nat.lt_succ_self m1) hK1)
  · have hE : some (Ctl.brk s1) = some c1 := hM
    have hE := Option.some.inj hE
    subst hE
    exact pc R 5 [.as 11 false] [.keep [5] []] (And.intro h4 True.intro) (by kernel_rfl) (K1 s1 hK1)

-- loop.example/g03014/laws.eqTrip
def laws_eqTrip (a0 : Trip) (a1 : Trip) : Option Bool :=
  bif (a0.Leg != a1.Leg) then
  some false
  else
  bif (a0.Day != a1.Day) then
  some false
  else
  some true
theorem laws_eqTrip_ok (a0 : Trip) (a1 : Trip) (r : Bool) (hM : laws_eqTrip a0 a1 = some r) :
    Con Try.prog 51 [.c (.v (.agg (Trip.enc a0).toArray)), .c (.v (.agg (Trip.enc a1).toArray))] [] (.o (.c (.v (.bool r)))) [] [] := by
  unfold laws_eqTrip at hM
  refine cn (N := 15) (pids := []) Try_mixed Try.func51 (by kernel_rfl) (by kernel_rfl) (by kernel_rfl) rfl fun ρ g w R => ?_
  rcases cond_cases hM with ⟨h1, hM⟩ | ⟨h1, hM⟩
  · have hE : some false = some r := hM
    have hE := Option.some.inj hE
    subst hE
    exact pr R 9999 [.new 0, .new 1, .as 9 true] [] [] [] (And.intro h1 True.intro) (by kernel_rfl)
  · rcases cond_cases hM with ⟨h2, hM⟩ | ⟨h2, hM⟩
    · have hE : some false = some r := hM
      have hE := Option.some.inj hE
      subst hE
      exact pr R 9999 [.new 0, .new 1, .as 9 false, .as 14 true] [] [] [] (And.intro h1 (And.intro h2 True.intro)) (by kernel_rfl)
    · have hE : some true = some r := hM
      have hE := Option.some.inj hE
      subst hE
      exact pr R 9999 [.new 0, .new 1, .as 9 false, .as 14 false] [] [] [] (And.intro h1 (And.intro h2 True.intro)) (by kernel_rfl)

-- loop.example/g03014/laws.eqBooking
def laws_eqBooking (a0 : Booking) (a1 : Booking) : Option Bool :=
  bif (a0.Thing != a1.Thing) then
  some false
  else
  (laws_eqTrip a0.Trip a1.Trip).bind fun v2 =>
  bif (!v2) then
  some false
  else
  bif (a0.Weight != a1.Weight) then
  some false
  else
  some true
theorem laws_eqBooking_ok (a0 : Booking) (a1 : Booking) (r : Bool) (hM : laws_eqBooking a0 a1 = some r) :
    Con Try.prog 59 [.c (.v (.agg (Booking.enc a0).toArray)), .c (.v (.agg (Booking.enc a1).toArray))] [] (.o (.c (.v (.bool r)))) [] [] := by
  unfold laws_eqBooking at hM
  refine cn (N := 21) (pids := []) Try_mixed Try.func59 (by kernel_rfl) (by kernel_rfl) (by kernel_rfl) rfl fun ρ g w R => ?_
  rcases cond_cases hM with ⟨h1, hM⟩ | ⟨h1, hM⟩
  · have hE : some false = some r := hM
    have hE := Option.some.inj hE
    subst hE
    exact pr R 9999 [.new 0, .new 1, .as 9 true] [] [] [] (And.intro h1 True.intro) (by kernel_rfl)
  · obtain ⟨v2, h3, hM⟩ := bind_some hM
    rcases cond_cases hM with ⟨h4, hM⟩ | ⟨h4, hM⟩
    · have hE : some false = some r := hM
      have hE := Option.some.inj hE
      subst hE
      exact pr R 9999 [.new 0, .new 1, .as 9 false, .call false [] (.o (.c (.v (.bool v2)))) [] [], .as 15 true] [] [] [] (And.intro h1 (And.intro (laws_eqTrip_ok a0.Trip a1.Trip v2 h3) (And.intro h4 True.intro))) (by kernel_rfl)
    · rcases cond_cases hM with ⟨h5, hM⟩ | ⟨h5, hM⟩
      · have hE : some false = some r := hM
        have hE := Option.some.inj hE
        subst hE
        exact pr R 9999 [.new 0, .new 1, .as 9 false, .call false [] (.o (.c (.v (.bool v2)))) [] [], .as 15 false, .as 20 true] [] [] [] (And.intro h1 (And.intro (laws_eqTrip_ok a0.Trip a1.Trip v2 h3) (And.intro h4 (And.intro h5 True.intro)))) (by kernel_rfl)
      · have hE : some true = some r := hM
        have hE := Option.some.inj hE
        subst hE
        exact pr R 9999 [.new 0, .new 1, .as 9 false, .call false [] (.o (.c (.v (.bool v2)))) [] [], .as 15 false, .as 20 false] [] [] [] (And.intro h1 (And.intro (laws_eqTrip_ok a0.Trip a1.Trip v2 h3) (And.intro h4 (And.intro h5 True.intro)))) (by kernel_rfl)

-- loop.example/g03014/laws.eqBookingS
def laws_eqBookingS_L1_b (a0 : (List Booking)) (a1 : (List Booking)) (s2 : Int) : Option (Ctl Int Unit Bool) :=
  bif (decide (s2 < (a0.length : Int))) then
  (gi a0 s2).bind fun v4 =>
  (gi a1 s2).bind fun v6 =>
  (laws_eqBooking v4 v6).bind fun v8 =>
  bif (!v8) then
  some (.ret false)
  else
  some (.next (w64 (s2 + 1)))
  else
  some (.brk ())
def laws_eqBookingS_L1 (a0 : (List Booking)) (a1 : (List Booking)) (s : Int) : Option (Ctl Int Unit Bool) := laws_eqBookingS_L1_b a0 a1 s
def laws_eqBookingS_L1_s (a0 : (List Booking)) (a1 : (List Booking)) (s2 : Int) : St := ⟨[(0, .o (.c (.rs 4 (a0.map Booking.enc)))), (1, .o (.c (.rs 4 (a1.map Booking.enc)))), (5, .o (.c (.v (.int .i64 s2))))], []⟩
def laws_eqBookingS_L1_S (a0 : (List Booking)) (a1 : (List Booking)) (s : Int) : St := laws_eqBookingS_L1_s a0 a1 s
def laws_eqBookingS_L1_a : Option Bool :=
  some true
def laws_eqBookingS_L1_k (x : (Unit) ⊕ (Bool)) : Option Bool := match x with
  | .inl t => laws_eqBookingS_L1_a
  | .inr y => some y
def laws_eqBookingS (a0 : (List Booking)) (a1 : (List Booking)) : Option Bool :=
  bif ((a0.length : Int) != (a1.length : Int)) then
  some false
  else
  (loopM (laws_eqBookingS_L1 a0 a1) big 0).bind (laws_eqBookingS_L1_k)
theorem laws_eqBookingS_ok (a0 : (List Booking)) (a1 : (List Booking)) (r : Bool) (hM : laws_eqBookingS a0 a1 = some r) :
    Con Try.prog 22 [.c (.rs 4 (a0.map Booking.enc)), .c (.rs 4 (a1.map Booking.enc))] [] (.o (.c (.v (.bool r)))) [] [] := by
  unfold laws_eqBookingS at hM
  refine cn (N := 27) (pids := []) Try_mixed Try.func22 (by kernel_rfl) (by kernel_rfl) (by kernel_rfl) rfl fun ρ g w R => ?_
  rcases cond_cases hM with ⟨h1, hM⟩ | ⟨h1, hM⟩
  · have hE : some false = some r := hM
    have hE := Option.some.inj hE
    subst hE
    exact pr R 9999 [.ln (a0.length), .ln (a1.length), .as 10 true] [] [] [] (And.intro (lenm Booking.enc a0) (And.intro (lenm Booking.enc a1) (And.intro h1 True.intro))) (by kernel_rfl)
  · have K1 : ∀ (_ : Unit), laws_eqBookingS_L1_a = some r → Gr R [.code (cAt Try.f22 [1, 1, 1])] (⟨[], []⟩) := by
      intro _ hM
      unfold laws_eqBookingS_L1_a at hM
      have hE : some true = some r := hM
      have hE := Option.some.inj hE
      subst hE
      exact pr R 9999 [] [] [] [] True.intro (by kernel_rfl)
    refine pc R 9999 [.ln (a0.length), .ln (a1.length), .as 10 false] [.keep [0, 1, 5] []] (k' := [.code (.loop (cAt Try.f22 [1, 1, 0, 1, 0, 0])), .blk 0, .code (cAt Try.f22 [1, 1, 1])]) (S' := laws_eqBookingS_L1_S a0 a1 0) (And.intro (lenm Booking.enc a0) (And.intro (lenm Booking.enc a1) (And.intro h1 True.intro))) (by kernel_rfl) ?_
    refine lq (laws_eqBookingS_L1_S a0 a1) (body := laws_eqBookingS_L1 a0 a1) (k := laws_eqBookingS_L1_k) hM fun m1 s c1 hM hK1 => ?_
    obtain ⟨s2, hs⟩ : ∃ z, z = s := ⟨_, rfl⟩
    subst hs
    have hM : laws_eqBookingS_L1_b a0 a1 s2 = some c1 := hM
    unfold laws_eqBookingS_L1_b at hM
    rcases cond_cases hM with ⟨h3, hM⟩ | ⟨h3, hM⟩
    · obtain ⟨v4, h5, hM⟩ := bind_some hM
      obtain ⟨v6, h7, hM⟩ := bind_some hM
      obtain ⟨v8, h9, hM⟩ := bind_some hM
      rcases cond_cases hM with ⟨h10, hM⟩ | ⟨h10, hM⟩
      · have hE : some (Ctl.ret false) = some c1 := hM
        have hE := Option.some.inj hE
        subst hE
        have hE : some false = some r := hK1
        have hE := Option.some.inj hE
        subst hE
        exact pr R 9999 [.ln (a0.length), .as 14 true, .ix (Booking.enc v4), .ix (Booking.enc v6), .call false [] (.o (.c (.v (.bool v8)))) [] [], .as 26 true] [] [] [] (And.intro (lenm Booking.enc a0) (And.intro h3 (And.intro (gi_map Booking.enc h5) (And.intro (gi_map Booking.enc h7) (And.intro (laws_eqBooking_ok v4 v6 v8 h9) (And.intro h10 True.intro)))))) (by kernel_rfl)
      · have hE : some (Ctl.next (w64 (s2 + 1))) = some c1 := hM
        have hE := Option.some.inj hE
        subst hE
        exact pc R 9999 [.ln (a0.length), .as 14 true, .ix (Booking.enc v4), .ix (Booking.enc v6), .call false [] (.o (.c (.v (.bool v8)))) [] [], .as 26 false] [.keep [0, 1, 5] []] (And.intro (lenm Booking.enc a0) (And.intro h3 (And.intro (gi_map Booking.enc h5) (And.intro (gi_map Booking.enc h7) (And.intro (laws_eqBooking_ok v4 v6 v8 h9) (And.intro h10 True.intro)))))) (by kernel_rfl) (li (Sf := laws_eqBookingS_L1_S a0 a1) (M := Mk (laws_eqBookingS_L1 a0 a1) (laws_eqBookingS_L1_k) r) (k := [.blk 0, .code (cAt Try.f22 [1, 1, 1])]) (Nat.lt_succ_self m1) hK1)
    · have hE : some (Ctl.brk ()) = some c1 := hM
      have hE := Option.some.inj hE
      subst hE
      exact pc R 5 [.ln (a0.length), .as 14 false] [.keep [] []] (And.intro (lenm Booking.enc a0) (And.intro h3 True.intro)) (by kernel_rfl) (K1 () hK1)

-- loop.example/g03014/laws.FnExactLoadOf
def laws_FnExactLoadOf_x1 (a0 : (List Booking)) (a1 : Trip) (v8 : Int) : St := ⟨[(0, .o (.c (.rs 4 (a0.map Booking.enc)))), (3, .o (.c (.ptr 0 0))), (6, .o (.c (.v (.int .i64 v8))))], [(0, .box 26 [.v (.int .i64 a1.Leg), .v (.int .i64 a1.Day)])]⟩
def laws_FnExactLoadOf (a0 : (List Booking)) (a1 : Trip) : Option Bool :=
  (laws_szBookingS a0 1048576).bind fun v1 =>
  bif (decide (v1 < 0)) then
  some true
  else
  (laws_toBookingS a0).bind fun v4 =>
  (laws_toTrip a1).bind fun v6 =>
  (spec_LoadOf v4 v6).bind fun v8 =>
  (laws_toBookingS a0).bind fun v10 =>
  (laws_toTrip a1).bind fun v12 =>
  (impl_LoadOf v10 v12).bind fun v14 =>
  bif (v14 != v8) then
  some false
  else
  (laws_toBookingS a0).bind fun v17 =>
  (laws_eqBookingS v10 v17).bind fun v19 =>
  bif (!v19) then
  some false
  else
  some true
theorem laws_FnExactLoadOf_ok (a0 : (List Booking)) (a1 : Trip) (r : Bool) (hM : laws_FnExactLoadOf a0 a1 = some r) :
    Con Try.prog 4 [.c (.rs 4 (a0.map Booking.enc)), .c (.v (.agg (Trip.enc a1).toArray))] [] (.o (.c (.v (.bool r)))) [] [] := by
  unfold laws_FnExactLoadOf at hM
  refine cn (N := 33) (pids := []) Try_mixed Try.func4 (by kernel_rfl) (by kernel_rfl) (by kernel_rfl) rfl fun ρ g w R => ?_
  obtain ⟨v1, h2, hM⟩ := bind_some hM
  rcases cond_cases hM with ⟨h3, hM⟩ | ⟨h3, hM⟩
  · have hE : some true = some r := hM
    have hE := Option.some.inj hE
    subst hE
    exact pr R 9999 [.new 0, .call false [] (.o (.c (.v (.int .i64 v1)))) [] [], .as 13 true] [] [] [] (And.intro (laws_szBookingS_ok a0 1048576 v1 h2) (And.intro h3 True.intro)) (by kernel_rfl)
  · obtain ⟨v4, h5, hM⟩ := bind_some hM
    obtain ⟨v6, h7, hM⟩ := bind_some hM
    obtain ⟨v8, h9, hM⟩ := bind_some hM
    obtain ⟨v10, h11, hM⟩ := bind_some hM
    obtain ⟨v12, h13, hM⟩ := bind_some hM
    obtain ⟨v14, h15, hM⟩ := bind_some hM
    rcases cond_cases hM with ⟨h16, hM⟩ | ⟨h16, hM⟩
    · have hE : some false = some r := hM
      have hE := Option.some.inj hE
      subst hE
      exact pr R 9999 [.new 0, .call false [] (.o (.c (.v (.int .i64 v1)))) [] [], .as 13 false, .xo [[], [.call false [] (.o (.c (.sl 1))) [] [(1, .row 74 4 (v4.map Booking.enc))]], [], [.call false [] (.o (.c (.v (.agg (Trip.enc v6).toArray)))) [] []], [.call false [] (.o (.c (.v (.int .i64 v8)))) [] []], []] [.keep [0, 3, 6] [0]] (laws_FnExactLoadOf_x1 a0 a1 v8), .call false [] (.o (.c (.sl 2))) [] [(2, .row 74 4 (v10.map Booking.enc))], .call false [] (.o (.c (.v (.agg (Trip.enc v12).toArray)))) [] [], .call false [] (.o (.c (.v (.int .i64 v14)))) [] [], .as 27 true] [] [] [] (And.intro (laws_szBookingS_ok a0 1048576 v1 h2) (And.intro h3 (And.intro (And.intro (con_sw 1000 1 (laws_toBookingS_ok a0 v4 h5)) (rfl : ([] : List Nat) = [])) (And.intro (laws_toTrip_ok a1 v6 h7) (And.intro (spec_LoadOf_ok v4 v6 v8 h9) (And.intro (rfl : (laws_FnExactLoadOf_x1 a0 a1 v8) = (laws_FnExactLoadOf_x1 a0 a1 v8)) (And.intro (And.intro (con_sw 1000 1 (laws_toBookingS_ok a0 v4 h5)) (rfl : ([] : List Nat) = [])) (And.intro (laws_toTrip_ok a1 v6 h7) (And.intro (spec_LoadOf_ok v4 v6 v8 h9) (And.intro (rfl : (laws_FnExactLoadOf_x1 a0 a1 v8) = (laws_FnExactLoadOf_x1 a0 a1 v8)) (And.intro (And.intro (con_sw 1000 2 (laws_toBookingS_ok a0 v10 h11)) (rfl : ([] : List Nat) = [])) (And.intro (laws_toTrip_ok a1 v12 h13) (And.intro (impl_LoadOf_ok v10 v12 v14 h15) (And.intro h16 True.intro)))))))))))))) (by kernel_rfl)
    · obtain ⟨v17, h18, hM⟩ := bind_some hM
      obtain ⟨v19, h20, hM⟩ := bind_some hM
      rcases cond_cases hM with ⟨h21, hM⟩ | ⟨h21, hM⟩
      · have hE : some false = some r := hM
        have hE := Option.some.inj hE
        subst hE
        exact pr R 9999 [.new 0, .call false [] (.o (.c (.v (.int .i64 v1)))) [] [], .as 13 false, .xo [[], [.call false [] (.o (.c (.sl 1))) [] [(1, .row 74 4 (v4.map Booking.enc))]], [], [.call false [] (.o (.c (.v (.agg (Trip.enc v6).toArray)))) [] []], [.call false [] (.o (.c (.v (.int .i64 v8)))) [] []], []] [.keep [0, 3, 6] [0]] (laws_FnExactLoadOf_x1 a0 a1 v8), .call false [] (.o (.c (.sl 2))) [] [(2, .row 74 4 (v10.map Booking.enc))], .call false [] (.o (.c (.v (.agg (Trip.enc v12).toArray)))) [] [], .call false [] (.o (.c (.v (.int .i64 v14)))) [] [], .as 27 false, .call false [] (.o (.c (.sl 3))) [] [(3, .row 74 4 (v17.map Booking.enc))], .call false [] (.o (.c (.v (.bool v19)))) [] [], .as 32 true] [] [] [] (And.intro (laws_szBookingS_ok a0 1048576 v1 h2) (And.intro h3 (And.intro (And.intro (con_sw 1000 1 (laws_toBookingS_ok a0 v4 h5)) (rfl : ([] : List Nat) = [])) (And.intro (laws_toTrip_ok a1 v6 h7) (And.intro (spec_LoadOf_ok v4 v6 v8 h9) (And.intro (rfl : (laws_FnExactLoadOf_x1 a0 a1 v8) = (laws_FnExactLoadOf_x1 a0 a1 v8)) (And.intro (And.intro (con_sw 1000 1 (laws_toBookingS_ok a0 v4 h5)) (rfl : ([] : List Nat) = [])) (And.intro (laws_toTrip_ok a1 v6 h7) (And.intro (spec_LoadOf_ok v4 v6 v8 h9) (And.intro (rfl : (laws_FnExactLoadOf_x1 a0 a1 v8) = (laws_FnExactLoadOf_x1 a0 a1 v8)) (And.intro (And.intro (con_sw 1000 2 (laws_toBookingS_ok a0 v10 h11)) (rfl : ([] : List Nat) = [])) (And.intro (laws_toTrip_ok a1 v12 h13) (And.intro (impl_LoadOf_ok v10 v12 v14 h15) (And.intro h16 (And.intro (And.intro (con_sw 1000 3 (laws_toBookingS_ok a0 v17 h18)) (rfl : ([] : List Nat) = [])) (And.intro (laws_eqBookingS_ok v10 v17 v19 h20) (And.intro h21 True.intro))))))))))))))))) (by kernel_rfl)
      · have hE : some true = some r := hM
        have hE := Option.some.inj hE
        subst hE
        exact pr R 9999 [.new 0, .call false [] (.o (.c (.v (.int .i64 v1)))) [] [], .as 13 false, .xo [[], [.call false [] (.o (.c (.sl 1))) [] [(1, .row 74 4 (v4.map Booking.enc))]], [], [.call false [] (.o (.c (.v (.agg (Trip.enc v6).toArray)))) [] []], [.call false [] (.o (.c (.v (.int .i64 v8)))) [] []], []] [.keep [0, 3, 6] [0]] (laws_FnExactLoadOf_x1 a0 a1 v8), .call false [] (.o (.c (.sl 2))) [] [(2, .row 74 4 (v10.map Booking.enc))], .call false [] (.o (.c (.v (.agg (Trip.enc v12).toArray)))) [] [], .call false [] (.o (.c (.v (.int .i64 v14)))) [] [], .as 27 false, .call false [] (.o (.c (.sl 3))) [] [(3, .row 74 4 (v17.map Booking.enc))], .call false [] (.o (.c (.v (.bool v19)))) [] [], .as 32 false] [] [] [] (And.intro (laws_szBookingS_ok a0 1048576 v1 h2) (And.intro h3 (And.intro (And.intro (con_sw 1000 1 (laws_toBookingS_ok a0 v4 h5)) (rfl : ([] : List Nat) = [])) (And.intro (laws_toTrip_ok a1 v6 h7) (And.intro (spec_LoadOf_ok v4 v6 v8 h9) (And.intro (rfl : (laws_FnExactLoadOf_x1 a0 a1 v8) = (laws_FnExactLoadOf_x1 a0 a1 v8)) (And.intro (And.intro (con_sw 1000 1 (laws_toBookingS_ok a0 v4 h5)) (rfl : ([] : List Nat) = [])) (And.intro (laws_toTrip_ok a1 v6 h7) (And.intro (spec_LoadOf_ok v4 v6 v8 h9) (And.intro (rfl : (laws_FnExactLoadOf_x1 a0 a1 v8) = (laws_FnExactLoadOf_x1 a0 a1 v8)) (And.intro (And.intro (con_sw 1000 2 (laws_toBookingS_ok a0 v10 h11)) (rfl : ([] : List Nat) = [])) (And.intro (laws_toTrip_ok a1 v12 h13) (And.intro (impl_LoadOf_ok v10 v12 v14 h15) (And.intro h16 (And.intro (And.intro (con_sw 1000 3 (laws_toBookingS_ok a0 v17 h18)) (rfl : ([] : List Nat) = [])) (And.intro (laws_eqBookingS_ok v10 v17 v19 h20) (And.intro h21 True.intro))))))))))))))))) (by kernel_rfl)

-- loop.example/g03014/spec.WhoRides
def spec_WhoRides_L1_b (a0 : (List Booking)) (a1 : Trip) (s1 : (List Int)) (s2 : Int) : Option (Ctl ((List Int) × Int) (List Int) (List Int)) :=
  bif (decide (s2 < (a0.length : Int))) then
  (gi a0 s2).bind fun v5 =>
  bif (decide (v5.Trip = a1)) then
  (gi a0 s2).bind fun v8 =>
  (ap 8 s1 ([v8.Thing] : List Int)).bind fun v10 =>
  some (.next (v10, w64 (s2 + 1)))
  else
  some (.next (s1, w64 (s2 + 1)))
  else
  some (.brk s1)
def spec_WhoRides_L1 (a0 : (List Booking)) (a1 : Trip) (s : (List Int) × Int) : Option (Ctl ((List Int) × Int) (List Int) (List Int)) := spec_WhoRides_L1_b a0 a1 s.1 s.2
def spec_WhoRides_L1_s (a0 : (List Booking)) (a1 : Trip) (s1 : (List Int)) (s2 : Int) : St := ⟨[(0, .o (.c (.rs 4 (a0.map Booking.enc)))), (3, .o (.c (.ptr 0 0))), (5, .o (.c (.sl 1))), (6, .o (.c (.v (.int .i64 s2))))], [(0, .box 31 [.v (.int .i64 a1.Leg), .v (.int .i64 a1.Day)]), (1, .row 3 1 (s1.map encI))]⟩
def spec_WhoRides_L1_S (a0 : (List Booking)) (a1 : Trip) (s : (List Int) × Int) : St := spec_WhoRides_L1_s a0 a1 s.1 s.2
def spec_WhoRides_L1_a (s3 : (List Int)) : Option (List Int) :=
  some s3
def spec_WhoRides_L1_k (x : ((List Int)) ⊕ ((List Int))) : Option (List Int) := match x with
  | .inl t => spec_WhoRides_L1_a t
  | .inr y => some y
def spec_WhoRides (a0 : (List Booking)) (a1 : Trip) : Option (List Int) :=
  (loopM (spec_WhoRides_L1 a0 a1) big (([] : List Int), 0)).bind (spec_WhoRides_L1_k)
theorem spec_WhoRides_ok (a0 : (List Booking)) (a1 : Trip) (r : (List Int)) (hM : spec_WhoRides a0 a1 = some r) :
    Con Try.prog 23 [.c (.rs 4 (a0.map Booking.enc)), .c (.v (.agg (Trip.enc a1).toArray))] [] (.o (.c (.sl 1000))) [] [(1000, .row 3 1 (r.map encI))] := by
  unfold spec_WhoRides at hM
  refine cn (N := 30) (pids := []) Try_mixed Try.func23 (by kernel_rfl) (by kernel_rfl) (by kernel_rfl) rfl fun ρ g w R => ?_
  have K1 : ∀ (s3 : (List Int)), spec_WhoRides_L1_a s3 = some r → Gr R [.code (cAt Try.f23 [1, 1, 1])] (⟨[(5, .o (.c (.sl 1)))], [(1, .row 3 1 (s3.map encI))]⟩) := by
    intro s3 hM
    unfold spec_WhoRides_L1_a at hM
    have hE : some s3 = some r := hM
    have hE := Option.some.inj hE
    subst hE
    exact pr R 9999 [] [.sw 1 1000] [] [1000] True.intro (by kernel_rfl)
  refine pc R 9999 [.new 0, .new 1] [.keep [0, 3, 5, 6] [0, 1]] (k' := [.code (.loop (cAt Try.f23 [1, 1, 0, 1, 0, 0])), .blk 0, .code (cAt Try.f23 [1, 1, 1])]) (S' := spec_WhoRides_L1_S a0 a1 (([] : List Int), 0)) True.intro (by kernel_rfl) ?_
  refine lq (spec_WhoRides_L1_S a0 a1) (body := spec_WhoRides_L1 a0 a1) (k := spec_WhoRides_L1_k) hM fun m1 s c1 hM hK1 => ?_
  obtain ⟨s1, s2⟩ := s
  have hM : spec_WhoRides_L1_b a0 a1 s1 s2 = some c1 := hM
  unfold spec_WhoRides_L1_b at hM
  rcases cond_cases hM with ⟨h4, hM⟩ | ⟨h4, hM⟩
  · obtain ⟨v5, h6, hM⟩ := bind_some hM
    rcases cond_cases hM with ⟨h7, hM⟩ | ⟨h7, hM⟩
    · obtain ⟨v8, h9, hM⟩ := bind_some hM
      obtain ⟨v10, h11, hM⟩ := bind_some hM
      have hE : some (Ctl.next (v10, w64 (s2 + 1))) = some c1 := hM
      have hE := Option.some.inj hE
      subst hE
      exact pc R 9999 [.ln (a0.length), .as 11 true, .ix (Booking.enc v5), .run 20 (.bool (decide (v5.Trip = a1))), .as 20 true, .ix (Booking.enc v8), .new 2, .new 3, .nm (v10.map encI)] [.sw 3 1, .keep [0, 3, 5, 6] [0, 1]] (And.intro (lenm Booking.enc a0) (And.intro h4 (And.intro (gi_map Booking.enc h6) (And.intro (Trip_eql31 v5.Trip a1) (And.intro h7 (And.intro (gi_map Booking.enc h9) (And.intro (ap_ok encI h11) True.intro))))))) (by kernel_rfl) (li (Sf := spec_WhoRides_L1_S a0 a1) (M := Mk (spec_WhoRides_L1 a0 a1) (spec_WhoRides_L1_k) r) (k := [.blk 0, .code (cAt Try.f23 [1, 1, 1])]) (Nat.lt_succ_self m1) hK1)
    · have hE : some (Ctl.next (s1, w64 (s2 + 1))) = some c1 := hM
      have hE := Option.some.inj hE
      subst hE
      exact pc R 9999 [.ln (a0.length), .as 11 true, .ix (Booking.enc v5), .run 20 (.bool (decide (v5.Trip = a1))), .as 20 false] [.keep [0, 3, 5, 6] [0, 1]] (And.intro (lenm Booking.enc a0) (And.intro h4 (And.intro (gi_map Booking.enc h6) (And.intro (Trip_eql31 v5.Trip a1) (And.intro h7 True.intro))))) (by kernel_rfl) (li (Sf := spec_WhoRides_L1_S a0 a1) (M := Mk (spec_WhoRides_L1 a0 a1) (spec_WhoRides_L1_k) r) (k := [.blk 0, .code (cAt Try.f23 [1, 1, 1])]) (Nat.lt_succ_self m1) hK1)
  · have hE : some (Ctl.brk s1) = some c1 := hM
    have hE := Option.some.inj hE
    subst hE
    exact pc R 5 [.ln (a0.length), .as 11 false] [.keep [5] [1]] (And.intro (lenm Booking.enc a0) (And.intro h4 True.intro)) (by kernel_rfl) (K1 s1 hK1)

-- loop.example/g03014/impl.WhoRides
def impl_WhoRides_L1_b (a0 : (List Booking)) (a1 : Trip) (s1 : (List Int)) (s2 : Int) : Option (Ctl ((List Int) × Int) (List Int) (List Int)) :=
  bif (decide (s2 < (a0.length : Int))) then
  (gi a0 s2).bind fun v5 =>
  bif (decide (v5.Trip = a1)) then
  (ap 8 s1 ([v5.Thing] : List Int)).bind fun v8 =>
  some (.next (v8, w64 (s2 + 1)))
  else
  some (.next (s1, w64 (s2 + 1)))
  else
  some (.brk s1)
def impl_WhoRides_L1 (a0 : (List Booking)) (a1 : Trip) (s : (List Int) × Int) : Option (Ctl ((List Int) × Int) (List Int) (List Int)) := impl_WhoRides_L1_b a0 a1 s.1 s.2
def impl_WhoRides_L1_s (a0 : (List Booking)) (a1 : Trip) (s1 : (List Int)) (s2 : Int) : St := ⟨[(3, .o (.c (.ptr 0 0))), (5, .o (.c (.sl 1))), (9, .o (.c (.rs 4 (a0.map Booking.enc)))), (10, .o (.c (.v (.int .i64 (a0.length : Int))))), (11, .o (.c (.v (.int .i64 s2))))], [(0, .box 31 [.v (.int .i64 a1.Leg), .v (.int .i64 a1.Day)]), (1, .row 3 1 (s1.map encI))]⟩
def impl_WhoRides_L1_S (a0 : (List Booking)) (a1 : Trip) (s : (List Int) × Int) : St := impl_WhoRides_L1_s a0 a1 s.1 s.2
def impl_WhoRides_L1_a (s3 : (List Int)) : Option (List Int) :=
  some s3
def impl_WhoRides_L1_k (x : ((List Int)) ⊕ ((List Int))) : Option (List Int) := match x with
  | .inl t => impl_WhoRides_L1_a t
  | .inr y => some y
def impl_WhoRides (a0 : (List Booking)) (a1 : Trip) : Option (List Int) :=
  (loopM (impl_WhoRides_L1 a0 a1) big (([] : List Int), 0)).bind (impl_WhoRides_L1_k)
theorem impl_WhoRides_ok (a0 : (List Booking)) (a1 : Trip) (r : (List Int)) (hM : impl_WhoRides a0 a1 = some r) :
    Con Try.prog 24 [.c (.rs 4 (a0.map Booking.enc)), .c (.v (.agg (Trip.enc a1).toArray))] [] (.o (.c (.sl 1000))) [] [(1000, .row 3 1 (r.map encI))] := by
  unfold impl_WhoRides at hM
  refine cn (N := 26) (pids := []) Try_mixed Try.func24 (by kernel_rfl) (by kernel_rfl) (by kernel_rfl) rfl fun ρ g w R => ?_
  have K1 : ∀ (s3 : (List Int)), impl_WhoRides_L1_a s3 = some r → Gr R [.code (cAt Try.f24 [1, 1, 1])] (⟨[(5, .o (.c (.sl 1)))], [(1, .row 3 1 (s3.map encI))]⟩) := by
    intro s3 hM
    unfold impl_WhoRides_L1_a at hM
    have hE : some s3 = some r := hM
    have hE := Option.some.inj hE
    subst hE
    exact pr R 9999 [] [.sw 1 1000] [] [1000] True.intro (by kernel_rfl)
  refine pc R 9999 [.new 0, .new 1, .ln (a0.length)] [.keep [3, 5, 9, 10, 11] [0, 1]] (k' := [.code (.loop (cAt Try.f24 [1, 1, 0, 1, 0, 0])), .blk 0, .code (cAt Try.f24 [1, 1, 1])]) (S' := impl_WhoRides_L1_S a0 a1 (([] : List Int), 0)) (And.intro (lenm Booking.enc a0) True.intro) (by kernel_rfl) ?_
  refine lq (impl_WhoRides_L1_S a0 a1) (body := impl_WhoRides_L1 a0 a1) (k := impl_WhoRides_L1_k) hM fun m1 s c1 hM hK1 => ?_
  obtain ⟨s1, s2⟩ := s
  have hM : impl_WhoRides_L1_b a0 a1 s1 s2 = some c1 := hM
  unfold impl_WhoRides_L1_b at hM
  rcases cond_cases hM with ⟨h4, hM⟩ | ⟨h4, hM⟩
  · obtain ⟨v5, h6, hM⟩ := bind_some hM
    rcases cond_cases hM with ⟨h7, hM⟩ | ⟨h7, hM⟩
    · obtain ⟨v8, h9, hM⟩ := bind_some hM
      have hE : some (Ctl.next (v8, w64 (s2 + 1))) = some c1 := hM
      have hE := Option.some.inj hE
      subst hE
      exact pc R 9999 [.as 12 true, .ix (Booking.enc v5), .new 2, .run 18 (.bool (decide (v5.Trip = a1))), .as 18 true, .new 3, .new 4, .nm (v8.map encI)] [.sw 4 1, .keep [3, 5, 9, 10, 11] [0, 1]] (And.intro h4 (And.intro (gi_map Booking.enc h6) (And.intro (Trip_eql31 v5.Trip a1) (And.intro h7 (And.intro (ap_ok encI h9) True.intro))))) (by kernel_rfl) (li (Sf := impl_WhoRides_L1_S a0 a1) (M := Mk (impl_WhoRides_L1 a0 a1) (impl_WhoRides_L1_k) r) (k := [.blk 0, .code (cAt Try.f24 [1, 1, 1])]) (Nat.lt_succ_self m1) hK1)
    · have hE : some (Ctl.next (s1, w64 (s2 + 1))) = some c1 := hM
      have hE := Option.some.inj hE
      subst hE
      exact pc R 9999 [.as 12 true, .ix (Booking.enc v5), .new 2, .run 18 (.bool (decide (v5.Trip = a1))), .as 18 false] [.keep [3, 5, 9, 10, 11] [0, 1]] (And.intro h4 (And.intro (gi_map Booking.enc h6) (And.intro (Trip_eql31 v5.Trip a1) (And.intro h7 True.intro)))) (by kernel_rfl) (li (Sf := impl_WhoRides_L1_S a0 a1) (M := Mk (impl_WhoRides_L1 a0 a1) (impl_WhoRides_L1_k) r) (k := [.blk 0, .code (cAt Try.f24 [1, 1, 1])]) (Nat.lt_succ_self m1) hK1)
  · have hE : some (Ctl.brk s1) = some c1 := hM
    have hE := Option.some.inj hE
    subst hE
    exact pc R 5 [.as 12 false] [.keep [5] [1]] (And.intro h4 True.intro) (by kernel_rfl) (K1 s1 hK1)

-- loop.example/g03014/laws.eqIntS
def laws_eqIntS_L1_b (a0 : (List Int)) (a1 : (List Int)) (s2 : Int) : Option (Ctl Int Unit Bool) :=
  bif (decide (s2 < (a0.length : Int))) then
  (gi a0 s2).bind fun v4 =>
  (gi a1 s2).bind fun v6 =>
  bif (v4 != v6) then
  some (.ret false)
  else
  some (.next (w64 (s2 + 1)))
  else
  some (.brk ())
def laws_eqIntS_L1 (a0 : (List Int)) (a1 : (List Int)) (s : Int) : Option (Ctl Int Unit Bool) := laws_eqIntS_L1_b a0 a1 s
def laws_eqIntS_L1_s (a0 : (List Int)) (a1 : (List Int)) (s2 : Int) : St := ⟨[(0, .o (.c (.rs 1 (a0.map encI)))), (1, .o (.c (.rs 1 (a1.map encI)))), (5, .o (.c (.v (.int .i64 s2))))], []⟩
def laws_eqIntS_L1_S (a0 : (List Int)) (a1 : (List Int)) (s : Int) : St := laws_eqIntS_L1_s a0 a1 s
def laws_eqIntS_L1_a : Option Bool :=
  some true
def laws_eqIntS_L1_k (x : (Unit) ⊕ (Bool)) : Option Bool := match x with
  | .inl t => laws_eqIntS_L1_a
  | .inr y => some y
def laws_eqIntS (a0 : (List Int)) (a1 : (List Int)) : Option Bool :=
  bif ((a0.length : Int) != (a1.length : Int)) then
  some false
  else
  (loopM (laws_eqIntS_L1 a0 a1) big 0).bind (laws_eqIntS_L1_k)
theorem laws_eqIntS_ok (a0 : (List Int)) (a1 : (List Int)) (r : Bool) (hM : laws_eqIntS a0 a1 = some r) :
    Con Try.prog 25 [.c (.rs 1 (a0.map encI)), .c (.rs 1 (a1.map encI))] [] (.o (.c (.v (.bool r)))) [] [] := by
  unfold laws_eqIntS at hM
  refine cn (N := 26) (pids := []) Try_mixed Try.func25 (by kernel_rfl) (by kernel_rfl) (by kernel_rfl) rfl fun ρ g w R => ?_
  rcases cond_cases hM with ⟨h1, hM⟩ | ⟨h1, hM⟩
  · have hE : some false = some r := hM
    have hE := Option.some.inj hE
    subst hE
    exact pr R 9999 [.ln (a0.length), .ln (a1.length), .as 10 true] [] [] [] (And.intro (lenm encI a0) (And.intro (lenm encI a1) (And.intro h1 True.intro))) (by kernel_rfl)
  · have K1 : ∀ (_ : Unit), laws_eqIntS_L1_a = some r → Gr R [.code (cAt Try.f25 [1, 1, 1])] (⟨[], []⟩) := by
      intro _ hM
      unfold laws_eqIntS_L1_a at hM
      have hE : some true = some r := hM
      have hE := Option.some.inj hE
      subst hE
      exact pr R 9999 [] [] [] [] True.intro (by kernel_rfl)
    refine pc R 9999 [.ln (a0.length), .ln (a1.length), .as 10 false] [.keep [0, 1, 5] []] (k' := [.code (.loop (cAt Try.f25 [1, 1, 0, 1, 0, 0])), .blk 0, .code (cAt Try.f25 [1, 1, 1])]) (S' := laws_eqIntS_L1_S a0 a1 0) (And.intro (lenm encI a0) (And.intro (lenm encI a1) (And.intro h1 True.intro))) (by kernel_rfl) ?_
    refine lq (laws_eqIntS_L1_S a0 a1) (body := laws_eqIntS_L1 a0 a1) (k := laws_eqIntS_L1_k) hM fun m1 s c1 hM hK1 => ?_
    obtain ⟨s2, hs⟩ : ∃ z, z = s := ⟨_, rfl⟩
    subst hs
    have hM : laws_eqIntS_L1_b a0 a1 s2 = some c1 := hM
    unfold laws_eqIntS_L1_b at hM
    rcases cond_cases hM with ⟨h3, hM⟩ | ⟨h3, hM⟩
    · obtain ⟨v4, h5, hM⟩ := bind_some hM
      obtain ⟨v6, h7, hM⟩ := bind_some hM
      rcases cond_cases hM with ⟨h8, hM⟩ | ⟨h8, hM⟩
      · have hE : some (Ctl.ret false) = some c1 := hM
        have hE := Option.some.inj hE
        subst hE
        have hE : some false = some r := hK1
        have hE := Option.some.inj hE
        subst hE
        exact pr R 9999 [.ln (a0.length), .as 14 true, .ix (encI v4), .ix (encI v6), .as 25 true] [] [] [] (And.intro (lenm encI a0) (And.intro h3 (And.intro (gi_map encI h5) (And.intro (gi_map encI h7) (And.intro h8 True.intro))))) (by kernel_rfl)
      · have hE : some (Ctl.next (w64 (s2 + 1))) = some c1 := hM
        have hE := Option.some.inj hE
        subst hE
        exact pc R 9999 [.ln (a0.length), .as 14 true, .ix (encI v4), .ix (encI v6), .as 25 false] [.keep [0, 1, 5] []] (And.intro (lenm encI a0) (And.intro h3 (And.intro (gi_map encI h5) (And.intro (gi_map encI h7) (And.intro h8 True.intro))))) (by kernel_rfl) (li (Sf := laws_eqIntS_L1_S a0 a1) (M := Mk (laws_eqIntS_L1 a0 a1) (laws_eqIntS_L1_k) r) (k := [.blk 0, .code (cAt Try.f25 [1, 1, 1])]) (Nat.lt_succ_self m1) hK1)
    · have hE : some (Ctl.brk ()) = some c1 := hM
      have hE := Option.some.inj hE
      subst hE
      exact pc R 5 [.ln (a0.length), .as 14 false] [.keep [] []] (And.intro (lenm encI a0) (And.intro h3 True.intro)) (by kernel_rfl) (K1 () hK1)

-- loop.example/g03014/laws.markBookingS
def laws_markBookingS_L1_b (s1 : (List Booking)) (s2 : Int) (s3 : Int) : Option (Ctl ((List Booking) × Int × Int) ((List Booking) × Int) (Int × (List Booking))) :=
  bif (decide (s3 < (s1.length : Int))) then
  (gi s1 s3).bind fun v7 =>
  (gi (List.set s1 (Int.toNat s3) (Booking.mk s2 v7.Trip v7.Weight)) s3).bind fun v9 =>
  (gi (List.set (List.set s1 (Int.toNat s3) (Booking.mk s2 v7.Trip v7.Weight)) (Int.toNat s3) (Booking.mk v9.Thing (Trip.mk (w64 (s2 + 1)) v9.Trip.Day) v9.Weight)) s3).bind fun v11 =>
  (gi (List.set (List.set (List.set s1 (Int.toNat s3) (Booking.mk s2 v7.Trip v7.Weight)) (Int.toNat s3) (Booking.mk v9.Thing (Trip.mk (w64 (s2 + 1)) v9.Trip.Day) v9.Weight)) (Int.toNat s3) (Booking.mk v11.Thing (Trip.mk v11.Trip.Leg (w64 ((w64 (s2 + 1)) + 1))) v11.Weight)) s3).bind fun v13 =>
  some (.next (List.set (List.set (List.set (List.set s1 (Int.toNat s3) (Booking.mk s2 v7.Trip v7.Weight)) (Int.toNat s3) (Booking.mk v9.Thing (Trip.mk (w64 (s2 + 1)) v9.Trip.Day) v9.Weight)) (Int.toNat s3) (Booking.mk v11.Thing (Trip.mk v11.Trip.Leg (w64 ((w64 (s2 + 1)) + 1))) v11.Weight)) (Int.toNat s3) (Booking.mk v13.Thing v13.Trip (w64 ((w64 ((w64 (s2 + 1)) + 1)) + 1))), w64 ((w64 ((w64 ((w64 (s2 + 1)) + 1)) + 1)) + 1), w64 (s3 + 1)))
  else
  some (.brk (s1, s2))
def laws_markBookingS_L1 (s : (List Booking) × Int × Int) : Option (Ctl ((List Booking) × Int × Int) ((List Booking) × Int) (Int × (List Booking))) := laws_markBookingS_L1_b s.1 s.2.1 s.2.2
def laws_markBookingS_L1_s (s1 : (List Booking)) (s2 : Int) (s3 : Int) : St := ⟨[(0, .o (.c (.sl 900))), (1, .o (.c (.v (.int .i64 s2)))), (5, .o (.c (.v (.int .i64 s3))))], [(900, .row 74 4 (s1.map Booking.enc))]⟩
def laws_markBookingS_L1_S (s : (List Booking) × Int × Int) : St := laws_markBookingS_L1_s s.1 s.2.1 s.2.2
def laws_markBookingS_L1_a (s4 : (List Booking)) (s5 : Int) : Option (Int × (List Booking)) :=
  some (s5, s4)
def laws_markBookingS_L1_k (x : ((List Booking) × Int) ⊕ (Int × (List Booking))) : Option (Int × (List Booking)) := match x with
  | .inl t => laws_markBookingS_L1_a t.1 t.2
  | .inr y => some y
def laws_markBookingS (a0 : (List Booking)) (a1 : Int) : Option (Int × (List Booking)) :=
  (loopM (laws_markBookingS_L1) big (a0, a1, 0)).bind (laws_markBookingS_L1_k)
theorem laws_markBookingS_ok (a0 : (List Booking)) (a1 : Int) (r : Int × (List Booking)) (hM : laws_markBookingS a0 a1 = some r) :
    Con Try.prog 26 [.c (.sl 900), .c (.v (.int .i64 a1))] [(900, .row 74 4 (a0.map Booking.enc))] (.o (.c (.v (.int .i64 r.1)))) [(900, .row 74 4 (r.2.map Booking.enc))] [] := by
  unfold laws_markBookingS at hM
  refine cn (N := 43) (pids := [900]) Try_mixed Try.func26 (by kernel_rfl) (by kernel_rfl) (by kernel_rfl) rfl fun ρ g w R => ?_
  have K1 : ∀ (s4 : (List Booking)) (s5 : Int), laws_markBookingS_L1_a s4 s5 = some r → Gr R [.code (cAt Try.f26 [1, 1])] (⟨[(0, .o (.c (.sl 900))), (1, .o (.c (.v (.int .i64 s5))))], [(900, .row 74 4 (s4.map Booking.enc))]⟩) := by
    intro s4 s5 hM
    unfold laws_markBookingS_L1_a at hM
    have hE : some (s5, s4) = some r := hM
    have hE := Option.some.inj hE
    subst hE
    exact pr R 9999 [] [] [900] [] True.intro (by kernel_rfl)
  refine pc R 9999 [] [.keep [0, 1, 5] [900]] (k' := [.code (.loop (cAt Try.f26 [1, 0, 1, 0, 0])), .blk 0, .code (cAt Try.f26 [1, 1])]) (S' := laws_markBookingS_L1_S (a0, a1, 0)) True.intro (by kernel_rfl) ?_
  refine lq (laws_markBookingS_L1_S) (body := laws_markBookingS_L1) (k := laws_markBookingS_L1_k) hM fun m1 s c1 hM hK1 => ?_
  obtain ⟨s1, s2, s3⟩ := s
  have hM : laws_markBookingS_L1_b s1 s2 s3 = some c1 := hM
  unfold laws_markBookingS_L1_b at hM
  rcases cond_cases hM with ⟨h6, hM⟩ | ⟨h6, hM⟩
  · obtain ⟨v7, h8, hM⟩ := bind_some hM
    obtain ⟨v9, h10, hM⟩ := bind_some hM
    obtain ⟨v11, h12, hM⟩ := bind_some hM
    obtain ⟨v13, h14, hM⟩ := bind_some hM
    have hE : some (Ctl.next (List.set (List.set (List.set (List.set s1 (Int.toNat s3) (Booking.mk s2 v7.Trip v7.Weight)) (Int.toNat s3) (Booking.mk v9.Thing (Trip.mk (w64 (s2 + 1)) v9.Trip.Day) v9.Weight)) (Int.toNat s3) (Booking.mk v11.Thing (Trip.mk v11.Trip.Leg (w64 ((w64 (s2 + 1)) + 1))) v11.Weight)) (Int.toNat s3) (Booking.mk v13.Thing v13.Trip (w64 ((w64 ((w64 (s2 + 1)) + 1)) + 1))), w64 ((w64 ((w64 ((w64 (s2 + 1)) + 1)) + 1)) + 1), w64 (s3 + 1))) = some c1 := hM
    have hE := Option.some.inj hE
    subst hE
    exact pc R 9999 [.ln (s1.length), .as 9 true, .ix (Booking.enc v7), .nm ((List.set s1 (Int.toNat s3) (Booking.mk s2 v7.Trip v7.Weight)).map Booking.enc), .ix (Booking.enc v9), .nm ((List.set (List.set s1 (Int.toNat s3) (Booking.mk s2 v7.Trip v7.Weight)) (Int.toNat s3) (Booking.mk v9.Thing (Trip.mk (w64 (s2 + 1)) v9.Trip.Day) v9.Weight)).map Booking.enc), .ix (Booking.enc v11), .nm ((List.set (List.set (List.set s1 (Int.toNat s3) (Booking.mk s2 v7.Trip v7.Weight)) (Int.toNat s3) (Booking.mk v9.Thing (Trip.mk (w64 (s2 + 1)) v9.Trip.Day) v9.Weight)) (Int.toNat s3) (Booking.mk v11.Thing (Trip.mk v11.Trip.Leg (w64 ((w64 (s2 + 1)) + 1))) v11.Weight)).map Booking.enc), .ix (Booking.enc v13), .nm ((List.set (List.set (List.set (List.set s1 (Int.toNat s3) (Booking.mk s2 v7.Trip v7.Weight)) (Int.toNat s3) (Booking.mk v9.Thing (Trip.mk (w64 (s2 + 1)) v9.Trip.Day) v9.Weight)) (Int.toNat s3) (Booking.mk v11.Thing (Trip.mk v11.Trip.Leg (w64 ((w64 (s2 + 1)) + 1))) v11.Weight)) (Int.toNat s3) (Booking.mk v13.Thing v13.Trip (w64 ((w64 ((w64 (s2 + 1)) + 1)) + 1)))).map Booking.enc)] [.keep [0, 1, 5] [900]] (And.intro (lenm Booking.enc s1) (And.intro h6 (And.intro (gi_lt Booking.enc h8) (And.intro (And.intro (gi_map Booking.enc h8).2 (set_map Booking.enc s1 (Int.toNat s3) (Booking.mk s2 v7.Trip v7.Weight))) (And.intro (gi_lt Booking.enc h10) (And.intro (And.intro (gi_map Booking.enc h10).2 (set_map Booking.enc (List.set s1 (Int.toNat s3) (Booking.mk s2 v7.Trip v7.Weight)) (Int.toNat s3) (Booking.mk v9.Thing (Trip.mk (w64 (s2 + 1)) v9.Trip.Day) v9.Weight))) (And.intro (gi_lt Booking.enc h12) (And.intro (And.intro (gi_map Booking.enc h12).2 (set_map Booking.enc (List.set (List.set s1 (Int.toNat s3) (Booking.mk s2 v7.Trip v7.Weight)) (Int.toNat s3) (Booking.mk v9.Thing (Trip.mk (w64 (s2 + 1)) v9.Trip.Day) v9.Weight)) (Int.toNat s3) (Booking.mk v11.Thing (Trip.mk v11.Trip.Leg (w64 ((w64 (s2 + 1)) + 1))) v11.Weight))) (And.intro (gi_lt Booking.enc h14) (And.intro (And.intro (gi_map Booking.enc h14).2 (set_map Booking.enc (List.set (List.set (List.set s1 (Int.toNat s3) (Booking.mk s2 v7.Trip v7.Weight)) (Int.toNat s3) (Booking.mk v9.Thing (Trip.mk (w64 (s2 + 1)) v9.Trip.Day) v9.Weight)) (Int.toNat s3) (Booking.mk v11.Thing (Trip.mk v11.Trip.Leg (w64 ((w64 (s2 + 1)) + 1))) v11.Weight)) (Int.toNat s3) (Booking.mk v13.Thing v13.Trip (w64 ((w64 ((w64 (s2 + 1)) + 1)) + 1))))) True.intro)))))))))) (by kernel_rfl) (li (Sf := laws_markBookingS_L1_S) (M := Mk (laws_markBookingS_L1) (laws_markBookingS_L1_k) r) (k := [.blk 0, .code (cAt Try.f26 [1, 1])]) (Nat.lt_succ_self m1) hK1)
  · have hE : some (Ctl.brk (s1, s2)) = some c1 := hM
    have hE := Option.some.inj hE
    subst hE
    exact pc R 5 [.ln (s1.length), .as 9 false] [.keep [0, 1] [900]] (And.intro (lenm Booking.enc s1) (And.intro h6 True.intro)) (by kernel_rfl) (K1 s1 s2 hK1)

-- loop.example/g03014/laws.markIntS
def laws_markIntS_L1_b (s1 : (List Int)) (s2 : Int) (s3 : Int) : Option (Ctl ((List Int) × Int × Int) ((List Int) × Int) (Int × (List Int))) :=
  bif (decide (s3 < (s1.length : Int))) then
  (gi s1 s3).bind fun v7 =>
  some (.next (List.set s1 (Int.toNat s3) s2, w64 (s2 + 1), w64 (s3 + 1)))
  else
  some (.brk (s1, s2))
def laws_markIntS_L1 (s : (List Int) × Int × Int) : Option (Ctl ((List Int) × Int × Int) ((List Int) × Int) (Int × (List Int))) := laws_markIntS_L1_b s.1 s.2.1 s.2.2
def laws_markIntS_L1_s (s1 : (List Int)) (s2 : Int) (s3 : Int) : St := ⟨[(0, .o (.c (.sl 900))), (1, .o (.c (.v (.int .i64 s2)))), (5, .o (.c (.v (.int .i64 s3))))], [(900, .row 3 1 (s1.map encI))]⟩
def laws_markIntS_L1_S (s : (List Int) × Int × Int) : St := laws_markIntS_L1_s s.1 s.2.1 s.2.2
def laws_markIntS_L1_a (s4 : (List Int)) (s5 : Int) : Option (Int × (List Int)) :=
  some (s5, s4)
def laws_markIntS_L1_k (x : ((List Int) × Int) ⊕ (Int × (List Int))) : Option (Int × (List Int)) := match x with
  | .inl t => laws_markIntS_L1_a t.1 t.2
  | .inr y => some y
def laws_markIntS (a0 : (List Int)) (a1 : Int) : Option (Int × (List Int)) :=
  (loopM (laws_markIntS_L1) big (a0, a1, 0)).bind (laws_markIntS_L1_k)
theorem laws_markIntS_ok (a0 : (List Int)) (a1 : Int) (r : Int × (List Int)) (hM : laws_markIntS a0 a1 = some r) :
    Con Try.prog 27 [.c (.sl 900), .c (.v (.int .i64 a1))] [(900, .row 3 1 (a0.map encI))] (.o (.c (.v (.int .i64 r.1)))) [(900, .row 3 1 (r.2.map encI))] [] := by
  unfold laws_markIntS at hM
  refine cn (N := 19) (pids := [900]) Try_mixed Try.func27 (by kernel_rfl) (by kernel_rfl) (by kernel_rfl) rfl fun ρ g w R => ?_
  have K1 : ∀ (s4 : (List Int)) (s5 : Int), laws_markIntS_L1_a s4 s5 = some r → Gr R [.code (cAt Try.f27 [1, 1])] (⟨[(0, .o (.c (.sl 900))), (1, .o (.c (.v (.int .i64 s5))))], [(900, .row 3 1 (s4.map encI))]⟩) := by
    intro s4 s5 hM
    unfold laws_markIntS_L1_a at hM
    have hE : some (s5, s4) = some r := hM
    have hE := Option.some.inj hE
    subst hE
    exact pr R 9999 [] [] [900] [] True.intro (by kernel_rfl)
  refine pc R 9999 [] [.keep [0, 1, 5] [900]] (k' := [.code (.loop (cAt Try.f27 [1, 0, 1, 0, 0])), .blk 0, .code (cAt Try.f27 [1, 1])]) (S' := laws_markIntS_L1_S (a0, a1, 0)) True.intro (by kernel_rfl) ?_
  refine lq (laws_markIntS_L1_S) (body := laws_markIntS_L1) (k := laws_markIntS_L1_k) hM fun m1 s c1 hM hK1 => ?_
  obtain ⟨s1, s2, s3⟩ := s
  have hM : laws_markIntS_L1_b s1 s2 s3 = some c1 := hM
  unfold laws_markIntS_L1_b at hM
  rcases cond_cases hM with ⟨h6, hM⟩ | ⟨h6, hM⟩
  · obtain ⟨v7, h8, hM⟩ := bind_some hM
    have hE : some (Ctl.next (List.set s1 (Int.toNat s3) s2, w64 (s2 + 1), w64 (s3 + 1))) = some c1 := hM
    have hE := Option.some.inj hE
    subst hE
    exact pc R 9999 [.ln (s1.length), .as 9 true, .ix (encI v7), .nm ((List.set s1 (Int.toNat s3) s2).map encI)] [.keep [0, 1, 5] [900]] (And.intro (lenm encI s1) (And.intro h6 (And.intro (gi_lt encI h8) (And.intro (And.intro (gi_map encI h8).2 (set_map encI s1 (Int.toNat s3) s2)) True.intro)))) (by kernel_rfl) (li (Sf := laws_markIntS_L1_S) (M := Mk (laws_markIntS_L1) (laws_markIntS_L1_k) r) (k := [.blk 0, .code (cAt Try.f27 [1, 1])]) (Nat.lt_succ_self m1) hK1)
  · have hE : some (Ctl.brk (s1, s2)) = some c1 := hM
    have hE := Option.some.inj hE
    subst hE
    exact pc R 5 [.ln (s1.length), .as 9 false] [.keep [0, 1] [900]] (And.intro (lenm encI s1) (And.intro h6 True.intro)) (by kernel_rfl) (K1 s1 s2 hK1)

-- loop.example/g03014/laws.heldIntS
def laws_heldIntS_L1_b (a0 : (List Int)) (s1 : Int) (s2 : Int) : Option (Ctl (Int × Int) Int Int) :=
  bif (decide (s2 < (a0.length : Int))) then
  (gi a0 s2).bind fun v5 =>
  bif (v5 != s1) then
  some (.ret (-1))
  else
  some (.next (w64 (s1 + 1), w64 (s2 + 1)))
  else
  some (.brk s1)
def laws_heldIntS_L1 (a0 : (List Int)) (s : Int × Int) : Option (Ctl (Int × Int) Int Int) := laws_heldIntS_L1_b a0 s.1 s.2
def laws_heldIntS_L1_s (a0 : (List Int)) (s1 : Int) (s2 : Int) : St := ⟨[(0, .o (.c (.rs 1 (a0.map encI)))), (1, .o (.c (.v (.int .i64 s1)))), (5, .o (.c (.v (.int .i64 s2))))], []⟩
def laws_heldIntS_L1_S (a0 : (List Int)) (s : Int × Int) : St := laws_heldIntS_L1_s a0 s.1 s.2
def laws_heldIntS_L1_a (s3 : Int) : Option Int :=
  some s3
def laws_heldIntS_L1_k (x : (Int) ⊕ (Int)) : Option Int := match x with
  | .inl t => laws_heldIntS_L1_a t
  | .inr y => some y
def laws_heldIntS (a0 : (List Int)) (a1 : Int) : Option Int :=
  (loopM (laws_heldIntS_L1 a0) big (a1, 0)).bind (laws_heldIntS_L1_k)
theorem laws_heldIntS_ok (a0 : (List Int)) (a1 : Int) (r : Int) (hM : laws_heldIntS a0 a1 = some r) :
    Con Try.prog 28 [.c (.rs 1 (a0.map encI)), .c (.v (.int .i64 a1))] [] (.o (.c (.v (.int .i64 r)))) [] [] := by
  unfold laws_heldIntS at hM
  refine cn (N := 21) (pids := []) Try_mixed Try.func28 (by kernel_rfl) (by kernel_rfl) (by kernel_rfl) rfl fun ρ g w R => ?_
  have K1 : ∀ (s3 : Int), laws_heldIntS_L1_a s3 = some r → Gr R [.code (cAt Try.f28 [1, 1])] (⟨[(1, .o (.c (.v (.int .i64 s3))))], []⟩) := by
    intro s3 hM
    unfold laws_heldIntS_L1_a at hM
    have hE : some s3 = some r := hM
    have hE := Option.some.inj hE
    subst hE
    exact pr R 9999 [] [] [] [] True.intro (by kernel_rfl)
  refine pc R 9999 [] [.keep [0, 1, 5] []] (k' := [.code (.loop (cAt Try.f28 [1, 0, 1, 0, 0])), .blk 0, .code (cAt Try.f28 [1, 1])]) (S' := laws_heldIntS_L1_S a0 (a1, 0)) True.intro (by kernel_rfl) ?_
  refine lq (laws_heldIntS_L1_S a0) (body := laws_heldIntS_L1 a0) (k := laws_heldIntS_L1_k) hM fun m1 s c1 hM hK1 => ?_
  obtain ⟨s1, s2⟩ := s
  have hM : laws_heldIntS_L1_b a0 s1 s2 = some c1 := hM
  unfold laws_heldIntS_L1_b at hM
  rcases cond_cases hM with ⟨h4, hM⟩ | ⟨h4, hM⟩
  · obtain ⟨v5, h6, hM⟩ := bind_some hM
    rcases cond_cases hM with ⟨h7, hM⟩ | ⟨h7, hM⟩
    · have hE : some (Ctl.ret (-1)) = some c1 := hM
      have hE := Option.some.inj hE
      subst hE
      have hE : some (-1) = some r := hK1
      have hE := Option.some.inj hE
      subst hE
      exact pr R 9999 [.ln (a0.length), .as 9 true, .ix (encI v5), .as 17 true] [] [] [] (And.intro (lenm encI a0) (And.intro h4 (And.intro (gi_map encI h6) (And.intro h7 True.intro)))) (by kernel_rfl)
    · have hE : some (Ctl.next (w64 (s1 + 1), w64 (s2 + 1))) = some c1 := hM
      have hE := Option.some.inj hE
      subst hE
      exact pc R 9999 [.ln (a0.length), .as 9 true, .ix (encI v5), .as 17 false] [.keep [0, 1, 5] []] (And.intro (lenm encI a0) (And.intro h4 (And.intro (gi_map encI h6) (And.intro h7 True.intro)))) (by kernel_rfl) (li (Sf := laws_heldIntS_L1_S a0) (M := Mk (laws_heldIntS_L1 a0) (laws_heldIntS_L1_k) r) (k := [.blk 0, .code (cAt Try.f28 [1, 1])]) (Nat.lt_succ_self m1) hK1)
  · have hE : some (Ctl.brk s1) = some c1 := hM
    have hE := Option.some.inj hE
    subst hE
    exact pc R 5 [.ln (a0.length), .as 9 false] [.keep [1] []] (And.intro (lenm encI a0) (And.intro h4 True.intro)) (by kernel_rfl) (K1 s1 hK1)

-- loop.example/g03014/laws.FnExactWhoRides
def laws_FnExactWhoRides_x1 (a0 : (List Booking)) (a1 : Trip) (v8 : (List Int)) : St := ⟨[(0, .o (.c (.rs 4 (a0.map Booking.enc)))), (3, .o (.c (.ptr 0 0))), (6, .o (.c (.sl 2)))], [(0, .box 26 [.v (.int .i64 a1.Leg), .v (.int .i64 a1.Day)]), (2, .row 3 1 (v8.map encI))]⟩
def laws_FnExactWhoRides_x2 (v8 : (List Int)) (v30 : (Int × (List Int))) (v40 : (List Int)) : St := ⟨[(6, .o (.c (.sl 2))), (8, .o (.c (.sl 4))), (10, .o (.c (.v (.int .i64 v30.1)))), (12, .o (.c (.sl 7)))], [(2, .row 3 1 (v8.map encI)), (4, .row 3 1 (v30.2.map encI)), (7, .row 3 1 (v40.map encI))]⟩
def laws_FnExactWhoRides (a0 : (List Booking)) (a1 : Trip) : Option Bool :=
  (laws_szBookingS a0 1048576).bind fun v1 =>
  bif (decide (v1 < 0)) then
  some true
  else
  (laws_toBookingS a0).bind fun v4 =>
  (laws_toTrip a1).bind fun v6 =>
  (spec_WhoRides v4 v6).bind fun v8 =>
  (laws_toBookingS a0).bind fun v10 =>
  (laws_toTrip a1).bind fun v12 =>
  (impl_WhoRides v10 v12).bind fun v14 =>
  (laws_eqIntS v14 v8).bind fun v16 =>
  bif (!v16) then
  some false
  else
  (laws_toBookingS a0).bind fun v19 =>
  (laws_eqBookingS v10 v19).bind fun v21 =>
  bif (!v21) then
  some false
  else
  (laws_markBookingS v10 1).bind fun v24 =>
  bif (decide (v24.1 < 0)) then
  some false
  else
  (laws_eqIntS v14 v8).bind fun v27 =>
  bif (!v27) then
  some false
  else
  (laws_markIntS v14 1).bind fun v30 =>
  (laws_heldIntS v30.2 1).bind fun v32 =>
  bif (decide (v32 < 0)) then
  some false
  else
  bif (v32 != v30.1) then
  some false
  else
  (laws_toBookingS a0).bind fun v36 =>
  (laws_toTrip a1).bind fun v38 =>
  (impl_WhoRides v36 v38).bind fun v40 =>
  (laws_eqIntS v40 v8).bind fun v42 =>
  bif (!v42) then
  some false
  else
  (laws_heldIntS v30.2 1).bind fun v45 =>
  bif (decide (v45 < 0)) then
  some false
  else
  bif (v45 != v30.1) then
  some false
  else
  some true
theorem laws_FnExactWhoRides_ok (a0 : (List Booking)) (a1 : Trip) (r : Bool) (hM : laws_FnExactWhoRides a0 a1 = some r) :
    Con Try.prog 5 [.c (.rs 4 (a0.map Booking.enc)), .c (.v (.agg (Trip.enc a1).toArray))] [] (.o (.c (.v (.bool r)))) [] [] := by
  unfold laws_FnExactWhoRides at hM
  refine cn (N := 77) (pids := []) Try_mixed Try.func5 (by kernel_rfl) (by kernel_rfl) (by kernel_rfl) rfl fun ρ g w R => ?_
  obtain ⟨v1, h2, hM⟩ := bind_some hM
  rcases cond_cases hM with ⟨h3, hM⟩ | ⟨h3, hM⟩
  · have hE : some true = some r := hM
    have hE := Option.some.inj hE
    subst hE
    exact pr R 9999 [.new 0, .call false [] (.o (.c (.v (.int .i64 v1)))) [] [], .as 17 true] [] [] [] (And.intro (laws_szBookingS_ok a0 1048576 v1 h2) (And.intro h3 True.intro)) (by kernel_rfl)
  · obtain ⟨v4, h5, hM⟩ := bind_some hM
    obtain ⟨v6, h7, hM⟩ := bind_some hM
    obtain ⟨v8, h9, hM⟩ := bind_some hM
    obtain ⟨v10, h11, hM⟩ := bind_some hM
    obtain ⟨v12, h13, hM⟩ := bind_some hM
    obtain ⟨v14, h15, hM⟩ := bind_some hM
    obtain ⟨v16, h17, hM⟩ := bind_some hM
    rcases cond_cases hM with ⟨h18, hM⟩ | ⟨h18, hM⟩
    · have hE : some false = some r := hM
      have hE := Option.some.inj hE
      subst hE
      exact pr R 9999 [.new 0, .call false [] (.o (.c (.v (.int .i64 v1)))) [] [], .as 17 false, .xo [[], [.call false [] (.o (.c (.sl 1))) [] [(1, .row 74 4 (v4.map Booking.enc))]], [], [.call false [] (.o (.c (.v (.agg (Trip.enc v6).toArray)))) [] []], [.call false [] (.o (.c (.sl 2))) [] [(2, .row 3 1 (v8.map encI))]], []] [.keep [0, 3, 6] [0, 2]] (laws_FnExactWhoRides_x1 a0 a1 v8), .call false [] (.o (.c (.sl 3))) [] [(3, .row 74 4 (v10.map Booking.enc))], .call false [] (.o (.c (.v (.agg (Trip.enc v12).toArray)))) [] [], .call false [] (.o (.c (.sl 4))) [] [(4, .row 3 1 (v14.map encI))], .call false [] (.o (.c (.v (.bool v16)))) [] [], .as 32 true] [] [] [] (And.intro (laws_szBookingS_ok a0 1048576 v1 h2) (And.intro h3 (And.intro (And.intro (con_sw 1000 1 (laws_toBookingS_ok a0 v4 h5)) (rfl : ([] : List Nat) = [])) (And.intro (laws_toTrip_ok a1 v6 h7) (And.intro (And.intro (con_sw 1000 2 (spec_WhoRides_ok v4 v6 v8 h9)) (rfl : ([] : List Nat) = [])) (And.intro (rfl : (laws_FnExactWhoRides_x1 a0 a1 v8) = (laws_FnExactWhoRides_x1 a0 a1 v8)) (And.intro (And.intro (con_sw 1000 1 (laws_toBookingS_ok a0 v4 h5)) (rfl : ([] : List Nat) = [])) (And.intro (laws_toTrip_ok a1 v6 h7) (And.intro (And.intro (con_sw 1000 2 (spec_WhoRides_ok v4 v6 v8 h9)) (rfl : ([] : List Nat) = [])) (And.intro (rfl : (laws_FnExactWhoRides_x1 a0 a1 v8) = (laws_FnExactWhoRides_x1 a0 a1 v8)) (And.intro (And.intro (con_sw 1000 3 (laws_toBookingS_ok a0 v10 h11)) (rfl : ([] : List Nat) = [])) (And.intro (laws_toTrip_ok a1 v12 h13) (And.intro (And.intro (con_sw 1000 4 (impl_WhoRides_ok v10 v12 v14 h15)) (rfl : ([] : List Nat) = [])) (And.intro (laws_eqIntS_ok v14 v8 v16 h17) (And.intro h18 True.intro))))))))))))))) (by kernel_rfl)
    · obtain ⟨v19, h20, hM⟩ := bind_some hM
      obtain ⟨v21, h22, hM⟩ := bind_some hM
      rcases cond_cases hM with ⟨h23, hM⟩ | ⟨h23, hM⟩
      · have hE : some false = some r := hM
        have hE := Option.some.inj hE
        subst hE
        exact pr R 9999 [.new 0, .call false [] (.o (.c (.v (.int .i64 v1)))) [] [], .as 17 false, .xo [[], [.call false [] (.o (.c (.sl 1))) [] [(1, .row 74 4 (v4.map Booking.enc))]], [], [.call false [] (.o (.c (.v (.agg (Trip.enc v6).toArray)))) [] []], [.call false [] (.o (.c (.sl 2))) [] [(2, .row 3 1 (v8.map encI))]], []] [.keep [0, 3, 6] [0, 2]] (laws_FnExactWhoRides_x1 a0 a1 v8), .call false [] (.o (.c (.sl 3))) [] [(3, .row 74 4 (v10.map Booking.enc))], .call false [] (.o (.c (.v (.agg (Trip.enc v12).toArray)))) [] [], .call false [] (.o (.c (.sl 4))) [] [(4, .row 3 1 (v14.map encI))], .call false [] (.o (.c (.v (.bool v16)))) [] [], .as 32 false, .call false [] (.o (.c (.sl 5))) [] [(5, .row 74 4 (v19.map Booking.enc))], .call false [] (.o (.c (.v (.bool v21)))) [] [], .as 37 true] [] [] [] (And.intro (laws_szBookingS_ok a0 1048576 v1 h2) (And.intro h3 (And.intro (And.intro (con_sw 1000 1 (laws_toBookingS_ok a0 v4 h5)) (rfl : ([] : List Nat) = [])) (And.intro (laws_toTrip_ok a1 v6 h7) (And.intro (And.intro (con_sw 1000 2 (spec_WhoRides_ok v4 v6 v8 h9)) (rfl : ([] : List Nat) = [])) (And.intro (rfl : (laws_FnExactWhoRides_x1 a0 a1 v8) = (laws_FnExactWhoRides_x1 a0 a1 v8)) (And.intro (And.intro (con_sw 1000 1 (laws_toBookingS_ok a0 v4 h5)) (rfl : ([] : List Nat) = [])) (And.intro (laws_toTrip_ok a1 v6 h7) (And.intro (And.intro (con_sw 1000 2 (spec_WhoRides_ok v4 v6 v8 h9)) (rfl : ([] : List Nat) = [])) (And.intro (rfl : (laws_FnExactWhoRides_x1 a0 a1 v8) = (laws_FnExactWhoRides_x1 a0 a1 v8)) (And.intro (And.intro (con_sw 1000 3 (laws_toBookingS_ok a0 v10 h11)) (rfl : ([] : List Nat) = [])) (And.intro (laws_toTrip_ok a1 v12 h13) (And.intro (And.intro (con_sw 1000 4 (impl_WhoRides_ok v10 v12 v14 h15)) (rfl : ([] : List Nat) = [])) (And.intro (laws_eqIntS_ok v14 v8 v16 h17) (And.intro h18 (And.intro (And.intro (con_sw 1000 5 (laws_toBookingS_ok a0 v19 h20)) (rfl : ([] : List Nat) = [])) (And.intro (laws_eqBookingS_ok v10 v19 v21 h22) (And.intro h23 True.intro)))))))))))))))))) (by kernel_rfl)
      · obtain ⟨v24, h25, hM⟩ := bind_some hM
        rcases cond_cases hM with ⟨h26, hM⟩ | ⟨h26, hM⟩
        · have hE : some false = some r := hM
          have hE := Option.some.inj hE
          subst hE
          exact pr R 9999 [.new 0, .call false [] (.o (.c (.v (.int .i64 v1)))) [] [], .as 17 false, .xo [[], [.call false [] (.o (.c (.sl 1))) [] [(1, .row 74 4 (v4.map Booking.enc))]], [], [.call false [] (.o (.c (.v (.agg (Trip.enc v6).toArray)))) [] []], [.call false [] (.o (.c (.sl 2))) [] [(2, .row 3 1 (v8.map encI))]], []] [.keep [0, 3, 6] [0, 2]] (laws_FnExactWhoRides_x1 a0 a1 v8), .call false [] (.o (.c (.sl 3))) [] [(3, .row 74 4 (v10.map Booking.enc))], .call false [] (.o (.c (.v (.agg (Trip.enc v12).toArray)))) [] [], .call false [] (.o (.c (.sl 4))) [] [(4, .row 3 1 (v14.map encI))], .call false [] (.o (.c (.v (.bool v16)))) [] [], .as 32 false, .call false [] (.o (.c (.sl 5))) [] [(5, .row 74 4 (v19.map Booking.enc))], .call false [] (.o (.c (.v (.bool v21)))) [] [], .as 37 false, .call false [3] (.o (.c (.v (.int .i64 v24.1)))) [(3, .row 74 4 (v24.2.map Booking.enc))] [], .as 43 true] [] [] [] (And.intro (laws_szBookingS_ok a0 1048576 v1 h2) (And.intro h3 (And.intro (And.intro (con_sw 1000 1 (laws_toBookingS_ok a0 v4 h5)) (rfl : ([] : List Nat) = [])) (And.intro (laws_toTrip_ok a1 v6 h7) (And.intro (And.intro (con_sw 1000 2 (spec_WhoRides_ok v4 v6 v8 h9)) (rfl : ([] : List Nat) = [])) (And.intro (rfl : (laws_FnExactWhoRides_x1 a0 a1 v8) = (laws_FnExactWhoRides_x1 a0 a1 v8)) (And.intro (And.intro (con_sw 1000 1 (laws_toBookingS_ok a0 v4 h5)) (rfl : ([] : List Nat) = [])) (And.intro (laws_toTrip_ok a1 v6 h7) (And.intro (And.intro (con_sw 1000 2 (spec_WhoRides_ok v4 v6 v8 h9)) (rfl : ([] : List Nat) = [])) (And.intro (rfl : (laws_FnExactWhoRides_x1 a0 a1 v8) = (laws_FnExactWhoRides_x1 a0 a1 v8)) (And.intro (And.intro (con_sw 1000 3 (laws_toBookingS_ok a0 v10 h11)) (rfl : ([] : List Nat) = [])) (And.intro (laws_toTrip_ok a1 v12 h13) (And.intro (And.intro (con_sw 1000 4 (impl_WhoRides_ok v10 v12 v14 h15)) (rfl : ([] : List Nat) = [])) (And.intro (laws_eqIntS_ok v14 v8 v16 h17) (And.intro h18 (And.intro (And.intro (con_sw 1000 5 (laws_toBookingS_ok a0 v19 h20)) (rfl : ([] : List Nat) = [])) (And.intro (laws_eqBookingS_ok v10 v19 v21 h22) (And.intro h23 (And.intro (And.intro (con_sw 900 3 (laws_markBookingS_ok v10 1 v24 h25)) (rfl : ([3] : List Nat) = [3])) (And.intro h26 True.intro)))))))))))))))))))) (by kernel_rfl)
        · obtain ⟨v27, h28, hM⟩ := bind_some hM
          rcases cond_cases hM with ⟨h29, hM⟩ | ⟨h29, hM⟩
          · have hE : some false = some r := hM
            have hE := Option.some.inj hE
            subst hE
            exact pr R 9999 [.new 0, .call false [] (.o (.c (.v (.int .i64 v1)))) [] [], .as 17 false, .xo [[], [.call false [] (.o (.c (.sl 1))) [] [(1, .row 74 4 (v4.map Booking.enc))]], [], [.call false [] (.o (.c (.v (.agg (Trip.enc v6).toArray)))) [] []], [.call false [] (.o (.c (.sl 2))) [] [(2, .row 3 1 (v8.map encI))]], []] [.keep [0, 3, 6] [0, 2]] (laws_FnExactWhoRides_x1 a0 a1 v8), .call false [] (.o (.c (.sl 3))) [] [(3, .row 74 4 (v10.map Booking.enc))], .call false [] (.o (.c (.v (.agg (Trip.enc v12).toArray)))) [] [], .call false [] (.o (.c (.sl 4))) [] [(4, .row 3 1 (v14.map encI))], .call false [] (.o (.c (.v (.bool v16)))) [] [], .as 32 false, .call false [] (.o (.c (.sl 5))) [] [(5, .row 74 4 (v19.map Booking.enc))], .call false [] (.o (.c (.v (.bool v21)))) [] [], .as 37 false, .call false [3] (.o (.c (.v (.int .i64 v24.1)))) [(3, .row 74 4 (v24.2.map Booking.enc))] [], .as 43 false, .call false [] (.o (.c (.v (.bool v27)))) [] [], .as 48 true] [] [] [] (And.intro (laws_szBookingS_ok a0 1048576 v1 h2) (And.intro h3 (And.intro (And.intro (con_sw 1000 1 (laws_toBookingS_ok a0 v4 h5)) (rfl : ([] : List Nat) = [])) (And.intro (laws_toTrip_ok a1 v6 h7) (And.intro (And.intro (con_sw 1000 2 (spec_WhoRides_ok v4 v6 v8 h9)) (rfl : ([] : List Nat) = [])) (And.intro (rfl : (laws_FnExactWhoRides_x1 a0 a1 v8) = (laws_FnExactWhoRides_x1 a0 a1 v8)) (And.intro (And.intro (con_sw 1000 1 (laws_toBookingS_ok a0 v4 h5)) (rfl : ([] : List Nat) = [])) (And.intro (laws_toTrip_ok a1 v6 h7) (And.intro (And.intro (con_sw 1000 2 (spec_WhoRides_ok v4 v6 v8 h9)) (rfl : ([] : List Nat) = [])) (And.intro (rfl : (laws_FnExactWhoRides_x1 a0 a1 v8) = (laws_FnExactWhoRides_x1 a0 a1 v8)) (And.intro (And.intro (con_sw 1000 3 (laws_toBookingS_ok a0 v10 h11)) (rfl : ([] : List Nat) = [])) (And.intro (laws_toTrip_ok a1 v12 h13) (And.intro (And.intro (con_sw 1000 4 (impl_WhoRides_ok v10 v12 v14 h15)) (rfl : ([] : List Nat) = [])) (And.intro (laws_eqIntS_ok v14 v8 v16 h17) (And.intro h18 (And.intro (And.intro (con_sw 1000 5 (laws_toBookingS_ok a0 v19 h20)) (rfl : ([] : List Nat) = [])) (And.intro (laws_eqBookingS_ok v10 v19 v21 h22) (And.intro h23 (And.intro (And.intro (con_sw 900 3 (laws_markBookingS_ok v10 1 v24 h25)) (rfl : ([3] : List Nat) = [3])) (And.intro h26 (And.intro (laws_eqIntS_ok v14 v8 v27 h28) (And.intro h29 True.intro)))))))))))))))))))))) (by kernel_rfl)
          · obtain ⟨v30, h31, hM⟩ := bind_some hM
            obtain ⟨v32, h33, hM⟩ := bind_some hM
            rcases cond_cases hM with ⟨h34, hM⟩ | ⟨h34, hM⟩
            · have hE : some false = some r := hM
              have hE := Option.some.inj hE
              subst hE
              exact pr R 9999 [.new 0, .call false [] (.o (.c (.v (.int .i64 v1)))) [] [], .as 17 false, .xo [[], [.call false [] (.o (.c (.sl 1))) [] [(1, .row 74 4 (v4.map Booking.enc))]], [], [.call false [] (.o (.c (.v (.agg (Trip.enc v6).toArray)))) [] []], [.call false [] (.o (.c (.sl 2))) [] [(2, .row 3 1 (v8.map encI))]], []] [.keep [0, 3, 6] [0, 2]] (laws_FnExactWhoRides_x1 a0 a1 v8), .call false [] (.o (.c (.sl 3))) [] [(3, .row 74 4 (v10.map Booking.enc))], .call false [] (.o (.c (.v (.agg (Trip.enc v12).toArray)))) [] [], .call false [] (.o (.c (.sl 4))) [] [(4, .row 3 1 (v14.map encI))], .call false [] (.o (.c (.v (.bool v16)))) [] [], .as 32 false, .call false [] (.o (.c (.sl 5))) [] [(5, .row 74 4 (v19.map Booking.enc))], .call false [] (.o (.c (.v (.bool v21)))) [] [], .as 37 false, .call false [3] (.o (.c (.v (.int .i64 v24.1)))) [(3, .row 74 4 (v24.2.map Booking.enc))] [], .as 43 false, .call false [] (.o (.c (.v (.bool v27)))) [] [], .as 48 false, .call false [4] (.o (.c (.v (.int .i64 v30.1)))) [(4, .row 3 1 (v30.2.map encI))] [], .call false [] (.o (.c (.v (.int .i64 v32)))) [] [], .as 56 true] [] [] [] (And.intro (laws_szBookingS_ok a0 1048576 v1 h2) (And.intro h3 (And.intro (And.intro (con_sw 1000 1 (laws_toBookingS_ok a0 v4 h5)) (rfl : ([] : List Nat) = [])) (And.intro (laws_toTrip_ok a1 v6 h7) (And.intro (And.intro (con_sw 1000 2 (spec_WhoRides_ok v4 v6 v8 h9)) (rfl : ([] : List Nat) = [])) (And.intro (rfl : (laws_FnExactWhoRides_x1 a0 a1 v8) = (laws_FnExactWhoRides_x1 a0 a1 v8)) (And.intro (And.intro (con_sw 1000 1 (laws_toBookingS_ok a0 v4 h5)) (rfl : ([] : List Nat) = [])) (And.intro (laws_toTrip_ok a1 v6 h7) (And.intro (And.intro (con_sw 1000 2 (spec_WhoRides_ok v4 v6 v8 h9)) (rfl : ([] : List Nat) = [])) (And.intro (rfl : (laws_FnExactWhoRides_x1 a0 a1 v8) = (laws_FnExactWhoRides_x1 a0 a1 v8)) (And.intro (And.intro (con_sw 1000 3 (laws_toBookingS_ok a0 v10 h11)) (rfl : ([] : List Nat) = [])) (And.intro (laws_toTrip_ok a1 v12 h13) (And.intro (And.intro (con_sw 1000 4 (impl_WhoRides_ok v10 v12 v14 h15)) (rfl : ([] : List Nat) = [])) (And.intro (laws_eqIntS_ok v14 v8 v16 h17) (And.intro h18 (And.intro (And.intro (con_sw 1000 5 (laws_toBookingS_ok a0 v19 h20)) (rfl : ([] : List Nat) = [])) (And.intro (laws_eqBookingS_ok v10 v19 v21 h22) (And.intro h23 (And.intro (And.intro (con_sw 900 3 (laws_markBookingS_ok v10 1 v24 h25)) (rfl : ([3] : List Nat) = [3])) (And.intro h26 (And.intro (laws_eqIntS_ok v14 v8 v27 h28) (And.intro h29 (And.intro (And.intro (con_sw 900 4 (laws_markIntS_ok v14 1 v30 h31)) (rfl : ([4] : List Nat) = [4])) (And.intro (laws_heldIntS_ok v30.2 1 v32 h33) (And.intro h34 True.intro))))))))))))))))))))))))) (by kernel_rfl)
            · rcases cond_cases hM with ⟨h35, hM⟩ | ⟨h35, hM⟩
              · have hE : some false = some r := hM
                have hE := Option.some.inj hE
                subst hE
                exact pr R 9999 [.new 0, .call false [] (.o (.c (.v (.int .i64 v1)))) [] [], .as 17 false, .xo [[], [.call false [] (.o (.c (.sl 1))) [] [(1, .row 74 4 (v4.map Booking.enc))]], [], [.call false [] (.o (.c (.v (.agg (Trip.enc v6).toArray)))) [] []], [.call false [] (.o (.c (.sl 2))) [] [(2, .row 3 1 (v8.map encI))]], []] [.keep [0, 3, 6] [0, 2]] (laws_FnExactWhoRides_x1 a0 a1 v8), .call false [] (.o (.c (.sl 3))) [] [(3, .row 74 4 (v10.map Booking.enc))], .call false [] (.o (.c (.v (.agg (Trip.enc v12).toArray)))) [] [], .call false [] (.o (.c (.sl 4))) [] [(4, .row 3 1 (v14.map encI))], .call false [] (.o (.c (.v (.bool v16)))) [] [], .as 32 false, .call false [] (.o (.c (.sl 5))) [] [(5, .row 74 4 (v19.map Booking.enc))], .call false [] (.o (.c (.v (.bool v21)))) [] [], .as 37 false, .call false [3] (.o (.c (.v (.int .i64 v24.1)))) [(3, .row 74 4 (v24.2.map Booking.enc))] [], .as 43 false, .call false [] (.o (.c (.v (.bool v27)))) [] [], .as 48 false, .call false [4] (.o (.c (.v (.int .i64 v30.1)))) [(4, .row 3 1 (v30.2.map encI))] [], .call false [] (.o (.c (.v (.int .i64 v32)))) [] [], .as 56 false, .as 59 true] [] [] [] (And.intro (laws_szBookingS_ok a0 1048576 v1 h2) (And.intro h3 (And.intro (And.intro (con_sw 1000 1 (laws_toBookingS_ok a0 v4 h5)) (rfl : ([] : List Nat) = [])) (And.intro (laws_toTrip_ok a1 v6 h7) (And.intro (And.intro (con_sw 1000 2 (spec_WhoRides_ok v4 v6 v8 h9)) (rfl : ([] : List Nat) = [])) (And.intro (rfl : (laws_FnExactWhoRides_x1 a0 a1 v8) = (laws_FnExactWhoRides_x1 a0 a1 v8)) (And.intro (And.intro (con_sw 1000 1 (laws_toBookingS_ok a0 v4 h5)) (rfl : ([] : List Nat) = [])) (And.intro (laws_toTrip_ok a1 v6 h7) (And.intro (And.intro (con_sw 1000 2 (spec_WhoRides_ok v4 v6 v8 h9)) (rfl : ([] : List Nat) = [])) (And.intro (rfl : (laws_FnExactWhoRides_x1 a0 a1 v8) = (laws_FnExactWhoRides_x1 a0 a1 v8)) (And.intro (And.intro (con_sw 1000 3 (laws_toBookingS_ok a0 v10 h11)) (rfl : ([] : List Nat) = [])) (And.intro (laws_toTrip_ok a1 v12 h13) (And.intro (And.intro (con_sw 1000 4 (impl_WhoRides_ok v10 v12 v14 h15)) (rfl : ([] : List Nat) = [])) (And.intro (laws_eqIntS_ok v14 v8 v16 h17) (And.intro h18 (And.intro (And.intro (con_sw 1000 5 (laws_toBookingS_ok a0 v19 h20)) (rfl : ([] : List Nat) = [])) (And.intro (laws_eqBookingS_ok v10 v19 v21 h22) (And.intro h23 (And.intro (And.intro (con_sw 900 3 (laws_markBookingS_ok v10 1 v24 h25)) (rfl : ([3] : List Nat) = [3])) (And.intro h26 (And.intro (laws_eqIntS_ok v14 v8 v27 h28) (And.intro h29 (And.intro (And.intro (con_sw 900 4 (laws_markIntS_ok v14 1 v30 h31)) (rfl : ([4] : List Nat) = [4])) (And.intro (laws_heldIntS_ok v30.2 1 v32 h33) (And.intro h34 (And.intro h35 True.intro)))))))))))))))))))))))))) (by kernel_rfl)
              · obtain ⟨v36, h37, hM⟩ := bind_some hM
                obtain ⟨v38, h39, hM⟩ := bind_some hM
                obtain ⟨v40, h41, hM⟩ := bind_some hM
                obtain ⟨v42, h43, hM⟩ := bind_some hM
                rcases cond_cases hM with ⟨h44, hM⟩ | ⟨h44, hM⟩
                · have hE : some false = some r := hM
                  have hE := Option.some.inj hE
                  subst hE
                  exact pr R 9999 [.new 0, .call false [] (.o (.c (.v (.int .i64 v1)))) [] [], .as 17 false, .xo [[], [.call false [] (.o (.c (.sl 1))) [] [(1, .row 74 4 (v4.map Booking.enc))]], [], [.call false [] (.o (.c (.v (.agg (Trip.enc v6).toArray)))) [] []], [.call false [] (.o (.c (.sl 2))) [] [(2, .row 3 1 (v8.map encI))]], []] [.keep [0, 3, 6] [0, 2]] (laws_FnExactWhoRides_x1 a0 a1 v8), .call false [] (.o (.c (.sl 3))) [] [(3, .row 74 4 (v10.map Booking.enc))], .call false [] (.o (.c (.v (.agg (Trip.enc v12).toArray)))) [] [], .call false [] (.o (.c (.sl 4))) [] [(4, .row 3 1 (v14.map encI))], .call false [] (.o (.c (.v (.bool v16)))) [] [], .as 32 false, .call false [] (.o (.c (.sl 5))) [] [(5, .row 74 4 (v19.map Booking.enc))], .call false [] (.o (.c (.v (.bool v21)))) [] [], .as 37 false, .call false [3] (.o (.c (.v (.int .i64 v24.1)))) [(3, .row 74 4 (v24.2.map Booking.enc))] [], .as 43 false, .call false [] (.o (.c (.v (.bool v27)))) [] [], .as 48 false, .call false [4] (.o (.c (.v (.int .i64 v30.1)))) [(4, .row 3 1 (v30.2.map encI))] [], .call false [] (.o (.c (.v (.int .i64 v32)))) [] [], .as 56 false, .as 59 false, .xo [[], [.call false [] (.o (.c (.sl 6))) [] [(6, .row 74 4 (v36.map Booking.enc))]], [], [.call false [] (.o (.c (.v (.agg (Trip.enc v38).toArray)))) [] []], [.call false [] (.o (.c (.sl 7))) [] [(7, .row 3 1 (v40.map encI))]], []] [.keep [6, 8, 10, 12] [2, 4, 7]] (laws_FnExactWhoRides_x2 v8 v30 v40), .call false [] (.o (.c (.v (.bool v42)))) [] [], .as 68 true] [] [] [] (And.intro (laws_szBookingS_ok a0 1048576 v1 h2) (And.intro h3 (And.intro (And.intro (con_sw 1000 1 (laws_toBookingS_ok a0 v4 h5)) (rfl : ([] : List Nat) = [])) (And.intro (laws_toTrip_ok a1 v6 h7) (And.intro (And.intro (con_sw 1000 2 (spec_WhoRides_ok v4 v6 v8 h9)) (rfl : ([] : List Nat) = [])) (And.intro (rfl : (laws_FnExactWhoRides_x1 a0 a1 v8) = (laws_FnExactWhoRides_x1 a0 a1 v8)) (And.intro (And.intro (con_sw 1000 1 (laws_toBookingS_ok a0 v4 h5)) (rfl : ([] : List Nat) = [])) (And.intro (laws_toTrip_ok a1 v6 h7) (And.intro (And.intro (con_sw 1000 2 (spec_WhoRides_ok v4 v6 v8 h9)) (rfl : ([] : List Nat) = [])) (And.intro (rfl : (laws_FnExactWhoRides_x1 a0 a1 v8) = (laws_FnExactWhoRides_x1 a0 a1 v8)) (And.intro (And.intro (con_sw 1000 3 (laws_toBookingS_ok a0 v10 h11)) (rfl : ([] : List Nat) = [])) (And.intro (laws_toTrip_ok a1 v12 h13) (And.intro (And.intro (con_sw 1000 4 (impl_WhoRides_ok v10 v12 v14 h15)) (rfl : ([] : List Nat) = [])) (And.intro (laws_eqIntS_ok v14 v8 v16 h17) (And.intro h18 (And.intro (And.intro (con_sw 1000 5 (laws_toBookingS_ok a0 v19 h20)) (rfl : ([] : List Nat) = [])) (And.intro (laws_eqBookingS_ok v10 v19 v21 h22) (And.intro h23 (And.intro (And.intro (con_sw 900 3 (laws_markBookingS_ok v10 1 v24 h25)) (rfl : ([3] : List Nat) = [3])) (And.intro h26 (And.intro (laws_eqIntS_ok v14 v8 v27 h28) (And.intro h29 (And.intro (And.intro (con_sw 900 4 (laws_markIntS_ok v14 1 v30 h31)) (rfl : ([4] : List Nat) = [4])) (And.intro (laws_heldIntS_ok v30.2 1 v32 h33) (And.intro h34 (And.intro h35 (And.intro (And.intro (con_sw 1000 6 (laws_toBookingS_ok a0 v36 h37)) (rfl : ([] : List Nat) = [])) (And.intro (laws_toTrip_ok a1 v38 h39) (And.intro (And.intro (con_sw 1000 7 (impl_WhoRides_ok v36 v38 v40 h41)) (rfl : ([] : List Nat) = [])) (And.intro (rfl : (laws_FnExactWhoRides_x2 v8 v30 v40) = (laws_FnExactWhoRides_x2 v8 v30 v40)) (And.intro (And.intro (con_sw 1000 6 (laws_toBookingS_ok a0 v36 h37)) (rfl : ([] : List Nat) = [])) (And.intro (laws_toTrip_ok a1 v38 h39) (And.intro (And.intro (con_sw 1000 7 (impl_WhoRides_ok v36 v38 v40 h41)) (rfl : ([] : List Nat) = [])) (And.intro (rfl : (laws_FnExactWhoRides_x2 v8 v30 v40) = (laws_FnExactWhoRides_x2 v8 v30 v40)) (And.intro (laws_eqIntS_ok v40 v8 v42 h43) (And.intro h44 True.intro)))))))))))))))))))))))))))))))))))) (by kernel_rfl)
                · obtain ⟨v45, h46, hM⟩ := bind_some hM
                  rcases cond_cases hM with ⟨h47, hM⟩ | ⟨h47, hM⟩
                  · have hE : some false = some r := hM
                    have hE := Option.some.inj hE
                    subst hE
                    exact pr R 9999 [.new 0, .call false [] (.o (.c (.v (.int .i64 v1)))) [] [], .as 17 false, .xo [[], [.call false [] (.o (.c (.sl 1))) [] [(1, .row 74 4 (v4.map Booking.enc))]], [], [.call false [] (.o (.c (.v (.agg (Trip.enc v6).toArray)))) [] []], [.call false [] (.o (.c (.sl 2))) [] [(2, .row 3 1 (v8.map encI))]], []] [.keep [0, 3, 6] [0, 2]] (laws_FnExactWhoRides_x1 a0 a1 v8), .call false [] (.o (.c (.sl 3))) [] [(3, .row 74 4 (v10.map Booking.enc))], .call false [] (.o (.c (.v (.agg (Trip.enc v12).toArray)))) [] [], .call false [] (.o (.c (.sl 4))) [] [(4, .row 3 1 (v14.map encI))], .call false [] (.o (.c (.v (.bool v16)))) [] [], .as 32 false, .call false [] (.o (.c (.sl 5))) [] [(5, .row 74 4 (v19.map Booking.enc))], .call false [] (.o (.c (.v (.bool v21)))) [] [], .as 37 false, .call false [3] (.o (.c (.v (.int .i64 v24.1)))) [(3, .row 74 4 (v24.2.map Booking.enc))] [], .as 43 false, .call false [] (.o (.c (.v (.bool v27)))) [] [], .as 48 false, .call false [4] (.o (.c (.v (.int .i64 v30.1)))) [(4, .row 3 1 (v30.2.map encI))] [], .call false [] (.o (.c (.v (.int .i64 v32)))) [] [], .as 56 false, .as 59 false, .xo [[], [.call false [] (.o (.c (.sl 6))) [] [(6, .row 74 4 (v36.map Booking.enc))]], [], [.call false [] (.o (.c (.v (.agg (Trip.enc v38).toArray)))) [] []], [.call false [] (.o (.c (.sl 7))) [] [(7, .row 3 1 (v40.map encI))]], []] [.keep [6, 8, 10, 12] [2, 4, 7]] (laws_FnExactWhoRides_x2 v8 v30 v40), .call false [] (.o (.c (.v (.bool v42)))) [] [], .as 68 false, .call false [] (.o (.c (.v (.int .i64 v45)))) [] [], .as 73 true] [] [] [] (And.intro (laws_szBookingS_ok a0 1048576 v1 h2) (And.intro h3 (And.intro (And.intro (con_sw 1000 1 (laws_toBookingS_ok a0 v4 h5)) (rfl : ([] : List Nat) = [])) (And.intro (laws_toTrip_ok a1 v6 h7) (And.intro (And.intro (con_sw 1000 2 (spec_WhoRides_ok v4 v6 v8 h9)) (rfl : ([] : List Nat) = [])) (And.intro (rfl : (laws_FnExactWhoRides_x1 a0 a1 v8) = (laws_FnExactWhoRides_x1 a0 a1 v8)) (And.intro (And.intro (con_sw 1000 1 (laws_toBookingS_ok a0 v4 h5)) (rfl : ([] : List Nat) = [])) (And.intro (laws_toTrip_ok a1 v6 h7) (And.intro (And.intro (con_sw 1000 2 (spec_WhoRides_ok v4 v6 v8 h9)) (rfl : ([] : List Nat) = [])) (And.intro (rfl : (laws_FnExactWhoRides_x1 a0 a1 v8) = (laws_FnExactWhoRides_x1 a0 a1 v8)) (And.intro (And.intro (con_sw 1000 3 (laws_toBookingS_ok a0 v10 h11)) (rfl : ([] : List Nat) = [])) (And.intro (laws_toTrip_ok a1 v12 h13) (And.intro (And.intro (con_sw 1000 4 (impl_WhoRides_ok v10 v12 v14 h15)) (rfl : ([] : List Nat) = [])) (And.intro (laws_eqIntS_ok v14 v8 v16 h17) (And.intro h18 (And.intro (And.intro (con_sw 1000 5 (laws_toBookingS_ok a0 v19 h20)) (rfl : ([] : List Nat) = [])) (And.intro (laws_eqBookingS_ok v10 v19 v21 h22) (And.intro h23 (And.intro (And.intro (con_sw 900 3 (laws_markBookingS_ok v10 1 v24 h25)) (rfl : ([3] : List Nat) = [3])) (And.intro h26 (And.intro (laws_eqIntS_ok v14 v8 v27 h28) (And.intro h29 (And.intro (And.intro (con_sw 900 4 (laws_markIntS_ok v14 1 v30 h31)) (rfl : ([4] : List Nat) = [4])) (And.intro (laws_heldIntS_ok v30.2 1 v32 h33) (And.intro h34 (And.intro h35 (And.intro (And.intro (con_sw 1000 6 (laws_toBookingS_ok a0 v36 h37)) (rfl : ([] : List Nat) = [])) (And.intro (laws_toTrip_ok a1 v38 h39) (And.intro (And.intro (con_sw 1000 7 (impl_WhoRides_ok v36 v38 v40 h41)) (rfl : ([] : List Nat) = [])) (And.intro (rfl : (laws_FnExactWhoRides_x2 v8 v30 v40) = (laws_FnExactWhoRides_x2 v8 v30 v40)) (And.intro (And.intro (con_sw 1000 6 (laws_toBookingS_ok a0 v36 h37)) (rfl : ([] : List Nat) = [])) (And.intro (laws_toTrip_ok a1 v38 h39) (And.intro (And.intro (con_sw 1000 7 (impl_WhoRides_ok v36 v38 v40 h41)) (rfl : ([] : List Nat) = [])) (And.intro (rfl : (laws_FnExactWhoRides_x2 v8 v30 v40) = (laws_FnExactWhoRides_x2 v8 v30 v40)) (And.intro (laws_eqIntS_ok v40 v8 v42 h43) (And.intro h44 (And.intro (laws_heldIntS_ok v30.2 1 v45 h46) (And.intro h47 True.intro)))))))))))))))))))))))))))))))))))))) (by kernel_rfl)
                  · rcases cond_cases hM with ⟨h48, hM⟩ | ⟨h48, hM⟩
                    · have hE : some false = some r := hM
                      have hE := Option.some.inj hE
                      subst hE
                      exact pr R 9999 [.new 0, .call false [] (.o (.c (.v (.int .i64 v1)))) [] [], .as 17 false, .xo [[], [.call false [] (.o (.c (.sl 1))) [] [(1, .row 74 4 (v4.map Booking.enc))]], [], [.call false [] (.o (.c (.v (.agg (Trip.enc v6).toArray)))) [] []], [.call false [] (.o (.c (.sl 2))) [] [(2, .row 3 1 (v8.map encI))]], []] [.keep [0, 3, 6] [0, 2]] (laws_FnExactWhoRides_x1 a0 a1 v8), .call false [] (.o (.c (.sl 3))) [] [(3, .row 74 4 (v10.map Booking.enc))], .call false [] (.o (.c (.v (.agg (Trip.enc v12).toArray)))) [] [], .call false [] (.o (.c (.sl 4))) [] [(4, .row 3 1 (v14.map encI))], .call false [] (.o (.c (.v (.bool v16)))) [] [], .as 32 false, .call false [] (.o (.c (.sl 5))) [] [(5, .row 74 4 (v19.map Booking.enc))], .call false [] (.o (.c (.v (.bool v21)))) [] [], .as 37 false, .call false [3] (.o (.c (.v (.int .i64 v24.1)))) [(3, .row 74 4 (v24.2.map Booking.enc))] [], .as 43 false, .call false [] (.o (.c (.v (.bool v27)))) [] [], .as 48 false, .call false [4] (.o (.c (.v (.int .i64 v30.1)))) [(4, .row 3 1 (v30.2.map encI))] [], .call false [] (.o (.c (.v (.int .i64 v32)))) [] [], .as 56 false, .as 59 false, .xo [[], [.call false [] (.o (.c (.sl 6))) [] [(6, .row 74 4 (v36.map Booking.enc))]], [], [.call false [] (.o (.c (.v (.agg (Trip.enc v38).toArray)))) [] []], [.call false [] (.o (.c (.sl 7))) [] [(7, .row 3 1 (v40.map encI))]], []] [.keep [6, 8, 10, 12] [2, 4, 7]] (laws_FnExactWhoRides_x2 v8 v30 v40), .call false [] (.o (.c (.v (.bool v42)))) [] [], .as 68 false, .call false [] (.o (.c (.v (.int .i64 v45)))) [] [], .as 73 false, .as 76 true] [] [] [] (And.intro (laws_szBookingS_ok a0 1048576 v1 h2) (And.intro h3 (And.intro (And.intro (con_sw 1000 1 (laws_toBookingS_ok a0 v4 h5)) (rfl : ([] : List Nat) = [])) (And.intro (laws_toTrip_ok a1 v6 h7) (And.intro (And.intro (con_sw 1000 2 (spec_WhoRides_ok v4 v6 v8 h9)) (rfl : ([] : List Nat) = [])) (And.intro (rfl : (laws_FnExactWhoRides_x1 a0 a1 v8) = (laws_FnExactWhoRides_x1 a0 a1 v8)) (And.intro (And.intro (con_sw 1000 1 (laws_toBookingS_ok a0 v4 h5)) (rfl : ([] : List Nat) = [])) (And.intro (laws_toTrip_ok a1 v6 h7) (And.intro (And.intro (con_sw 1000 2 (spec_WhoRides_ok v4 v6 v8 h9)) (rfl : ([] : List Nat) = [])) (And.intro (rfl : (laws_FnExactWhoRides_x1 a0 a1 v8) = (laws_FnExactWhoRides_x1 a0 a1 v8)) (And.intro (And.intro (con_sw 1000 3 (laws_toBookingS_ok a0 v10 h11)) (rfl : ([] : List Nat) = [])) (And.intro (laws_toTrip_ok a1 v12 h13) (And.intro (And.intro (con_sw 1000 4 (impl_WhoRides_ok v10 v12 v14 h15)) (rfl : ([] : List Nat) = [])) (And.intro (laws_eqIntS_ok v14 v8 v16 h17) (And.intro h18 (And.intro (And.intro (con_sw 1000 5 (laws_toBookingS_ok a0 v19 h20)) (rfl : ([] : List Nat) = [])) (And.intro (laws_eqBookingS_ok v10 v19 v21 h22) (And.intro h23 (And.intro (And.intro (con_sw 900 3 (laws_markBookingS_ok v10 1 v24 h25)) (rfl : ([3] : List Nat) = [3])) (And.intro h26 (And.intro (laws_eqIntS_ok v14 v8 v27 h28) (And.intro h29 (And.intro (And.intro (con_sw 900 4 (laws_markIntS_ok v14 1 v30 h31)) (rfl : ([4] : List Nat) = [4])) (And.intro (laws_heldIntS_ok v30.2 1 v32 h33) (And.intro h34 (And.intro h35 (And.intro (And.intro (con_sw 1000 6 (laws_toBookingS_ok a0 v36 h37)) (rfl : ([] : List Nat) = [])) (And.intro (laws_toTrip_ok a1 v38 h39) (And.intro (And.intro (con_sw 1000 7 (impl_WhoRides_ok v36 v38 v40 h41)) (rfl : ([] : List Nat) = [])) (And.intro (rfl : (laws_FnExactWhoRides_x2 v8 v30 v40) = (laws_FnExactWhoRides_x2 v8 v30 v40)) (And.intro (And.intro (con_sw 1000 6 (laws_toBookingS_ok a0 v36 h37)) (rfl : ([] : List Nat) = [])) (And.intro (laws_toTrip_ok a1 v38 h39) (And.intro (And.intro (con_sw 1000 7 (impl_WhoRides_ok v36 v38 v40 h41)) (rfl : ([] : List Nat) = [])) (And.intro (rfl : (laws_FnExactWhoRides_x2 v8 v30 v40) = (laws_FnExactWhoRides_x2 v8 v30 v40)) (And.intro (laws_eqIntS_ok v40 v8 v42 h43) (And.intro h44 (And.intro (laws_heldIntS_ok v30.2 1 v45 h46) (And.intro h47 (And.intro h48 True.intro))))))))))))))))))))))))))))))))))))))) (by kernel_rfl)
                    · have hE : some true = some r := hM
                      have hE := Option.some.inj hE
                      subst hE
                      exact pr R 9999 [.new 0, .call false [] (.o (.c (.v (.int .i64 v1)))) [] [], .as 17 false, .xo [[], [.call false [] (.o (.c (.sl 1))) [] [(1, .row 74 4 (v4.map Booking.enc))]], [], [.call false [] (.o (.c (.v (.agg (Trip.enc v6).toArray)))) [] []], [.call false [] (.o (.c (.sl 2))) [] [(2, .row 3 1 (v8.map encI))]], []] [.keep [0, 3, 6] [0, 2]] (laws_FnExactWhoRides_x1 a0 a1 v8), .call false [] (.o (.c (.sl 3))) [] [(3, .row 74 4 (v10.map Booking.enc))], .call false [] (.o (.c (.v (.agg (Trip.enc v12).toArray)))) [] [], .call false [] (.o (.c (.sl 4))) [] [(4, .row 3 1 (v14.map encI))], .call false [] (.o (.c (.v (.bool v16)))) [] [], .as 32 false, .call false [] (.o (.c (.sl 5))) [] [(5, .row 74 4 (v19.map Booking.enc))], .call false [] (.o (.c (.v (.bool v21)))) [] [], .as 37 false, .call false [3] (.o (.c (.v (.int .i64 v24.1)))) [(3, .row 74 4 (v24.2.map Booking.enc))] [], .as 43 false, .call false [] (.o (.c (.v (.bool v27)))) [] [], .as 48 false, .call false [4] (.o (.c (.v (.int .i64 v30.1)))) [(4, .row 3 1 (v30.2.map encI))] [], .call false [] (.o (.c (.v (.int .i64 v32)))) [] [], .as 56 false, .as 59 false, .xo [[], [.call false [] (.o (.c (.sl 6))) [] [(6, .row 74 4 (v36.map Booking.enc))]], [], [.call false [] (.o (.c (.v (.agg (Trip.enc v38).toArray)))) [] []], [.call false [] (.o (.c (.sl 7))) [] [(7, .row 3 1 (v40.map encI))]], []] [.keep [6, 8, 10, 12] [2, 4, 7]] (laws_FnExactWhoRides_x2 v8 v30 v40), .call false [] (.o (.c (.v (.bool v42)))) [] [], .as 68 false, .call false [] (.o (.c (.v (.int .i64 v45)))) [] [], .as 73 false, .as 76 false] [] [] [] (And.intro (laws_szBookingS_ok a0 1048576 v1 h2) (And.intro h3 (And.intro (And.intro (con_sw 1000 1 (laws_toBookingS_ok a0 v4 h5)) (rfl : ([] : List Nat) = [])) (And.intro (laws_toTrip_ok a1 v6 h7) (And.intro (And.intro (con_sw 1000 2 (spec_WhoRides_ok v4 v6 v8 h9)) (rfl : ([] : List Nat) = [])) (And.intro (rfl : (laws_FnExactWhoRides_x1 a0 a1 v8) = (laws_FnExactWhoRides_x1 a0 a1 v8)) (And.intro (And.intro (con_sw 1000 1 (laws_toBookingS_ok a0 v4 h5)) (rfl : ([] : List Nat) = [])) (And.intro (laws_toTrip_ok a1 v6 h7) (And.intro (And.intro (con_sw 1000 2 (spec_WhoRides_ok v4 v6 v8 h9)) (rfl : ([] : List Nat) = [])) (And.intro (rfl : (laws_FnExactWhoRides_x1 a0 a1 v8) = (laws_FnExactWhoRides_x1 a0 a1 v8)) (And.intro (And.intro (con_sw 1000 3 (laws_toBookingS_ok a0 v10 h11)) (rfl : ([] : List Nat) = [])) (And.intro (laws_toTrip_ok a1 v12 h13) (And.intro (And.intro (con_sw 1000 4 (impl_WhoRides_ok v10 v12 v14 h15)) (rfl : ([] : List Nat) = [])) (And.intro (laws_eqIntS_ok v14 v8 v16 h17) (And.intro h18 (And.intro (And.intro (con_sw 1000 5 (laws_toBookingS_ok a0 v19 h20)) (rfl : ([] : List Nat) = [])) (And.intro (laws_eqBookingS_ok v10 v19 v21 h22) (And.intro h23 (And.intro (And.intro (con_sw 900 3 (laws_markBookingS_ok v10 1 v24 h25)) (rfl : ([3] : List Nat) = [3])) (And.intro h26 (And.intro (laws_eqIntS_ok v14 v8 v27 h28) (And.intro h29 (And.intro (And.intro (con_sw 900 4 (laws_markIntS_ok v14 1 v30 h31)) (rfl : ([4] : List Nat) = [4])) (And.intro (laws_heldIntS_ok v30.2 1 v32 h33) (And.intro h34 (And.intro h35 (And.intro (And.intro (con_sw 1000 6 (laws_toBookingS_ok a0 v36 h37)) (rfl : ([] : List Nat) = [])) (And.intro (laws_toTrip_ok a1 v38 h39) (And.intro (And.intro (con_sw 1000 7 (impl_WhoRides_ok v36 v38 v40 h41)) (rfl : ([] : List Nat) = [])) (And.intro (rfl : (laws_FnExactWhoRides_x2 v8 v30 v40) = (laws_FnExactWhoRides_x2 v8 v30 v40)) (And.intro (And.intro (con_sw 1000 6 (laws_toBookingS_ok a0 v36 h37)) (rfl : ([] : List Nat) = [])) (And.intro (laws_toTrip_ok a1 v38 h39) (And.intro (And.intro (con_sw 1000 7 (impl_WhoRides_ok v36 v38 v40 h41)) (rfl : ([] : List Nat) = [])) (And.intro (rfl : (laws_FnExactWhoRides_x2 v8 v30 v40) = (laws_FnExactWhoRides_x2 v8 v30 v40)) (And.intro (laws_eqIntS_ok v40 v8 v42 h43) (And.intro h44 (And.intro (laws_heldIntS_ok v30.2 1 v45 h46) (And.intro h47 (And.intro h48 True.intro))))))))))))))))))))))))))))))))))))))) (by kernel_rfl)

-- loop.example/g03014/spec.TripsOf
def spec_TripsOf_L1_b (a0 : (List Booking)) (a1 : Int) (s1 : (List Trip)) (s2 : Int) : Option (Ctl ((List Trip) × Int) (List Trip) (List Trip)) :=
  bif (decide (s2 < (a0.length : Int))) then
  (gi a0 s2).bind fun v5 =>
  bif (v5.Thing == a1) then
  (gi a0 s2).bind fun v8 =>
  (ap 16 s1 ([v8.Trip] : List Trip)).bind fun v10 =>
  some (.next (v10, w64 (s2 + 1)))
  else
  some (.next (s1, w64 (s2 + 1)))
  else
  some (.brk s1)
def spec_TripsOf_L1 (a0 : (List Booking)) (a1 : Int) (s : (List Trip) × Int) : Option (Ctl ((List Trip) × Int) (List Trip) (List Trip)) := spec_TripsOf_L1_b a0 a1 s.1 s.2
def spec_TripsOf_L1_s (a0 : (List Booking)) (a1 : Int) (s1 : (List Trip)) (s2 : Int) : St := ⟨[(0, .o (.c (.rs 4 (a0.map Booking.enc)))), (1, .o (.c (.v (.int .i64 a1)))), (5, .o (.c (.sl 0))), (6, .o (.c (.v (.int .i64 s2))))], [(0, .row 31 2 (s1.map Trip.enc))]⟩
def spec_TripsOf_L1_S (a0 : (List Booking)) (a1 : Int) (s : (List Trip) × Int) : St := spec_TripsOf_L1_s a0 a1 s.1 s.2
def spec_TripsOf_L1_a (s3 : (List Trip)) : Option (List Trip) :=
  some s3
def spec_TripsOf_L1_k (x : ((List Trip)) ⊕ ((List Trip))) : Option (List Trip) := match x with
  | .inl t => spec_TripsOf_L1_a t
  | .inr y => some y
def spec_TripsOf (a0 : (List Booking)) (a1 : Int) : Option (List Trip) :=
  (loopM (spec_TripsOf_L1 a0 a1) big (([] : List Trip), 0)).bind (spec_TripsOf_L1_k)
theorem spec_TripsOf_ok (a0 : (List Booking)) (a1 : Int) (r : (List Trip)) (hM : spec_TripsOf a0 a1 = some r) :
    Con Try.prog 29 [.c (.rs 4 (a0.map Booking.enc)), .c (.v (.int .i64 a1))] [] (.o (.c (.sl 1000))) [] [(1000, .row 31 2 (r.map Trip.enc))] := by
  unfold spec_TripsOf at hM
  refine cn (N := 30) (pids := []) Try_mixed Try.func29 (by kernel_rfl) (by kernel_rfl) (by kernel_rfl) rfl fun ρ g w R => ?_
  have K1 : ∀ (s3 : (List Trip)), spec_TripsOf_L1_a s3 = some r → Gr R [.code (cAt Try.f29 [1, 1, 1])] (⟨[(5, .o (.c (.sl 0)))], [(0, .row 31 2 (s3.map Trip.enc))]⟩) := by
    intro s3 hM
    unfold spec_TripsOf_L1_a at hM
    have hE : some s3 = some r := hM
    have hE := Option.some.inj hE
    subst hE
    exact pr R 9999 [] [.sw 0 1000] [] [1000] True.intro (by kernel_rfl)
  refine pc R 9999 [.new 0] [.keep [0, 1, 5, 6] [0]] (k' := [.code (.loop (cAt Try.f29 [1, 1, 0, 1, 0, 0])), .blk 0, .code (cAt Try.f29 [1, 1, 1])]) (S' := spec_TripsOf_L1_S a0 a1 (([] : List Trip), 0)) True.intro (by kernel_rfl) ?_
  refine lq (spec_TripsOf_L1_S a0 a1) (body := spec_TripsOf_L1 a0 a1) (k := spec_TripsOf_L1_k) hM fun m1 s c1 hM hK1 => ?_
  obtain ⟨s1, s2⟩ := s
  have hM : spec_TripsOf_L1_b a0 a1 s1 s2 = some c1 := hM
  unfold spec_TripsOf_L1_b at hM
  rcases cond_cases hM with ⟨h4, hM⟩ | ⟨h4, hM⟩
  · obtain ⟨v5, h6, hM⟩ := bind_some hM
    rcases cond_cases hM with ⟨h7, hM⟩ | ⟨h7, hM⟩
    · obtain ⟨v8, h9, hM⟩ := bind_some hM
      obtain ⟨v10, h11, hM⟩ := bind_some hM
      have hE : some (Ctl.next (v10, w64 (s2 + 1))) = some c1 := hM
      have hE := Option.some.inj hE
      subst hE
      exact pc R 9999 [.ln (a0.length), .as 11 true, .ix (Booking.enc v5), .as 20 true, .ix (Booking.enc v8), .new 1, .new 2, .nm (v10.map Trip.enc)] [.sw 2 0, .keep [0, 1, 5, 6] [0]] (And.intro (lenm Booking.enc a0) (And.intro h4 (And.intro (gi_map Booking.enc h6) (And.intro h7 (And.intro (gi_map Booking.enc h9) (And.intro (ap_ok Trip.enc h11) True.intro)))))) (by kernel_rfl) (li (Sf := spec_TripsOf_L1_S a0 a1) (M := Mk (spec_TripsOf_L1 a0 a1) (spec_TripsOf_L1_k) r) (k := [.blk 0, .code (cAt Try.f29 [1, 1, 1])]) (Nat.lt_succ_self m1) hK1)
    · have hE : some (Ctl.next (s1, w64 (s2 + 1))) = some c1 := hM
      have hE := Option.some.inj hE
      subst hE
      exact pc R 9999 [.ln (a0.length), .as 11 true, .ix (Booking.enc v5), .as 20 false] [.keep [0, 1, 5, 6] [0]] (And.intro (lenm Booking.enc a0) (And.intro h4 (And.intro (gi_map Booking.enc h6) (And.intro h7 True.intro)))) (by kernel_rfl) (li (Sf := spec_TripsOf_L1_S a0 a1) (M := Mk (spec_TripsOf_L1 a0 a1) (spec_TripsOf_L1_k) r) (k := [.blk 0, .code (cAt Try.f29 [1, 1, 1])]) (Nat.lt_succ_self m1) hK1)
  · have hE : some (Ctl.brk s1) = some c1 := hM
    have hE := Option.some.inj hE
    subst hE
    exact pc R 5 [.ln (a0.length), .as 11 false] [.keep [5] [0]] (And.intro (lenm Booking.enc a0) (And.intro h4 True.intro)) (by kernel_rfl) (K1 s1 hK1)

-- loop.example/g03014/impl.TripsOf
def impl_TripsOf_L1_b (a0 : (List Booking)) (a1 : Int) (s1 : (List Trip)) (s2 : Int) : Option (Ctl ((List Trip) × Int) (List Trip) (List Trip)) :=
  bif (decide (s2 < (a0.length : Int))) then
  (gi a0 s2).bind fun v5 =>
  bif (v5.Thing == a1) then
  (ap 16 s1 ([v5.Trip] : List Trip)).bind fun v8 =>
  some (.next (v8, w64 (s2 + 1)))
  else
  some (.next (s1, w64 (s2 + 1)))
  else
  some (.brk s1)
def impl_TripsOf_L1 (a0 : (List Booking)) (a1 : Int) (s : (List Trip) × Int) : Option (Ctl ((List Trip) × Int) (List Trip) (List Trip)) := impl_TripsOf_L1_b a0 a1 s.1 s.2
def impl_TripsOf_L1_s (a0 : (List Booking)) (a1 : Int) (s1 : (List Trip)) (s2 : Int) : St := ⟨[(1, .o (.c (.v (.int .i64 a1)))), (5, .o (.c (.sl 0))), (9, .o (.c (.rs 4 (a0.map Booking.enc)))), (10, .o (.c (.v (.int .i64 (a0.length : Int))))), (11, .o (.c (.v (.int .i64 s2))))], [(0, .row 31 2 (s1.map Trip.enc))]⟩
def impl_TripsOf_L1_S (a0 : (List Booking)) (a1 : Int) (s : (List Trip) × Int) : St := impl_TripsOf_L1_s a0 a1 s.1 s.2
def impl_TripsOf_L1_a (s3 : (List Trip)) : Option (List Trip) :=
  some s3
def impl_TripsOf_L1_k (x : ((List Trip)) ⊕ ((List Trip))) : Option (List Trip) := match x with
  | .inl t => impl_TripsOf_L1_a t
  | .inr y => some y
def impl_TripsOf (a0 : (List Booking)) (a1 : Int) : Option (List Trip) :=
  (loopM (impl_TripsOf_L1 a0 a1) big (([] : List Trip), 0)).bind (impl_TripsOf_L1_k)
theorem impl_TripsOf_ok (a0 : (List Booking)) (a1 : Int) (r : (List Trip)) (hM : impl_TripsOf a0 a1 = some r) :
    Con Try.prog 30 [.c (.rs 4 (a0.map Booking.enc)), .c (.v (.int .i64 a1))] [] (.o (.c (.sl 1000))) [] [(1000, .row 31 2 (r.map Trip.enc))] := by
  unfold impl_TripsOf at hM
  refine cn (N := 26) (pids := []) Try_mixed Try.func30 (by kernel_rfl) (by kernel_rfl) (by kernel_rfl) rfl fun ρ g w R => ?_
  have K1 : ∀ (s3 : (List Trip)), impl_TripsOf_L1_a s3 = some r → Gr R [.code (cAt Try.f30 [1, 1, 1])] (⟨[(5, .o (.c (.sl 0)))], [(0, .row 31 2 (s3.map Trip.enc))]⟩) := by
    intro s3 hM
    unfold impl_TripsOf_L1_a at hM
    have hE : some s3 = some r := hM
    have hE := Option.some.inj hE
    subst hE
    exact pr R 9999 [] [.sw 0 1000] [] [1000] True.intro (by kernel_rfl)
  refine pc R 9999 [.new 0, .ln (a0.length)] [.keep [1, 5, 9, 10, 11] [0]] (k' := [.code (.loop (cAt Try.f30 [1, 1, 0, 1, 0, 0])), .blk 0, .code (cAt Try.f30 [1, 1, 1])]) (S' := impl_TripsOf_L1_S a0 a1 (([] : List Trip), 0)) (And.intro (lenm Booking.enc a0) True.intro) (by kernel_rfl) ?_
  refine lq (impl_TripsOf_L1_S a0 a1) (body := impl_TripsOf_L1 a0 a1) (k := impl_TripsOf_L1_k) hM fun m1 s c1 hM hK1 => ?_
  obtain ⟨s1, s2⟩ := s
  have hM : impl_TripsOf_L1_b a0 a1 s1 s2 = some c1 := hM
  unfold impl_TripsOf_L1_b at hM
  rcases cond_cases hM with ⟨h4, hM⟩ | ⟨h4, hM⟩
  · obtain ⟨v5, h6, hM⟩ := bind_some hM
    rcases cond_cases hM with ⟨h7, hM⟩ | ⟨h7, hM⟩
    · obtain ⟨v8, h9, hM⟩ := bind_some hM
      have hE : some (Ctl.next (v8, w64 (s2 + 1))) = some c1 := hM
      have hE := Option.some.inj hE
      subst hE
      exact pc R 9999 [.as 12 true, .ix (Booking.enc v5), .new 1, .as 18 true, .new 2, .new 3, .nm (v8.map Trip.enc)] [.sw 3 0, .keep [1, 5, 9, 10, 11] [0]] (And.intro h4 (And.intro (gi_map Booking.enc h6) (And.intro h7 (And.intro (ap_ok Trip.enc h9) True.intro)))) (by kernel_rfl) (li (Sf := impl_TripsOf_L1_S a0 a1) (M := Mk (impl_TripsOf_L1 a0 a1) (impl_TripsOf_L1_k) r) (k := [.blk 0, .code (cAt Try.f30 [1, 1, 1])]) (Nat.lt_succ_self m1) hK1)
    · have hE : some (Ctl.next (s1, w64 (s2 + 1))) = some c1 := hM
      have hE := Option.some.inj hE
      subst hE
      exact pc R 9999 [.as 12 true, .ix (Booking.enc v5), .new 1, .as 18 false] [.keep [1, 5, 9, 10, 11] [0]] (And.intro h4 (And.intro (gi_map Booking.enc h6) (And.intro h7 True.intro))) (by kernel_rfl) (li (Sf := impl_TripsOf_L1_S a0 a1) (M := Mk (impl_TripsOf_L1 a0 a1) (impl_TripsOf_L1_k) r) (k := [.blk 0, .code (cAt Try.f30 [1, 1, 1])]) (Nat.lt_succ_self m1) hK1)
  · have hE : some (Ctl.brk s1) = some c1 := hM
    have hE := Option.some.inj hE
    subst hE
    exact pc R 5 [.as 12 false] [.keep [5] [0]] (And.intro h4 True.intro) (by kernel_rfl) (K1 s1 hK1)

-- loop.example/g03014/laws.eqTripS
def laws_eqTripS_L1_b (a0 : (List Trip)) (a1 : (List Trip)) (s2 : Int) : Option (Ctl Int Unit Bool) :=
  bif (decide (s2 < (a0.length : Int))) then
  (gi a0 s2).bind fun v4 =>
  (gi a1 s2).bind fun v6 =>
  (laws_eqTrip v4 v6).bind fun v8 =>
  bif (!v8) then
  some (.ret false)
  else
  some (.next (w64 (s2 + 1)))
  else
  some (.brk ())
def laws_eqTripS_L1 (a0 : (List Trip)) (a1 : (List Trip)) (s : Int) : Option (Ctl Int Unit Bool) := laws_eqTripS_L1_b a0 a1 s
def laws_eqTripS_L1_s (a0 : (List Trip)) (a1 : (List Trip)) (s2 : Int) : St := ⟨[(0, .o (.c (.rs 2 (a0.map Trip.enc)))), (1, .o (.c (.rs 2 (a1.map Trip.enc)))), (5, .o (.c (.v (.int .i64 s2))))], []⟩
def laws_eqTripS_L1_S (a0 : (List Trip)) (a1 : (List Trip)) (s : Int) : St := laws_eqTripS_L1_s a0 a1 s
def laws_eqTripS_L1_a : Option Bool :=
  some true
def laws_eqTripS_L1_k (x : (Unit) ⊕ (Bool)) : Option Bool := match x with
  | .inl t => laws_eqTripS_L1_a
  | .inr y => some y
def laws_eqTripS (a0 : (List Trip)) (a1 : (List Trip)) : Option Bool :=
  bif ((a0.length : Int) != (a1.length : Int)) then
  some false
  else
  (loopM (laws_eqTripS_L1 a0 a1) big 0).bind (laws_eqTripS_L1_k)
theorem laws_eqTripS_ok (a0 : (List Trip)) (a1 : (List Trip)) (r : Bool) (hM : laws_eqTripS a0 a1 = some r) :
    Con Try.prog 31 [.c (.rs 2 (a0.map Trip.enc)), .c (.rs 2 (a1.map Trip.enc))] [] (.o (.c (.v (.bool r)))) [] [] := by
  unfold laws_eqTripS at hM
  refine cn (N := 27) (pids := []) Try_mixed Try.func31 (by kernel_rfl) (by kernel_rfl) (by kernel_rfl) rfl fun ρ g w R => ?_
  rcases cond_cases hM with ⟨h1, hM⟩ | ⟨h1, hM⟩
  · have hE : some false = some r := hM
    have hE := Option.some.inj hE
    subst hE
    exact pr R 9999 [.ln (a0.length), .ln (a1.length), .as 10 true] [] [] [] (And.intro (lenm Trip.enc a0) (And.intro (lenm Trip.enc a1) (And.intro h1 True.intro))) (by kernel_rfl)
  · have K1 : ∀ (_ : Unit), laws_eqTripS_L1_a = some r → Gr R [.code (cAt Try.f31 [1, 1, 1])] (⟨[], []⟩) := by
      intro _ hM
      unfold laws_eqTripS_L1_a at hM
      have hE : some true = some r := hM
      have hE := Option.some.inj hE
      subst hE
      exact pr R 9999 [] [] [] [] True.intro (by kernel_rfl)
    refine pc R 9999 [.ln (a0.length), .ln (a1.length), .as 10 false] [.keep [0, 1, 5] []] (k' := [.code (.loop (cAt Try.f31 [1, 1, 0, 1, 0, 0])), .blk 0, .code (cAt Try.f31 [1, 1, 1])]) (S' := laws_eqTripS_L1_S a0 a1 0) (And.intro (lenm Trip.enc a0) (And.intro (lenm Trip.enc a1) (And.intro h1 True.intro))) (by kernel_rfl) ?_
    refine lq (laws_eqTripS_L1_S a0 a1) (body := laws_eqTripS_L1 a0 a1) (k := laws_eqTripS_L1_k) hM fun m1 s c1 hM hK1 => ?_
    obtain ⟨s2, hs⟩ : ∃ z, z = s := ⟨_, rfl⟩
    subst hs
    have hM : laws_eqTripS_L1_b a0 a1 s2 = some c1 := hM
    unfold laws_eqTripS_L1_b at hM
    rcases cond_cases hM with ⟨h3, hM⟩ | ⟨h3, hM⟩
    · obtain ⟨v4, h5, hM⟩ := bind_some hM
      obtain ⟨v6, h7, hM⟩ := bind_some hM
      obtain ⟨v8, h9, hM⟩ := bind_some hM
      rcases cond_cases hM with ⟨h10, hM⟩ | ⟨h10, hM⟩
      · have hE : some (Ctl.ret false) = some c1 := hM
        have hE := Option.some.inj hE
        subst hE
        have hE : some false = some r := hK1
        have hE := Option.some.inj hE
        subst hE
        exact pr R 9999 [.ln (a0.length), .as 14 true, .ix (Trip.enc v4), .ix (Trip.enc v6), .call false [] (.o (.c (.v (.bool v8)))) [] [], .as 26 true] [] [] [] (And.intro (lenm Trip.enc a0) (And.intro h3 (And.intro (gi_map Trip.enc h5) (And.intro (gi_map Trip.enc h7) (And.intro (laws_eqTrip_ok v4 v6 v8 h9) (And.intro h10 True.intro)))))) (by kernel_rfl)
      · have hE : some (Ctl.next (w64 (s2 + 1))) = some c1 := hM
        have hE := Option.some.inj hE
        subst hE
        exact pc R 9999 [.ln (a0.length), .as 14 true, .ix (Trip.enc v4), .ix (Trip.enc v6), .call false [] (.o (.c (.v (.bool v8)))) [] [], .as 26 false] [.keep [0, 1, 5] []] (And.intro (lenm Trip.enc a0) (And.intro h3 (And.intro (gi_map Trip.enc h5) (And.intro (gi_map Trip.enc h7) (And.intro (laws_eqTrip_ok v4 v6 v8 h9) (And.intro h10 True.intro)))))) (by kernel_rfl) (li (Sf := laws_eqTripS_L1_S a0 a1) (M := Mk (laws_eqTripS_L1 a0 a1) (laws_eqTripS_L1_k) r) (k := [.blk 0, .code (cAt Try.f31 [1, 1, 1])]) (Nat.lt_succ_self m1) hK1)
    · have hE : some (Ctl.brk ()) = some c1 := hM
      have hE := Option.some.inj hE
      subst hE
      exact pc R 5 [.ln (a0.length), .as 14 false] [.keep [] []] (And.intro (lenm Trip.enc a0) (And.intro h3 True.intro)) (by kernel_rfl) (K1 () hK1)

-- loop.example/g03014/laws.markTripS
def laws_markTripS_L1_b (s1 : (List Trip)) (s2 : Int) (s3 : Int) : Option (Ctl ((List Trip) × Int × Int) ((List Trip) × Int) (Int × (List Trip))) :=
  bif (decide (s3 < (s1.length : Int))) then
  (gi s1 s3).bind fun v7 =>
  (gi (List.set s1 (Int.toNat s3) (Trip.mk s2 v7.Day)) s3).bind fun v9 =>
  some (.next (List.set (List.set s1 (Int.toNat s3) (Trip.mk s2 v7.Day)) (Int.toNat s3) (Trip.mk v9.Leg (w64 (s2 + 1))), w64 ((w64 (s2 + 1)) + 1), w64 (s3 + 1)))
  else
  some (.brk (s1, s2))
def laws_markTripS_L1 (s : (List Trip) × Int × Int) : Option (Ctl ((List Trip) × Int × Int) ((List Trip) × Int) (Int × (List Trip))) := laws_markTripS_L1_b s.1 s.2.1 s.2.2
def laws_markTripS_L1_s (s1 : (List Trip)) (s2 : Int) (s3 : Int) : St := ⟨[(0, .o (.c (.sl 900))), (1, .o (.c (.v (.int .i64 s2)))), (5, .o (.c (.v (.int .i64 s3))))], [(900, .row 31 2 (s1.map Trip.enc))]⟩
def laws_markTripS_L1_S (s : (List Trip) × Int × Int) : St := laws_markTripS_L1_s s.1 s.2.1 s.2.2
def laws_markTripS_L1_a (s4 : (List Trip)) (s5 : Int) : Option (Int × (List Trip)) :=
  some (s5, s4)
def laws_markTripS_L1_k (x : ((List Trip) × Int) ⊕ (Int × (List Trip))) : Option (Int × (List Trip)) := match x with
  | .inl t => laws_markTripS_L1_a t.1 t.2
  | .inr y => some y
def laws_markTripS (a0 : (List Trip)) (a1 : Int) : Option (Int × (List Trip)) :=
  (loopM (laws_markTripS_L1) big (a0, a1, 0)).bind (laws_markTripS_L1_k)
theorem laws_markTripS_ok (a0 : (List Trip)) (a1 : Int) (r : Int × (List Trip)) (hM : laws_markTripS a0 a1 = some r) :
    Con Try.prog 32 [.c (.sl 900), .c (.v (.int .i64 a1))] [(900, .row 31 2 (a0.map Trip.enc))] (.o (.c (.v (.int .i64 r.1)))) [(900, .row 31 2 (r.2.map Trip.enc))] [] := by
  unfold laws_markTripS at hM
  refine cn (N := 27) (pids := [900]) Try_mixed Try.func32 (by kernel_rfl) (by kernel_rfl) (by kernel_rfl) rfl fun ρ g w R => ?_
  have K1 : ∀ (s4 : (List Trip)) (s5 : Int), laws_markTripS_L1_a s4 s5 = some r → Gr R [.code (cAt Try.f32 [1, 1])] (⟨[(0, .o (.c (.sl 900))), (1, .o (.c (.v (.int .i64 s5))))], [(900, .row 31 2 (s4.map Trip.enc))]⟩) := by
    intro s4 s5 hM
    unfold laws_markTripS_L1_a at hM
    have hE : some (s5, s4) = some r := hM
    have hE := Option.some.inj hE
    subst hE
    exact pr R 9999 [] [] [900] [] True.intro (by kernel_rfl)
  refine pc R 9999 [] [.keep [0, 1, 5] [900]] (k' := [.code (.loop (cAt Try.f32 [1, 0, 1, 0, 0])), .blk 0, .code (cAt Try.f32 [1, 1])]) (S' := laws_markTripS_L1_S (a0, a1, 0)) True.intro (by kernel_rfl) ?_
  refine lq (laws_markTripS_L1_S) (body := laws_markTripS_L1) (k := laws_markTripS_L1_k) hM fun m1 s c1 hM hK1 => ?_
  obtain ⟨s1, s2, s3⟩ := s
  have hM : laws_markTripS_L1_b s1 s2 s3 = some c1 := hM
  unfold laws_markTripS_L1_b at hM
  rcases cond_cases hM with ⟨h6, hM⟩ | ⟨h6, hM⟩
  · obtain ⟨v7, h8, hM⟩ := bind_some hM
    obtain ⟨v9, h10, hM⟩ := bind_some hM
    have hE : some (Ctl.next (List.set (List.set s1 (Int.toNat s3) (Trip.mk s2 v7.Day)) (Int.toNat s3) (Trip.mk v9.Leg (w64 (s2 + 1))), w64 ((w64 (s2 + 1)) + 1), w64 (s3 + 1))) = some c1 := hM
    have hE := Option.some.inj hE
    subst hE
    exact pc R 9999 [.ln (s1.length), .as 9 true, .ix (Trip.enc v7), .nm ((List.set s1 (Int.toNat s3) (Trip.mk s2 v7.Day)).map Trip.enc), .ix (Trip.enc v9), .nm ((List.set (List.set s1 (Int.toNat s3) (Trip.mk s2 v7.Day)) (Int.toNat s3) (Trip.mk v9.Leg (w64 (s2 + 1)))).map Trip.enc)] [.keep [0, 1, 5] [900]] (And.intro (lenm Trip.enc s1) (And.intro h6 (And.intro (gi_lt Trip.enc h8) (And.intro (And.intro (gi_map Trip.enc h8).2 (set_map Trip.enc s1 (Int.toNat s3) (Trip.mk s2 v7.Day))) (And.intro (gi_lt Trip.enc h10) (And.intro (And.intro (gi_map Trip.enc h10).2 (set_map Trip.enc (List.set s1 (Int.toNat s3) (Trip.mk s2 v7.Day)) (Int.toNat s3) (Trip.mk v9.Leg (w64 (s2 + 1))))) True.intro)))))) (by kernel_rfl) (li (Sf := laws_markTripS_L1_S) (M := Mk (laws_markTripS_L1) (laws_markTripS_L1_k) r) (k := [.blk 0, .code (cAt Try.f32 [1, 1])]) (Nat.lt_succ_self m1) hK1)
  · have hE : some (Ctl.brk (s1, s2)) = some c1 := hM
    have hE := Option.some.inj hE
    subst hE
    exact pc R 5 [.ln (s1.length), .as 9 false] [.keep [0, 1] [900]] (And.intro (lenm Trip.enc s1) (And.intro h6 True.intro)) (by kernel_rfl) (K1 s1 s2 hK1)

-- loop.example/g03014/laws.heldTripS
def laws_heldTripS_L1_b (a0 : (List Trip)) (s1 : Int) (s2 : Int) : Option (Ctl (Int × Int) Int Int) :=
  bif (decide (s2 < (a0.length : Int))) then
  (gi a0 s2).bind fun v5 =>
  bif (v5.Leg != s1) then
  some (.ret (-1))
  else
  (gi a0 s2).bind fun v8 =>
  bif (v8.Day != (w64 (s1 + 1))) then
  some (.ret (-1))
  else
  some (.next (w64 ((w64 (s1 + 1)) + 1), w64 (s2 + 1)))
  else
  some (.brk s1)
def laws_heldTripS_L1 (a0 : (List Trip)) (s : Int × Int) : Option (Ctl (Int × Int) Int Int) := laws_heldTripS_L1_b a0 s.1 s.2
def laws_heldTripS_L1_s (a0 : (List Trip)) (s1 : Int) (s2 : Int) : St := ⟨[(0, .o (.c (.rs 2 (a0.map Trip.enc)))), (1, .o (.c (.v (.int .i64 s1)))), (5, .o (.c (.v (.int .i64 s2))))], []⟩
def laws_heldTripS_L1_S (a0 : (List Trip)) (s : Int × Int) : St := laws_heldTripS_L1_s a0 s.1 s.2
def laws_heldTripS_L1_a (s3 : Int) : Option Int :=
  some s3
def laws_heldTripS_L1_k (x : (Int) ⊕ (Int)) : Option Int := match x with
  | .inl t => laws_heldTripS_L1_a t
  | .inr y => some y
def laws_heldTripS (a0 : (List Trip)) (a1 : Int) : Option Int :=
  (loopM (laws_heldTripS_L1 a0) big (a1, 0)).bind (laws_heldTripS_L1_k)
theorem laws_heldTripS_ok (a0 : (List Trip)) (a1 : Int) (r : Int) (hM : laws_heldTripS a0 a1 = some r) :
    Con Try.prog 33 [.c (.rs 2 (a0.map Trip.enc)), .c (.v (.int .i64 a1))] [] (.o (.c (.v (.int .i64 r)))) [] [] := by
  unfold laws_heldTripS at hM
  refine cn (N := 31) (pids := []) Try_mixed Try.func33 (by kernel_rfl) (by kernel_rfl) (by kernel_rfl) rfl fun ρ g w R => ?_
  have K1 : ∀ (s3 : Int), laws_heldTripS_L1_a s3 = some r → Gr R [.code (cAt Try.f33 [1, 1])] (⟨[(1, .o (.c (.v (.int .i64 s3))))], []⟩) := by
    intro s3 hM
    unfold laws_heldTripS_L1_a at hM
    have hE : some s3 = some r := hM
    have hE := Option.some.inj hE
    subst hE
    exact pr R 9999 [] [] [] [] True.intro (by kernel_rfl)
  refine pc R 9999 [] [.keep [0, 1, 5] []] (k' := [.code (.loop (cAt Try.f33 [1, 0, 1, 0, 0])), .blk 0, .code (cAt Try.f33 [1, 1])]) (S' := laws_heldTripS_L1_S a0 (a1, 0)) True.intro (by kernel_rfl) ?_
  refine lq (laws_heldTripS_L1_S a0) (body := laws_heldTripS_L1 a0) (k := laws_heldTripS_L1_k) hM fun m1 s c1 hM hK1 => ?_
  obtain ⟨s1, s2⟩ := s
  have hM : laws_heldTripS_L1_b a0 s1 s2 = some c1 := hM
  unfold laws_heldTripS_L1_b at hM
  rcases cond_cases hM with ⟨h4, hM⟩ | ⟨h4, hM⟩
  · obtain ⟨v5, h6, hM⟩ := bind_some hM
    rcases cond_cases hM with ⟨h7, hM⟩ | ⟨h7, hM⟩
    · have hE : some (Ctl.ret (-1)) = some c1 := hM
      have hE := Option.some.inj hE
      subst hE
      have hE : some (-1) = some r := hK1
      have hE := Option.some.inj hE
      subst hE
      exact pr R 9999 [.ln (a0.length), .as 9 true, .ix (Trip.enc v5), .as 18 true] [] [] [] (And.intro (lenm Trip.enc a0) (And.intro h4 (And.intro (gi_map Trip.enc h6) (And.intro h7 True.intro)))) (by kernel_rfl)
    · obtain ⟨v8, h9, hM⟩ := bind_some hM
      rcases cond_cases hM with ⟨h10, hM⟩ | ⟨h10, hM⟩
      · have hE : some (Ctl.ret (-1)) = some c1 := hM
        have hE := Option.some.inj hE
        subst hE
        have hE : some (-1) = some r := hK1
        have hE := Option.some.inj hE
        subst hE
        exact pr R 9999 [.ln (a0.length), .as 9 true, .ix (Trip.enc v5), .as 18 false, .ix (Trip.enc v8), .as 27 true] [] [] [] (And.intro (lenm Trip.enc a0) (And.intro h4 (And.intro (gi_map Trip.enc h6) (And.intro h7 (And.intro (gi_map Trip.enc h9) (And.intro h10 True.intro)))))) (by kernel_rfl)
      · have hE : some (Ctl.next (w64 ((w64 (s1 + 1)) + 1), w64 (s2 + 1))) = some c1 := hM
        have hE := Option.some.inj hE
        subst hE
        exact pc R 9999 [.ln (a0.length), .as 9 true, .ix (Trip.enc v5), .as 18 false, .ix (Trip.enc v8), .as 27 false] [.keep [0, 1, 5] []] (And.intro (lenm Trip.enc a0) (And.intro h4 (And.intro (gi_map Trip.enc h6) (And.intro h7 (And.intro (gi_map Trip.enc h9) (And.intro h10 True.intro)))))) (by kernel_rfl) (li (Sf := laws_heldTripS_L1_S a0) (M := Mk (laws_heldTripS_L1 a0) (laws_heldTripS_L1_k) r) (k := [.blk 0, .code (cAt Try.f33 [1, 1])]) (Nat.lt_succ_self m1) hK1)
  · have hE : some (Ctl.brk s1) = some c1 := hM
    have hE := Option.some.inj hE
    subst hE
    exact pc R 5 [.ln (a0.length), .as 9 false] [.keep [1] []] (And.intro (lenm Trip.enc a0) (And.intro h4 True.intro)) (by kernel_rfl) (K1 s1 hK1)

-- loop.example/g03014/laws.FnExactTripsOf
def laws_FnExactTripsOf (a0 : (List Booking)) (a1 : Int) : Option Bool :=
  (laws_szBookingS a0 1048576).bind fun v1 =>
  bif (decide (v1 < 0)) then
  some true
  else
  (laws_toBookingS a0).bind fun v4 =>
  (spec_TripsOf v4 a1).bind fun v6 =>
  (laws_toBookingS a0).bind fun v8 =>
  (impl_TripsOf v8 a1).bind fun v10 =>
  (laws_eqTripS v10 v6).bind fun v12 =>
  bif (!v12) then
  some false
  else
  (laws_toBookingS a0).bind fun v15 =>
  (laws_eqBookingS v8 v15).bind fun v17 =>
  bif (!v17) then
  some false
  else
  (laws_markBookingS v8 1).bind fun v20 =>
  bif (decide (v20.1 < 0)) then
  some false
  else
  (laws_eqTripS v10 v6).bind fun v23 =>
  bif (!v23) then
  some false
  else
  (laws_markTripS v10 1).bind fun v26 =>
  (laws_heldTripS v26.2 1).bind fun v28 =>
  bif (decide (v28 < 0)) then
  some false
  else
  bif (v28 != v26.1) then
  some false
  else
  (laws_toBookingS a0).bind fun v32 =>
  (impl_TripsOf v32 a1).bind fun v34 =>
  (laws_eqTripS v34 v6).bind fun v36 =>
  bif (!v36) then
  some false
  else
  (laws_heldTripS v26.2 1).bind fun v39 =>
  bif (decide (v39 < 0)) then
  some false
  else
  bif (v39 != v26.1) then
  some false
  else
  some true
theorem laws_FnExactTripsOf_ok (a0 : (List Booking)) (a1 : Int) (r : Bool) (hM : laws_FnExactTripsOf a0 a1 = some r) :
    Con Try.prog 6 [.c (.rs 4 (a0.map Booking.enc)), .c (.v (.int .i64 a1))] [] (.o (.c (.v (.bool r)))) [] [] := by
  unfold laws_FnExactTripsOf at hM
  refine cn (N := 74) (pids := []) Try_mixed Try.func6 (by kernel_rfl) (by kernel_rfl) (by kernel_rfl) rfl fun ρ g w R => ?_
  obtain ⟨v1, h2, hM⟩ := bind_some hM
  rcases cond_cases hM with ⟨h3, hM⟩ | ⟨h3, hM⟩
  · have hE : some true = some r := hM
    have hE := Option.some.inj hE
    subst hE
    exact pr R 9999 [.call false [] (.o (.c (.v (.int .i64 v1)))) [] [], .as 17 true] [] [] [] (And.intro (laws_szBookingS_ok a0 1048576 v1 h2) (And.intro h3 True.intro)) (by kernel_rfl)
  · obtain ⟨v4, h5, hM⟩ := bind_some hM
    obtain ⟨v6, h7, hM⟩ := bind_some hM
    obtain ⟨v8, h9, hM⟩ := bind_some hM
    obtain ⟨v10, h11, hM⟩ := bind_some hM
    obtain ⟨v12, h13, hM⟩ := bind_some hM
    rcases cond_cases hM with ⟨h14, hM⟩ | ⟨h14, hM⟩
    · have hE : some false = some r := hM
      have hE := Option.some.inj hE
      subst hE
      exact pr R 9999 [.call false [] (.o (.c (.v (.int .i64 v1)))) [] [], .as 17 false, .call false [] (.o (.c (.sl 0))) [] [(0, .row 74 4 (v4.map Booking.enc))], .call false [] (.o (.c (.sl 1))) [] [(1, .row 31 2 (v6.map Trip.enc))], .call false [] (.o (.c (.sl 2))) [] [(2, .row 74 4 (v8.map Booking.enc))], .call false [] (.o (.c (.sl 3))) [] [(3, .row 31 2 (v10.map Trip.enc))], .call false [] (.o (.c (.v (.bool v12)))) [] [], .as 30 true] [] [] [] (And.intro (laws_szBookingS_ok a0 1048576 v1 h2) (And.intro h3 (And.intro (And.intro (con_sw 1000 0 (laws_toBookingS_ok a0 v4 h5)) (rfl : ([] : List Nat) = [])) (And.intro (And.intro (con_sw 1000 1 (spec_TripsOf_ok v4 a1 v6 h7)) (rfl : ([] : List Nat) = [])) (And.intro (And.intro (con_sw 1000 2 (laws_toBookingS_ok a0 v8 h9)) (rfl : ([] : List Nat) = [])) (And.intro (And.intro (con_sw 1000 3 (impl_TripsOf_ok v8 a1 v10 h11)) (rfl : ([] : List Nat) = [])) (And.intro (laws_eqTripS_ok v10 v6 v12 h13) (And.intro h14 True.intro)))))))) (by kernel_rfl)
    · obtain ⟨v15, h16, hM⟩ := bind_some hM
      obtain ⟨v17, h18, hM⟩ := bind_some hM
      rcases cond_cases hM with ⟨h19, hM⟩ | ⟨h19, hM⟩
      · have hE : some false = some r := hM
        have hE := Option.some.inj hE
        subst hE
        exact pr R 9999 [.call false [] (.o (.c (.v (.int .i64 v1)))) [] [], .as 17 false, .call false [] (.o (.c (.sl 0))) [] [(0, .row 74 4 (v4.map Booking.enc))], .call false [] (.o (.c (.sl 1))) [] [(1, .row 31 2 (v6.map Trip.enc))], .call false [] (.o (.c (.sl 2))) [] [(2, .row 74 4 (v8.map Booking.enc))], .call false [] (.o (.c (.sl 3))) [] [(3, .row 31 2 (v10.map Trip.enc))], .call false [] (.o (.c (.v (.bool v12)))) [] [], .as 30 false, .call false [] (.o (.c (.sl 4))) [] [(4, .row 74 4 (v15.map Booking.enc))], .call false [] (.o (.c (.v (.bool v17)))) [] [], .as 35 true] [] [] [] (And.intro (laws_szBookingS_ok a0 1048576 v1 h2) (And.intro h3 (And.intro (And.intro (con_sw 1000 0 (laws_toBookingS_ok a0 v4 h5)) (rfl : ([] : List Nat) = [])) (And.intro (And.intro (con_sw 1000 1 (spec_TripsOf_ok v4 a1 v6 h7)) (rfl : ([] : List Nat) = [])) (And.intro (And.intro (con_sw 1000 2 (laws_toBookingS_ok a0 v8 h9)) (rfl : ([] : List Nat) = [])) (And.intro (And.intro (con_sw 1000 3 (impl_TripsOf_ok v8 a1 v10 h11)) (rfl : ([] : List Nat) = [])) (And.intro (laws_eqTripS_ok v10 v6 v12 h13) (And.intro h14 (And.intro (And.intro (con_sw 1000 4 (laws_toBookingS_ok a0 v15 h16)) (rfl : ([] : List Nat) = [])) (And.intro (laws_eqBookingS_ok v8 v15 v17 h18) (And.intro h19 True.intro))))))))))) (by kernel_rfl)
      · obtain ⟨v20, h21, hM⟩ := bind_some hM
        rcases cond_cases hM with ⟨h22, hM⟩ | ⟨h22, hM⟩
        · have hE : some false = some r := hM
          have hE := Option.some.inj hE
          subst hE
          exact pr R 9999 [.call false [] (.o (.c (.v (.int .i64 v1)))) [] [], .as 17 false, .call false [] (.o (.c (.sl 0))) [] [(0, .row 74 4 (v4.map Booking.enc))], .call false [] (.o (.c (.sl 1))) [] [(1, .row 31 2 (v6.map Trip.enc))], .call false [] (.o (.c (.sl 2))) [] [(2, .row 74 4 (v8.map Booking.enc))], .call false [] (.o (.c (.sl 3))) [] [(3, .row 31 2 (v10.map Trip.enc))], .call false [] (.o (.c (.v (.bool v12)))) [] [], .as 30 false, .call false [] (.o (.c (.sl 4))) [] [(4, .row 74 4 (v15.map Booking.enc))], .call false [] (.o (.c (.v (.bool v17)))) [] [], .as 35 false, .call false [2] (.o (.c (.v (.int .i64 v20.1)))) [(2, .row 74 4 (v20.2.map Booking.enc))] [], .as 41 true] [] [] [] (And.intro (laws_szBookingS_ok a0 1048576 v1 h2) (And.intro h3 (And.intro (And.intro (con_sw 1000 0 (laws_toBookingS_ok a0 v4 h5)) (rfl : ([] : List Nat) = [])) (And.intro (And.intro (con_sw 1000 1 (spec_TripsOf_ok v4 a1 v6 h7)) (rfl : ([] : List Nat) = [])) (And.intro (And.intro (con_sw 1000 2 (laws_toBookingS_ok a0 v8 h9)) (rfl : ([] : List Nat) = [])) (And.intro (And.intro (con_sw 1000 3 (impl_TripsOf_ok v8 a1 v10 h11)) (rfl : ([] : List Nat) = [])) (And.intro (laws_eqTripS_ok v10 v6 v12 h13) (And.intro h14 (And.intro (And.intro (con_sw 1000 4 (laws_toBookingS_ok a0 v15 h16)) (rfl : ([] : List Nat) = [])) (And.intro (laws_eqBookingS_ok v8 v15 v17 h18) (And.intro h19 (And.intro (And.intro (con_sw 900 2 (laws_markBookingS_ok v8 1 v20 h21)) (rfl : ([2] : List Nat) = [2])) (And.intro h22 True.intro))))))))))))) (by kernel_rfl)
        · obtain ⟨v23, h24, hM⟩ := bind_some hM
          rcases cond_cases hM with ⟨h25, hM⟩ | ⟨h25, hM⟩
          · have hE : some false = some r := hM
            have hE := Option.some.inj hE
            subst hE
            exact pr R 9999 [.call false [] (.o (.c (.v (.int .i64 v1)))) [] [], .as 17 false, .call false [] (.o (.c (.sl 0))) [] [(0, .row 74 4 (v4.map Booking.enc))], .call false [] (.o (.c (.sl 1))) [] [(1, .row 31 2 (v6.map Trip.enc))], .call false [] (.o (.c (.sl 2))) [] [(2, .row 74 4 (v8.map Booking.enc))], .call false [] (.o (.c (.sl 3))) [] [(3, .row 31 2 (v10.map Trip.enc))], .call false [] (.o (.c (.v (.bool v12)))) [] [], .as 30 false, .call false [] (.o (.c (.sl 4))) [] [(4, .row 74 4 (v15.map Booking.enc))], .call false [] (.o (.c (.v (.bool v17)))) [] [], .as 35 false, .call false [2] (.o (.c (.v (.int .i64 v20.1)))) [(2, .row 74 4 (v20.2.map Booking.enc))] [], .as 41 false, .call false [] (.o (.c (.v (.bool v23)))) [] [], .as 46 true] [] [] [] (And.intro (laws_szBookingS_ok a0 1048576 v1 h2) (And.intro h3 (And.intro (And.intro (con_sw 1000 0 (laws_toBookingS_ok a0 v4 h5)) (rfl : ([] : List Nat) = [])) (And.intro (And.intro (con_sw 1000 1 (spec_TripsOf_ok v4 a1 v6 h7)) (rfl : ([] : List Nat) = [])) (And.intro (And.intro (con_sw 1000 2 (laws_toBookingS_ok a0 v8 h9)) (rfl : ([] : List Nat) = [])) (And.intro (And.intro (con_sw 1000 3 (impl_TripsOf_ok v8 a1 v10 h11)) (rfl : ([] : List Nat) = [])) (And.intro (laws_eqTripS_ok v10 v6 v12 h13) (And.intro h14 (And.intro (And.intro (con_sw 1000 4 (laws_toBookingS_ok a0 v15 h16)) (rfl : ([] : List Nat) = [])) (And.intro (laws_eqBookingS_ok v8 v15 v17 h18) (And.intro h19 (And.intro (And.intro (con_sw 900 2 (laws_markBookingS_ok v8 1 v20 h21)) (rfl : ([2] : List Nat) = [2])) (And.intro h22 (And.intro (laws_eqTripS_ok v10 v6 v23 h24) (And.intro h25 True.intro))))))))))))))) (by kernel_rfl)
          · obtain ⟨v26, h27, hM⟩ := bind_some hM
            obtain ⟨v28, h29, hM⟩ := bind_some hM
            rcases cond_cases hM with ⟨h30, hM⟩ | ⟨h30, hM⟩
            · have hE : some false = some r := hM
              have hE := Option.some.inj hE
              subst hE
              exact pr R 9999 [.call false [] (.o (.c (.v (.int .i64 v1)))) [] [], .as 17 false, .call false [] (.o (.c (.sl 0))) [] [(0, .row 74 4 (v4.map Booking.enc))], .call false [] (.o (.c (.sl 1))) [] [(1, .row 31 2 (v6.map Trip.enc))], .call false [] (.o (.c (.sl 2))) [] [(2, .row 74 4 (v8.map Booking.enc))], .call false [] (.o (.c (.sl 3))) [] [(3, .row 31 2 (v10.map Trip.enc))], .call false [] (.o (.c (.v (.bool v12)))) [] [], .as 30 false, .call false [] (.o (.c (.sl 4))) [] [(4, .row 74 4 (v15.map Booking.enc))], .call false [] (.o (.c (.v (.bool v17)))) [] [], .as 35 false, .call false [2] (.o (.c (.v (.int .i64 v20.1)))) [(2, .row 74 4 (v20.2.map Booking.enc))] [], .as 41 false, .call false [] (.o (.c (.v (.bool v23)))) [] [], .as 46 false, .call false [3] (.o (.c (.v (.int .i64 v26.1)))) [(3, .row 31 2 (v26.2.map Trip.enc))] [], .call false [] (.o (.c (.v (.int .i64 v28)))) [] [], .as 54 true] [] [] [] (And.intro (laws_szBookingS_ok a0 1048576 v1 h2) (And.intro h3 (And.intro (And.intro (con_sw 1000 0 (laws_toBookingS_ok a0 v4 h5)) (rfl : ([] : List Nat) = [])) (And.intro (And.intro (con_sw 1000 1 (spec_TripsOf_ok v4 a1 v6 h7)) (rfl : ([] : List Nat) = [])) (And.intro (And.intro (con_sw 1000 2 (laws_toBookingS_ok a0 v8 h9)) (rfl : ([] : List Nat) = [])) (And.intro (And.intro (con_sw 1000 3 (impl_TripsOf_ok v8 a1 v10 h11)) (rfl : ([] : List Nat) = [])) (And.intro (laws_eqTripS_ok v10 v6 v12 h13) (And.intro h14 (And.intro (And.intro (con_sw 1000 4 (laws_toBookingS_ok a0 v15 h16)) (rfl : ([] : List Nat) = [])) (And.intro (laws_eqBookingS_ok v8 v15 v17 h18) (And.intro h19 (And.intro (And.intro (con_sw 900 2 (laws_markBookingS_ok v8 1 v20 h21)) (rfl : ([2] : List Nat) = [2])) (And.intro h22 (And.intro (laws_eqTripS_ok v10 v6 v23 h24) (And.intro h25 (And.intro (And.intro (con_sw 900 3 (laws_markTripS_ok v10 1 v26 h27)) (rfl : ([3] : List Nat) = [3])) (And.intro (laws_heldTripS_ok v26.2 1 v28 h29) (And.intro h30 True.intro)))))))))))))))))) (by kernel_rfl)
            · rcases cond_cases hM with ⟨h31, hM⟩ | ⟨h31, hM⟩
              · have hE : some false = some r := hM
                have hE := Option.some.inj hE
                subst hE
                exact pr R 9999 [.call false [] (.o (.c (.v (.int .i64 v1)))) [] [], .as 17 false, .call false [] (.o (.c (.sl 0))) [] [(0, .row 74 4 (v4.map Booking.enc))], .call false [] (.o (.c (.sl 1))) [] [(1, .row 31 2 (v6.map Trip.enc))], .call false [] (.o (.c (.sl 2))) [] [(2, .row 74 4 (v8.map Booking.enc))], .call false [] (.o (.c (.sl 3))) [] [(3, .row 31 2 (v10.map Trip.enc))], .call false [] (.o (.c (.v (.bool v12)))) [] [], .as 30 false, .call false [] (.o (.c (.sl 4))) [] [(4, .row 74 4 (v15.map Booking.enc))], .call false [] (.o (.c (.v (.bool v17)))) [] [], .as 35 false, .call false [2] (.o (.c (.v (.int .i64 v20.1)))) [(2, .row 74 4 (v20.2.map Booking.enc))] [], .as 41 false, .call false [] (.o (.c (.v (.bool v23)))) [] [], .as 46 false, .call false [3] (.o (.c (.v (.int .i64 v26.1)))) [(3, .row 31 2 (v26.2.map Trip.enc))] [], .call false [] (.o (.c (.v (.int .i64 v28)))) [] [], .as 54 false, .as 57 true] [] [] [] (And.intro (laws_szBookingS_ok a0 1048576 v1 h2) (And.intro h3 (And.intro (And.intro (con_sw 1000 0 (laws_toBookingS_ok a0 v4 h5)) (rfl : ([] : List Nat) = [])) (And.intro (And.intro (con_sw 1000 1 (spec_TripsOf_ok v4 a1 v6 h7)) (rfl : ([] : List Nat) = [])) (And.intro (And.intro (con_sw 1000 2 (laws_toBookingS_ok a0 v8 h9)) (rfl : ([] : List Nat) = [])) (And.intro (And.intro (con_sw 1000 3 (impl_TripsOf_ok v8 a1 v10 h11)) (rfl : ([] : List Nat) = [])) (And.intro (laws_eqTripS_ok v10 v6 v12 h13) (And.intro h14 (And.intro (And.intro (con_sw 1000 4 (laws_toBookingS_ok a0 v15 h16)) (rfl : ([] : List Nat) = [])) (And.intro (laws_eqBookingS_ok v8 v15 v17 h18) (And.intro h19 (And.intro (And.intro (con_sw 900 2 (laws_markBookingS_ok v8 1 v20 h21)) (rfl : ([2] : List Nat) = [2])) (And.intro h22 (And.intro (laws_eqTripS_ok v10 v6 v23 h24) (And.intro h25 (And.intro (And.intro (con_sw 900 3 (laws_markTripS_ok v10 1 v26 h27)) (rfl : ([3] : List Nat) = [3])) (And.intro (laws_heldTripS_ok v26.2 1 v28 h29) (And.intro h30 (And.intro h31 True.intro))))))))))))))))))) (by kernel_rfl)
              · obtain ⟨v32, h33, hM⟩ := bind_some hM
                obtain ⟨v34, h35, hM⟩ := bind_some hM
                obtain ⟨v36, h37, hM⟩ := bind_some hM
                rcases cond_cases hM with ⟨h38, hM⟩ | ⟨h38, hM⟩
                · have hE : some false = some r := hM
                  have hE := Option.some.inj hE
                  subst hE
                  exact pr R 9999 [.call false [] (.o (.c (.v (.int .i64 v1)))) [] [], .as 17 false, .call false [] (.o (.c (.sl 0))) [] [(0, .row 74 4 (v4.map Booking.enc))], .call false [] (.o (.c (.sl 1))) [] [(1, .row 31 2 (v6.map Trip.enc))], .call false [] (.o (.c (.sl 2))) [] [(2, .row 74 4 (v8.map Booking.enc))], .call false [] (.o (.c (.sl 3))) [] [(3, .row 31 2 (v10.map Trip.enc))], .call false [] (.o (.c (.v (.bool v12)))) [] [], .as 30 false, .call false [] (.o (.c (.sl 4))) [] [(4, .row 74 4 (v15.map Booking.enc))], .call false [] (.o (.c (.v (.bool v17)))) [] [], .as 35 false, .call false [2] (.o (.c (.v (.int .i64 v20.1)))) [(2, .row 74 4 (v20.2.map Booking.enc))] [], .as 41 false, .call false [] (.o (.c (.v (.bool v23)))) [] [], .as 46 false, .call false [3] (.o (.c (.v (.int .i64 v26.1)))) [(3, .row 31 2 (v26.2.map Trip.enc))] [], .call false [] (.o (.c (.v (.int .i64 v28)))) [] [], .as 54 false, .as 57 false, .call false [] (.o (.c (.sl 5))) [] [(5, .row 74 4 (v32.map Booking.enc))], .call false [] (.o (.c (.sl 6))) [] [(6, .row 31 2 (v34.map Trip.enc))], .call false [] (.o (.c (.v (.bool v36)))) [] [], .as 65 true] [] [] [] (And.intro (laws_szBookingS_ok a0 1048576 v1 h2) (And.intro h3 (And.intro (And.intro (con_sw 1000 0 (laws_toBookingS_ok a0 v4 h5)) (rfl : ([] : List Nat) = [])) (And.intro (And.intro (con_sw 1000 1 (spec_TripsOf_ok v4 a1 v6 h7)) (rfl : ([] : List Nat) = [])) (And.intro (And.intro (con_sw 1000 2 (laws_toBookingS_ok a0 v8 h9)) (rfl : ([] : List Nat) = [])) (And.intro (And.intro (con_sw 1000 3 (impl_TripsOf_ok v8 a1 v10 h11)) (rfl : ([] : List Nat) = [])) (And.intro (laws_eqTripS_ok v10 v6 v12 h13) (And.intro h14 (And.intro (And.intro (con_sw 1000 4 (laws_toBookingS_ok a0 v15 h16)) (rfl : ([] : List Nat) = [])) (And.intro (laws_eqBookingS_ok v8 v15 v17 h18) (And.intro h19 (And.intro (And.intro (con_sw 900 2 (laws_markBookingS_ok v8 1 v20 h21)) (rfl : ([2] : List Nat) = [2])) (And.intro h22 (And.intro (laws_eqTripS_ok v10 v6 v23 h24) (And.intro h25 (And.intro (And.intro (con_sw 900 3 (laws_markTripS_ok v10 1 v26 h27)) (rfl : ([3] : List Nat) = [3])) (And.intro (laws_heldTripS_ok v26.2 1 v28 h29) (And.intro h30 (And.intro h31 (And.intro (And.intro (con_sw 1000 5 (laws_toBookingS_ok a0 v32 h33)) (rfl : ([] : List Nat) = [])) (And.intro (And.intro (con_sw 1000 6 (impl_TripsOf_ok v32 a1 v34 h35)) (rfl : ([] : List Nat) = [])) (And.intro (laws_eqTripS_ok v34 v6 v36 h37) (And.intro h38 True.intro))))))))))))))))))))))) (by kernel_rfl)
                · obtain ⟨v39, h40, hM⟩ := bind_some hM
                  rcases cond_cases hM with ⟨h41, hM⟩ | ⟨h41, hM⟩
                  · have hE : some false = some r := hM
                    have hE := Option.some.inj hE
                    subst hE
                    exact pr R 9999 [.call false [] (.o (.c (.v (.int .i64 v1)))) [] [], .as 17 false, .call false [] (.o (.c (.sl 0))) [] [(0, .row 74 4 (v4.map Booking.enc))], .call false [] (.o (.c (.sl 1))) [] [(1, .row 31 2 (v6.map Trip.enc))], .call false [] (.o (.c (.sl 2))) [] [(2, .row 74 4 (v8.map Booking.enc))], .call false [] (.o (.c (.sl 3))) [] [(3, .row 31 2 (v10.map Trip.enc))], .call false [] (.o (.c (.v (.bool v12)))) [] [], .as 30 false, .call false [] (.o (.c (.sl 4))) [] [(4, .row 74 4 (v15.map Booking.enc))], .call false [] (.o (.c (.v (.bool v17)))) [] [], .as 35 false, .call false [2] (.o (.c (.v (.int .i64 v20.1)))) [(2, .row 74 4 (v20.2.map Booking.enc))] [], .as 41 false, .call false [] (.o (.c (.v (.bool v23)))) [] [], .as 46 false, .call false [3] (.o (.c (.v (.int .i64 v26.1)))) [(3, .row 31 2 (v26.2.map Trip.enc))] [], .call false [] (.o (.c (.v (.int .i64 v28)))) [] [], .as 54 false, .as 57 false, .call false [] (.o (.c (.sl 5))) [] [(5, .row 74 4 (v32.map Booking.enc))], .call false [] (.o (.c (.sl 6))) [] [(6, .row 31 2 (v34.map Trip.enc))], .call false [] (.o (.c (.v (.bool v36)))) [] [], .as 65 false, .call false [] (.o (.c (.v (.int .i64 v39)))) [] [], .as 70 true] [] [] [] (And.intro (laws_szBookingS_ok a0 1048576 v1 h2) (And.intro h3 (And.intro (And.intro (con_sw 1000 0 (laws_toBookingS_ok a0 v4 h5)) (rfl : ([] : List Nat) = [])) (And.intro (And.intro (con_sw 1000 1 (spec_TripsOf_ok v4 a1 v6 h7)) (rfl : ([] : List Nat) = [])) (And.intro (And.intro (con_sw 1000 2 (laws_toBookingS_ok a0 v8 h9)) (rfl : ([] : List Nat) = [])) (And.intro (And.intro (con_sw 1000 3 (impl_TripsOf_ok v8 a1 v10 h11)) (rfl : ([] : List Nat) = [])) (And.intro (laws_eqTripS_ok v10 v6 v12 h13) (And.intro h14 (And.intro (And.intro (con_sw 1000 4 (laws_toBookingS_ok a0 v15 h16)) (rfl : ([] : List Nat) = [])) (And.intro (laws_eqBookingS_ok v8 v15 v17 h18) (And.intro h19 (And.intro (And.intro (con_sw 900 2 (laws_markBookingS_ok v8 1 v20 h21)) (rfl : ([2] : List Nat) = [2])) (And.intro h22 (And.intro (laws_eqTripS_ok v10 v6 v23 h24) (And.intro h25 (And.intro (And.intro (con_sw 900 3 (laws_markTripS_ok v10 1 v26 h27)) (rfl : ([3] : List Nat) = [3])) (And.intro (laws_heldTripS_ok v26.2 1 v28 h29) (And.intro h30 (And.intro h31 (And.intro (And.intro (con_sw 1000 5 (laws_toBookingS_ok a0 v32 h33)) (rfl : ([] : List Nat) = [])) (And.intro (And.intro (con_sw 1000 6 (impl_TripsOf_ok v32 a1 v34 h35)) (rfl : ([] : List Nat) = [])) (And.intro (laws_eqTripS_ok v34 v6 v36 h37) (And.intro h38 (And.intro (laws_heldTripS_ok v26.2 1 v39 h40) (And.intro h41 True.intro))))))))))))))))))))))))) (by kernel_rfl)
                  · rcases cond_cases hM with ⟨h42, hM⟩ | ⟨h42, hM⟩
                    · have hE : some false = some r := hM
                      have hE := Option.some.inj hE
                      subst hE
                      exact pr R 9999 [.call false [] (.o (.c (.v (.int .i64 v1)))) [] [], .as 17 false, .call false [] (.o (.c (.sl 0))) [] [(0, .row 74 4 (v4.map Booking.enc))], .call false [] (.o (.c (.sl 1))) [] [(1, .row 31 2 (v6.map Trip.enc))], .call false [] (.o (.c (.sl 2))) [] [(2, .row 74 4 (v8.map Booking.enc))], .call false [] (.o (.c (.sl 3))) [] [(3, .row 31 2 (v10.map Trip.enc))], .call false [] (.o (.c (.v (.bool v12)))) [] [], .as 30 false, .call false [] (.o (.c (.sl 4))) [] [(4, .row 74 4 (v15.map Booking.enc))], .call false [] (.o (.c (.v (.bool v17)))) [] [], .as 35 false, .call false [2] (.o (.c (.v (.int .i64 v20.1)))) [(2, .row 74 4 (v20.2.map Booking.enc))] [], .as 41 false, .call false [] (.o (.c (.v (.bool v23)))) [] [], .as 46 false, .call false [3] (.o (.c (.v (.int .i64 v26.1)))) [(3, .row 31 2 (v26.2.map Trip.enc))] [], .call false [] (.o (.c (.v (.int .i64 v28)))) [] [], .as 54 false, .as 57 false, .call false [] (.o (.c (.sl 5))) [] [(5, .row 74 4 (v32.map Booking.enc))], .call false [] (.o (.c (.sl 6))) [] [(6, .row 31 2 (v34.map Trip.enc))], .call false [] (.o (.c (.v (.bool v36)))) [] [], .as 65 false, .call false [] (.o (.c (.v (.int .i64 v39)))) [] [], .as 70 false, .as 73 true] [] [] [] (And.intro (laws_szBookingS_ok a0 1048576 v1 h2) (And.intro h3 (And.intro (And.intro (con_sw 1000 0 (laws_toBookingS_ok a0 v4 h5)) (rfl : ([] : List Nat) = [])) (And.intro (And.intro (con_sw 1000 1 (spec_TripsOf_ok v4 a1 v6 h7)) (rfl : ([] : List Nat) = [])) (And.intro (And.intro (con_sw 1000 2 (laws_toBookingS_ok a0 v8 h9)) (rfl : ([] : List Nat) = [])) (And.intro (And.intro (con_sw 1000 3 (impl_TripsOf_ok v8 a1 v10 h11)) (rfl : ([] : List Nat) = [])) (And.intro (laws_eqTripS_ok v10 v6 v12 h13) (And.intro h14 (And.intro (And.intro (con_sw 1000 4 (laws_toBookingS_ok a0 v15 h16)) (rfl : ([] : List Nat) = [])) (And.intro (laws_eqBookingS_ok v8 v15 v17 h18) (And.intro h19 (And.intro (And.intro (con_sw 900 2 (laws_markBookingS_ok v8 1 v20 h21)) (rfl : ([2] : List Nat) = [2])) (And.intro h22 (And.intro (laws_eqTripS_ok v10 v6 v23 h24) (And.intro h25 (And.intro (And.intro (con_sw 900 3 (laws_markTripS_ok v10 1 v26 h27)) (rfl : ([3] : List Nat) = [3])) (And.intro (laws_heldTripS_ok v26.2 1 v28 h29) (And.intro h30 (And.intro h31 (And.intro (And.intro (con_sw 1000 5 (laws_toBookingS_ok a0 v32 h33)) (rfl : ([] : List Nat) = [])) (And.intro (And.intro (con_sw 1000 6 (impl_TripsOf_ok v32 a1 v34 h35)) (rfl : ([] : List Nat) = [])) (And.intro (laws_eqTripS_ok v34 v6 v36 h37) (And.intro h38 (And.intro (laws_heldTripS_ok v26.2 1 v39 h40) (And.intro h41 (And.intro h42 True.intro)))))))))))))))))))))))))) (by kernel_rfl)
                    · have hE : some true = some r := hM
                      have hE := Option.some.inj hE
                      subst hE
                      exact pr R 9999 [.call false [] (.o (.c (.v (.int .i64 v1)))) [] [], .as 17 false, .call false [] (.o (.c (.sl 0))) [] [(0, .row 74 4 (v4.map Booking.enc))], .call false [] (.o (.c (.sl 1))) [] [(1, .row 31 2 (v6.map Trip.enc))], .call false [] (.o (.c (.sl 2))) [] [(2, .row 74 4 (v8.map Booking.enc))], .call false [] (.o (.c (.sl 3))) [] [(3, .row 31 2 (v10.map Trip.enc))], .call false [] (.o (.c (.v (.bool v12)))) [] [], .as 30 false, .call false [] (.o (.c (.sl 4))) [] [(4, .row 74 4 (v15.map Booking.enc))], .call false [] (.o (.c (.v (.bool v17)))) [] [], .as 35 false, .call false [2] (.o (.c (.v (.int .i64 v20.1)))) [(2, .row 74 4 (v20.2.map Booking.enc))] [], .as 41 false, .call false [] (.o (.c (.v (.bool v23)))) [] [], .as 46 false, .call false [3] (.o (.c (.v (.int .i64 v26.1)))) [(3, .row 31 2 (v26.2.map Trip.enc))] [], .call false [] (.o (.c (.v (.int .i64 v28)))) [] [], .as 54 false, .as 57 false, .call false [] (.o (.c (.sl 5))) [] [(5, .row 74 4 (v32.map Booking.enc))], .call false [] (.o (.c (.sl 6))) [] [(6, .row 31 2 (v34.map Trip.enc))], .call false [] (.o (.c (.v (.bool v36)))) [] [], .as 65 false, .call false [] (.o (.c (.v (.int .i64 v39)))) [] [], .as 70 false, .as 73 false] [] [] [] (And.intro (laws_szBookingS_ok a0 1048576 v1 h2) (And.intro h3 (And.intro (And.intro (con_sw 1000 0 (laws_toBookingS_ok a0 v4 h5)) (rfl : ([] : List Nat) = [])) (And.intro (And.intro (con_sw 1000 1 (spec_TripsOf_ok v4 a1 v6 h7)) (rfl : ([] : List Nat) = [])) (And.intro (And.intro (con_sw 1000 2 (laws_toBookingS_ok a0 v8 h9)) (rfl : ([] : List Nat) = [])) (And.intro (And.intro (con_sw 1000 3 (impl_TripsOf_ok v8 a1 v10 h11)) (rfl : ([] : List Nat) = [])) (And.intro (laws_eqTripS_ok v10 v6 v12 h13) (And.intro h14 (And.intro (And.intro (con_sw 1000 4 (laws_toBookingS_ok a0 v15 h16)) (rfl : ([] : List Nat) = [])) (And.intro (laws_eqBookingS_ok v8 v15 v17 h18) (And.intro h19 (And.intro (And.intro (con_sw 900 2 (laws_markBookingS_ok v8 1 v20 h21)) (rfl : ([2] : List Nat) = [2])) (And.intro h22 (And.intro (laws_eqTripS_ok v10 v6 v23 h24) (And.intro h25 (And.intro (And.intro (con_sw 900 3 (laws_markTripS_ok v10 1 v26 h27)) (rfl : ([3] : List Nat) = [3])) (And.intro (laws_heldTripS_ok v26.2 1 v28 h29) (And.intro h30 (And.intro h31 (And.intro (And.intro (con_sw 1000 5 (laws_toBookingS_ok a0 v32 h33)) (rfl : ([] : List Nat) = [])) (And.intro (And.intro (con_sw 1000 6 (impl_TripsOf_ok v32 a1 v34 h35)) (rfl : ([] : List Nat) = [])) (And.intro (laws_eqTripS_ok v34 v6 v36 h37) (And.intro h38 (And.intro (laws_heldTripS_ok v26.2 1 v39 h40) (And.intro h41 (And.intro h42 True.intro)))))))))))))))))))))))))) (by kernel_rfl)

-- loop.example/g03014/laws.szLeg
def laws_szLeg (a0 : Leg) (a1 : Int) : Option Int :=
  bif (decide ((w64 (a1 - (a0.From.size : Int))) < 0)) then
  some (-1)
  else
  bif (decide ((w64 ((w64 (a1 - (a0.From.size : Int))) - (a0.To.size : Int))) < 0)) then
  some (-1)
  else
  some (w64 ((w64 (a1 - (a0.From.size : Int))) - (a0.To.size : Int)))
theorem laws_szLeg_ok (a0 : Leg) (a1 : Int) (r : Int) (hM : laws_szLeg a0 a1 = some r) :
    Con Try.prog 82 [.c (.v (.agg (Leg.enc a0).toArray)), .c (.v (.int .i64 a1))] [] (.o (.c (.v (.int .i64 r)))) [] [] := by
  unfold laws_szLeg at hM
  refine cn (N := 20) (pids := []) Try_mixed Try.func82 (by kernel_rfl) (by kernel_rfl) (by kernel_rfl) rfl fun ρ g w R => ?_
  rcases cond_cases hM with ⟨h1, hM⟩ | ⟨h1, hM⟩
  · have hE : some (-1) = some r := hM
    have hE := Option.some.inj hE
    subst hE
    exact pr R 9999 [.new 0, .as 11 true] [] [] [] (And.intro h1 True.intro) (by kernel_rfl)
  · rcases cond_cases hM with ⟨h2, hM⟩ | ⟨h2, hM⟩
    · have hE : some (-1) = some r := hM
      have hE := Option.some.inj hE
      subst hE
      exact pr R 9999 [.new 0, .as 11 false, .as 18 true] [] [] [] (And.intro h1 (And.intro h2 True.intro)) (by kernel_rfl)
    · have hE : some (w64 ((w64 (a1 - (a0.From.size : Int))) - (a0.To.size : Int))) = some r := hM
      have hE := Option.some.inj hE
      subst hE
      exact pr R 9999 [.new 0, .as 11 false, .as 18 false] [] [] [] (And.intro h1 (And.intro h2 True.intro)) (by kernel_rfl)

-- loop.example/g03014/laws.szLegS
def laws_szLegS_L1_b (a0 : (List Leg)) (s2 : Int) (s3 : Int) : Option (Ctl (Int × Int) Int Int) :=
  bif (decide (s3 < (a0.length : Int))) then
  (gi a0 s3).bind fun v6 =>
  (laws_szLeg v6 s2).bind fun v8 =>
  bif (decide (v8 < 0)) then
  some (.ret (-1))
  else
  some (.next (v8, w64 (s3 + 1)))
  else
  some (.brk s2)
def laws_szLegS_L1 (a0 : (List Leg)) (s : Int × Int) : Option (Ctl (Int × Int) Int Int) := laws_szLegS_L1_b a0 s.1 s.2
def laws_szLegS_L1_s (a0 : (List Leg)) (s2 : Int) (s3 : Int) : St := ⟨[(0, .o (.c (.rs 6 (a0.map Leg.enc)))), (1, .o (.c (.v (.int .i64 s2)))), (5, .o (.c (.v (.int .i64 s3))))], []⟩
def laws_szLegS_L1_S (a0 : (List Leg)) (s : Int × Int) : St := laws_szLegS_L1_s a0 s.1 s.2
def laws_szLegS_L1_a (s4 : Int) : Option Int :=
  some s4
def laws_szLegS_L1_k (x : (Int) ⊕ (Int)) : Option Int := match x with
  | .inl t => laws_szLegS_L1_a t
  | .inr y => some y
def laws_szLegS (a0 : (List Leg)) (a1 : Int) : Option Int :=
  bif (decide ((w64 (a1 - (a0.length : Int))) < 0)) then
  some (-1)
  else
  (loopM (laws_szLegS_L1 a0) big (w64 (a1 - (a0.length : Int)), 0)).bind (laws_szLegS_L1_k)
theorem laws_szLegS_ok (a0 : (List Leg)) (a1 : Int) (r : Int) (hM : laws_szLegS a0 a1 = some r) :
    Con Try.prog 60 [.c (.rs 6 (a0.map Leg.enc)), .c (.v (.int .i64 a1))] [] (.o (.c (.v (.int .i64 r)))) [] [] := by
  unfold laws_szLegS at hM
  refine cn (N := 27) (pids := []) Try_mixed Try.func60 (by kernel_rfl) (by kernel_rfl) (by kernel_rfl) rfl fun ρ g w R => ?_
  rcases cond_cases hM with ⟨h1, hM⟩ | ⟨h1, hM⟩
  · have hE : some (-1) = some r := hM
    have hE := Option.some.inj hE
    subst hE
    exact pr R 9999 [.ln (a0.length), .as 11 true] [] [] [] (And.intro (lenm Leg.enc a0) (And.intro h1 True.intro)) (by kernel_rfl)
  · have K1 : ∀ (s4 : Int), laws_szLegS_L1_a s4 = some r → Gr R [.code (cAt Try.f60 [1, 1, 1, 1])] (⟨[(1, .o (.c (.v (.int .i64 s4))))], []⟩) := by
      intro s4 hM
      unfold laws_szLegS_L1_a at hM
      have hE : some s4 = some r := hM
      have hE := Option.some.inj hE
      subst hE
      exact pr R 9999 [] [] [] [] True.intro (by kernel_rfl)
    refine pc R 9999 [.ln (a0.length), .as 11 false] [.keep [0, 1, 5] []] (k' := [.code (.loop (cAt Try.f60 [1, 1, 1, 0, 1, 0, 0])), .blk 0, .code (cAt Try.f60 [1, 1, 1, 1])]) (S' := laws_szLegS_L1_S a0 (w64 (a1 - (a0.length : Int)), 0)) (And.intro (lenm Leg.enc a0) (And.intro h1 True.intro)) (by kernel_rfl) ?_
    refine lq (laws_szLegS_L1_S a0) (body := laws_szLegS_L1 a0) (k := laws_szLegS_L1_k) hM fun m1 s c1 hM hK1 => ?_
    obtain ⟨s2, s3⟩ := s
    have hM : laws_szLegS_L1_b a0 s2 s3 = some c1 := hM
    unfold laws_szLegS_L1_b at hM
    rcases cond_cases hM with ⟨h5, hM⟩ | ⟨h5, hM⟩
    · obtain ⟨v6, h7, hM⟩ := bind_some hM
      obtain ⟨v8, h9, hM⟩ := bind_some hM
      rcases cond_cases hM with ⟨h10, hM⟩ | ⟨h10, hM⟩
      · have hE : some (Ctl.ret (-1)) = some c1 := hM
        have hE := Option.some.inj hE
        subst hE
        have hE : some (-1) = some r := hK1
        have hE := Option.some.inj hE
        subst hE
        exact pr R 9999 [.ln (a0.length), .as 15 true, .ix (Leg.enc v6), .call false [] (.o (.c (.v (.int .i64 v8)))) [] [], .as 25 true] [] [] [] (And.intro (lenm Leg.enc a0) (And.intro h5 (And.intro (gi_map Leg.enc h7) (And.intro (laws_szLeg_ok v6 s2 v8 h9) (And.intro h10 True.intro))))) (by kernel_rfl)
      · have hE : some (Ctl.next (v8, w64 (s3 + 1))) = some c1 := hM
        have hE := Option.some.inj hE
        subst hE
        exact pc R 9999 [.ln (a0.length), .as 15 true, .ix (Leg.enc v6), .call false [] (.o (.c (.v (.int .i64 v8)))) [] [], .as 25 false] [.keep [0, 1, 5] []] (And.intro (lenm Leg.enc a0) (And.intro h5 (And.intro (gi_map Leg.enc h7) (And.intro (laws_szLeg_ok v6 s2 v8 h9) (And.intro h10 True.intro))))) (by kernel_rfl) (li (Sf := laws_szLegS_L1_S a0) (M := Mk (laws_szLegS_L1 a0) (laws_szLegS_L1_k) r) (k := [.blk 0, .code (cAt Try.f60 [1, 1, 1, 1])]) (Nat.lt_succ_self m1) hK1)
    · have hE : some (Ctl.brk s2) = some c1 := hM
      have hE := Option.some.inj hE
      subst hE
      exact pc R 5 [.ln (a0.length), .as 15 false] [.keep [1] []] (And.intro (lenm Leg.enc a0) (And.intro h5 True.intro)) (by kernel_rfl) (K1 s2 hK1)

-- loop.example/g03014/laws.szIntS
def laws_szIntS (a0 : (List Int)) (a1 : Int) : Option Int :=
  bif (decide ((w64 (a1 - (a0.length : Int))) < 0)) then
  some (-1)
  else
  some (w64 (a1 - (a0.length : Int)))
theorem laws_szIntS_ok (a0 : (List Int)) (a1 : Int) (r : Int) (hM : laws_szIntS a0 a1 = some r) :
    Con Try.prog 61 [.c (.rs 1 (a0.map encI)), .c (.v (.int .i64 a1))] [] (.o (.c (.v (.int .i64 r)))) [] [] := by
  unfold laws_szIntS at hM
  refine cn (N := 12) (pids := []) Try_mixed Try.func61 (by kernel_rfl) (by kernel_rfl) (by kernel_rfl) rfl fun ρ g w R => ?_
  rcases cond_cases hM with ⟨h1, hM⟩ | ⟨h1, hM⟩
  · have hE : some (-1) = some r := hM
    have hE := Option.some.inj hE
    subst hE
    exact pr R 9999 [.ln (a0.length), .as 10 true] [] [] [] (And.intro (lenm encI a0) (And.intro h1 True.intro)) (by kernel_rfl)
  · have hE : some (w64 (a1 - (a0.length : Int))) = some r := hM
    have hE := Option.some.inj hE
    subst hE
    exact pr R 9999 [.ln (a0.length), .as 10 false] [] [] [] (And.intro (lenm encI a0) (And.intro h1 True.intro)) (by kernel_rfl)

-- loop.example/g03014/laws.szNetwork
def laws_szNetwork (a0 : Network) (a1 : Int) : Option Int :=
  (laws_szLegS a0.Legs a1).bind fun v1 =>
  bif (decide (v1 < 0)) then
  some (-1)
  else
  (laws_szIntS a0.Off v1).bind fun v4 =>
  bif (decide (v4 < 0)) then
  some (-1)
  else
  some v4
theorem laws_szNetwork_ok (a0 : Network) (a1 : Int) (r : Int) (hM : laws_szNetwork a0 a1 = some r) :
    Con Try.prog 34 [.agg [.rs 6 (a0.Legs.map Leg.enc), .rs 1 (a0.Off.map encI), .v (.int .i64 a0.Change)], .c (.v (.int .i64 a1))] [] (.o (.c (.v (.int .i64 r)))) [] [] := by
  unfold laws_szNetwork at hM
  refine cn (N := 18) (pids := []) Try_mixed Try.func34 (by kernel_rfl) (by kernel_rfl) (by kernel_rfl) rfl fun ρ g w R => ?_
  obtain ⟨v1, h2, hM⟩ := bind_some hM
  rcases cond_cases hM with ⟨h3, hM⟩ | ⟨h3, hM⟩
  · have hE : some (-1) = some r := hM
    have hE := Option.some.inj hE
    subst hE
    exact pr R 9999 [.new 0, .call false [] (.o (.c (.v (.int .i64 v1)))) [] [], .as 10 true] [] [] [] (And.intro (laws_szLegS_ok a0.Legs a1 v1 h2) (And.intro h3 True.intro)) (by kernel_rfl)
  · obtain ⟨v4, h5, hM⟩ := bind_some hM
    rcases cond_cases hM with ⟨h6, hM⟩ | ⟨h6, hM⟩
    · have hE : some (-1) = some r := hM
      have hE := Option.some.inj hE
      subst hE
      exact pr R 9999 [.new 0, .call false [] (.o (.c (.v (.int .i64 v1)))) [] [], .as 10 false, .call false [] (.o (.c (.v (.int .i64 v4)))) [] [], .as 16 true] [] [] [] (And.intro (laws_szLegS_ok a0.Legs a1 v1 h2) (And.intro h3 (And.intro (laws_szIntS_ok a0.Off v1 v4 h5) (And.intro h6 True.intro)))) (by kernel_rfl)
    · have hE : some v4 = some r := hM
      have hE := Option.some.inj hE
      subst hE
      exact pr R 9999 [.new 0, .call false [] (.o (.c (.v (.int .i64 v1)))) [] [], .as 10 false, .call false [] (.o (.c (.v (.int .i64 v4)))) [] [], .as 16 false] [] [] [] (And.intro (laws_szLegS_ok a0.Legs a1 v1 h2) (And.intro h3 (And.intro (laws_szIntS_ok a0.Off v1 v4 h5) (And.intro h6 True.intro)))) (by kernel_rfl)

-- loop.example/g03014/laws.szTripS
def laws_szTripS (a0 : (List Trip)) (a1 : Int) : Option Int :=
  bif (decide ((w64 (a1 - (a0.length : Int))) < 0)) then
  some (-1)
  else
  some (w64 (a1 - (a0.length : Int)))
theorem laws_szTripS_ok (a0 : (List Trip)) (a1 : Int) (r : Int) (hM : laws_szTripS a0 a1 = some r) :
    Con Try.prog 35 [.c (.rs 2 (a0.map Trip.enc)), .c (.v (.int .i64 a1))] [] (.o (.c (.v (.int .i64 r)))) [] [] := by
  unfold laws_szTripS at hM
  refine cn (N := 12) (pids := []) Try_mixed Try.func35 (by kernel_rfl) (by kernel_rfl) (by kernel_rfl) rfl fun ρ g w R => ?_
  rcases cond_cases hM with ⟨h1, hM⟩ | ⟨h1, hM⟩
  · have hE : some (-1) = some r := hM
    have hE := Option.some.inj hE
    subst hE
    exact pr R 9999 [.ln (a0.length), .as 10 true] [] [] [] (And.intro (lenm Trip.enc a0) (And.intro h1 True.intro)) (by kernel_rfl)
  · have hE : some (w64 (a1 - (a0.length : Int))) = some r := hM
    have hE := Option.some.inj hE
    subst hE
    exact pr R 9999 [.ln (a0.length), .as 10 false] [] [] [] (And.intro (lenm Trip.enc a0) (And.intro h1 True.intro)) (by kernel_rfl)

-- loop.example/g03014/laws.toLeg
def laws_toLeg (a0 : Leg) : Option Leg :=
  some a0
theorem laws_toLeg_ok (a0 : Leg) (r : Leg) (hM : laws_toLeg a0 = some r) :
    Con Try.prog 85 [.c (.v (.agg (Leg.enc a0).toArray))] [] (.o (.c (.v (.agg (Leg.enc r).toArray)))) [] [] := by
  unfold laws_toLeg at hM
  refine cn (N := 23) (pids := []) Try_mixed Try.func85 (by kernel_rfl) (by kernel_rfl) (by kernel_rfl) rfl fun ρ g w R => ?_
  have hE : some a0 = some r := hM
  have hE := Option.some.inj hE
  subst hE
  exact pr R 9999 [.new 0, .new 1, .new 2] [] [] [] True.intro (by kernel_rfl)

-- loop.example/g03014/laws.toLegS
def laws_toLegS_L1_b (a0 : (List Leg)) (s3 : (List Leg)) (s4 : Int) : Option (Ctl ((List Leg) × Int) (List Leg) (List Leg)) :=
  bif (decide (s4 < (a0.length : Int))) then
  (gi a0 s4).bind fun v7 =>
  (laws_toLeg v7).bind fun v9 =>
  (gi s3 s4).bind fun v11 =>
  some (.next (List.set s3 (Int.toNat s4) v9, w64 (s4 + 1)))
  else
  some (.brk s3)
def laws_toLegS_L1 (a0 : (List Leg)) (s : (List Leg) × Int) : Option (Ctl ((List Leg) × Int) (List Leg) (List Leg)) := laws_toLegS_L1_b a0 s.1 s.2
def laws_toLegS_L1_s (a0 : (List Leg)) (s3 : (List Leg)) (s4 : Int) : St := ⟨[(0, .o (.c (.rs 6 (a0.map Leg.enc)))), (3, .o (.c (.sl 0))), (4, .o (.c (.v (.int .i64 s4))))], [(0, .row 89 6 (s3.map Leg.enc))]⟩
def laws_toLegS_L1_S (a0 : (List Leg)) (s : (List Leg) × Int) : St := laws_toLegS_L1_s a0 s.1 s.2
def laws_toLegS_L1_a (s5 : (List Leg)) : Option (List Leg) :=
  some s5
def laws_toLegS_L1_k (x : ((List Leg)) ⊕ ((List Leg))) : Option (List Leg) := match x with
  | .inl t => laws_toLegS_L1_a t
  | .inr y => some y
def laws_toLegS (a0 : (List Leg)) : Option (List Leg) :=
  ((mkM 64 (a0.length : Int) : Option (List Leg))).bind fun v1 =>
  (loopM (laws_toLegS_L1 a0) big (v1, 0)).bind (laws_toLegS_L1_k)
theorem laws_toLegS_ok (a0 : (List Leg)) (r : (List Leg)) (hM : laws_toLegS a0 = some r) :
    Con Try.prog 65 [.c (.rs 6 (a0.map Leg.enc))] [] (.o (.c (.sl 1000))) [] [(1000, .row 89 6 (r.map Leg.enc))] := by
  unfold laws_toLegS at hM
  refine cn (N := 23) (pids := []) Try_mixed Try.func65 (by kernel_rfl) (by kernel_rfl) (by kernel_rfl) rfl fun ρ g w R => ?_
  obtain ⟨v1, h2, hM⟩ := bind_some hM
  have K1 : ∀ (s5 : (List Leg)), laws_toLegS_L1_a s5 = some r → Gr R [.code (cAt Try.f65 [1, 1, 1])] (⟨[(3, .o (.c (.sl 0)))], [(0, .row 89 6 (s5.map Leg.enc))]⟩) := by
    intro s5 hM
    unfold laws_toLegS_L1_a at hM
    have hE : some s5 = some r := hM
    have hE := Option.some.inj hE
    subst hE
    exact pr R 9999 [] [.sw 0 1000] [] [1000] True.intro (by kernel_rfl)
  refine pc R 9999 [.ln (a0.length), .new 0, .nm (v1.map Leg.enc)] [.keep [0, 3, 4] [0]] (k' := [.code (.loop (cAt Try.f65 [1, 1, 0, 1, 0, 0])), .blk 0, .code (cAt Try.f65 [1, 1, 1])]) (S' := laws_toLegS_L1_S a0 (v1, 0)) (And.intro (lenm Leg.enc a0) (And.intro (mkM_ok Leg.enc h2) True.intro)) (by kernel_rfl) ?_
  refine lq (laws_toLegS_L1_S a0) (body := laws_toLegS_L1 a0) (k := laws_toLegS_L1_k) hM fun m1 s c1 hM hK1 => ?_
  obtain ⟨s3, s4⟩ := s
  have hM : laws_toLegS_L1_b a0 s3 s4 = some c1 := hM
  unfold laws_toLegS_L1_b at hM
  rcases cond_cases hM with ⟨h6, hM⟩ | ⟨h6, hM⟩
  · obtain ⟨v7, h8, hM⟩ := bind_some hM
    obtain ⟨v9, h10, hM⟩ := bind_some hM
    obtain ⟨v11, h12, hM⟩ := bind_some hM
    have hE : some (Ctl.next (List.set s3 (Int.toNat s4) v9, w64 (s4 + 1))) = some c1 := hM
    have hE := Option.some.inj hE
    subst hE
    exact pc R 9999 [.ln (a0.length), .as 11 true, .ix (Leg.enc v7), .call false [] (.o (.c (.v (.agg (Leg.enc v9).toArray)))) [] [], .ix (Leg.enc v11), .nm ((List.set s3 (Int.toNat s4) v9).map Leg.enc)] [.keep [0, 3, 4] [0]] (And.intro (lenm Leg.enc a0) (And.intro h6 (And.intro (gi_map Leg.enc h8) (And.intro (laws_toLeg_ok v7 v9 h10) (And.intro (gi_lt Leg.enc h12) (And.intro (And.intro (gi_map Leg.enc h12).2 (set_map Leg.enc s3 (Int.toNat s4) v9)) True.intro)))))) (by kernel_rfl) (li (Sf := laws_toLegS_L1_S a0) (M := Mk (laws_toLegS_L1 a0) (laws_toLegS_L1_k) r) (k := [.blk 0, .code (cAt Try.f65 [1, 1, 1])]) (Nat.lt_succ_self m1) hK1)
  · have hE : some (Ctl.brk s3) = some c1 := hM
    have hE := Option.some.inj hE
    subst hE
    exact pc R 5 [.ln (a0.length), .as 11 false] [.keep [3] [0]] (And.intro (lenm Leg.enc a0) (And.intro h6 True.intro)) (by kernel_rfl) (K1 s3 hK1)

-- loop.example/g03014/laws.toIntS
def laws_toIntS_L1_b (a0 : (List Int)) (s3 : (List Int)) (s4 : Int) : Option (Ctl ((List Int) × Int) (List Int) (List Int)) :=
  bif (decide (s4 < (a0.length : Int))) then
  (gi a0 s4).bind fun v7 =>
  (gi s3 s4).bind fun v9 =>
  some (.next (List.set s3 (Int.toNat s4) v7, w64 (s4 + 1)))
  else
  some (.brk s3)
def laws_toIntS_L1 (a0 : (List Int)) (s : (List Int) × Int) : Option (Ctl ((List Int) × Int) (List Int) (List Int)) := laws_toIntS_L1_b a0 s.1 s.2
def laws_toIntS_L1_s (a0 : (List Int)) (s3 : (List Int)) (s4 : Int) : St := ⟨[(0, .o (.c (.rs 1 (a0.map encI)))), (3, .o (.c (.sl 0))), (4, .o (.c (.v (.int .i64 s4))))], [(0, .row 3 1 (s3.map encI))]⟩
def laws_toIntS_L1_S (a0 : (List Int)) (s : (List Int) × Int) : St := laws_toIntS_L1_s a0 s.1 s.2
def laws_toIntS_L1_a (s5 : (List Int)) : Option (List Int) :=
  some s5
def laws_toIntS_L1_k (x : ((List Int)) ⊕ ((List Int))) : Option (List Int) := match x with
  | .inl t => laws_toIntS_L1_a t
  | .inr y => some y
def laws_toIntS (a0 : (List Int)) : Option (List Int) :=
  ((mkM 8 (a0.length : Int) : Option (List Int))).bind fun v1 =>
  (loopM (laws_toIntS_L1 a0) big (v1, 0)).bind (laws_toIntS_L1_k)
theorem laws_toIntS_ok (a0 : (List Int)) (r : (List Int)) (hM : laws_toIntS a0 = some r) :
    Con Try.prog 66 [.c (.rs 1 (a0.map encI))] [] (.o (.c (.sl 1000))) [] [(1000, .row 3 1 (r.map encI))] := by
  unfold laws_toIntS at hM
  refine cn (N := 22) (pids := []) Try_mixed Try.func66 (by kernel_rfl) (by kernel_rfl) (by kernel_rfl) rfl fun ρ g w R => ?_
  obtain ⟨v1, h2, hM⟩ := bind_some hM
  have K1 : ∀ (s5 : (List Int)), laws_toIntS_L1_a s5 = some r → Gr R [.code (cAt Try.f66 [1, 1, 1])] (⟨[(3, .o (.c (.sl 0)))], [(0, .row 3 1 (s5.map encI))]⟩) := by
    intro s5 hM
    unfold laws_toIntS_L1_a at hM
    have hE : some s5 = some r := hM
    have hE := Option.some.inj hE
    subst hE
    exact pr R 9999 [] [.sw 0 1000] [] [1000] True.intro (by kernel_rfl)
  refine pc R 9999 [.ln (a0.length), .new 0, .nm (v1.map encI)] [.keep [0, 3, 4] [0]] (k' := [.code (.loop (cAt Try.f66 [1, 1, 0, 1, 0, 0])), .blk 0, .code (cAt Try.f66 [1, 1, 1])]) (S' := laws_toIntS_L1_S a0 (v1, 0)) (And.intro (lenm encI a0) (And.intro (mkM_ok encI h2) True.intro)) (by kernel_rfl) ?_
  refine lq (laws_toIntS_L1_S a0) (body := laws_toIntS_L1 a0) (k := laws_toIntS_L1_k) hM fun m1 s c1 hM hK1 => ?_
  obtain ⟨s3, s4⟩ := s
  have hM : laws_toIntS_L1_b a0 s3 s4 = some c1 := hM
  unfold laws_toIntS_L1_b at hM
  rcases cond_cases hM with ⟨h6, hM⟩ | ⟨h6, hM⟩
  · obtain ⟨v7, h8, hM⟩ := bind_some hM
    obtain ⟨v9, h10, hM⟩ := bind_some hM
    have hE : some (Ctl.next (List.set s3 (Int.toNat s4) v7, w64 (s4 + 1))) = some c1 := hM
    have hE := Option.some.inj hE
    subst hE
    exact pc R 9999 [.ln (a0.length), .as 11 true, .ix (encI v7), .ix (encI v9), .nm ((List.set s3 (Int.toNat s4) v7).map encI)] [.keep [0, 3, 4] [0]] (And.intro (lenm encI a0) (And.intro h6 (And.intro (gi_map encI h8) (And.intro (gi_lt encI h10) (And.intro (And.intro (gi_map encI h10).2 (set_map encI s3 (Int.toNat s4) v7)) True.intro))))) (by kernel_rfl) (li (Sf := laws_toIntS_L1_S a0) (M := Mk (laws_toIntS_L1 a0) (laws_toIntS_L1_k) r) (k := [.blk 0, .code (cAt Try.f66 [1, 1, 1])]) (Nat.lt_succ_self m1) hK1)
  · have hE : some (Ctl.brk s3) = some c1 := hM
    have hE := Option.some.inj hE
    subst hE
    exact pc R 5 [.ln (a0.length), .as 11 false] [.keep [3] [0]] (And.intro (lenm encI a0) (And.intro h6 True.intro)) (by kernel_rfl) (K1 s3 hK1)

-- loop.example/g03014/laws.toNetwork
def laws_toNetwork (a0 : Network) : Option Network :=
  (laws_toLegS a0.Legs).bind fun v1 =>
  (laws_toIntS a0.Off).bind fun v3 =>
  some (Network.mk v1 v3 a0.Change)
theorem laws_toNetwork_ok (a0 : Network) (r : Network) (hM : laws_toNetwork a0 = some r) :
    Con Try.prog 37 [.agg [.rs 6 (a0.Legs.map Leg.enc), .rs 1 (a0.Off.map encI), .v (.int .i64 a0.Change)]] [] (.o (.agg [.sl 1000, .sl 1001, .v (.int .i64 r.Change)])) [] [(1000, .row 89 6 (r.Legs.map Leg.enc)), (1001, .row 3 1 (r.Off.map encI))] := by
  unfold laws_toNetwork at hM
  refine cn (N := 16) (pids := []) Try_mixed Try.func37 (by kernel_rfl) (by kernel_rfl) (by kernel_rfl) rfl fun ρ g w R => ?_
  obtain ⟨v1, h2, hM⟩ := bind_some hM
  obtain ⟨v3, h4, hM⟩ := bind_some hM
  have hE : some (Network.mk v1 v3 a0.Change) = some r := hM
  have hE := Option.some.inj hE
  subst hE
  exact pr R 9999 [.new 0, .new 1, .new 2, .call false [] (.o (.c (.sl 3))) [] [(3, .row 89 6 (v1.map Leg.enc))], .call false [] (.o (.c (.sl 4))) [] [(4, .row 3 1 (v3.map encI))]] [.sw 3 1000, .sw 4 1001] [] [1000, 1001] (And.intro (And.intro (con_sw 1000 3 (laws_toLegS_ok a0.Legs v1 h2)) (rfl : ([] : List Nat) = [])) (And.intro (And.intro (con_sw 1000 4 (laws_toIntS_ok a0.Off v3 h4)) (rfl : ([] : List Nat) = [])) True.intro)) (by kernel_rfl)

-- loop.example/g03014/laws.toTripS
def laws_toTripS_L1_b (a0 : (List Trip)) (s3 : (List Trip)) (s4 : Int) : Option (Ctl ((List Trip) × Int) (List Trip) (List Trip)) :=
  bif (decide (s4 < (a0.length : Int))) then
  (gi a0 s4).bind fun v7 =>
  (laws_toTrip v7).bind fun v9 =>
  (gi s3 s4).bind fun v11 =>
  some (.next (List.set s3 (Int.toNat s4) v9, w64 (s4 + 1)))
  else
  some (.brk s3)
def laws_toTripS_L1 (a0 : (List Trip)) (s : (List Trip) × Int) : Option (Ctl ((List Trip) × Int) (List Trip) (List Trip)) := laws_toTripS_L1_b a0 s.1 s.2
def laws_toTripS_L1_s (a0 : (List Trip)) (s3 : (List Trip)) (s4 : Int) : St := ⟨[(0, .o (.c (.rs 2 (a0.map Trip.enc)))), (3, .o (.c (.sl 0))), (4, .o (.c (.v (.int .i64 s4))))], [(0, .row 31 2 (s3.map Trip.enc))]⟩
def laws_toTripS_L1_S (a0 : (List Trip)) (s : (List Trip) × Int) : St := laws_toTripS_L1_s a0 s.1 s.2
def laws_toTripS_L1_a (s5 : (List Trip)) : Option (List Trip) :=
  some s5
def laws_toTripS_L1_k (x : ((List Trip)) ⊕ ((List Trip))) : Option (List Trip) := match x with
  | .inl t => laws_toTripS_L1_a t
  | .inr y => some y
def laws_toTripS (a0 : (List Trip)) : Option (List Trip) :=
  ((mkM 16 (a0.length : Int) : Option (List Trip))).bind fun v1 =>
  (loopM (laws_toTripS_L1 a0) big (v1, 0)).bind (laws_toTripS_L1_k)
theorem laws_toTripS_ok (a0 : (List Trip)) (r : (List Trip)) (hM : laws_toTripS a0 = some r) :
    Con Try.prog 38 [.c (.rs 2 (a0.map Trip.enc))] [] (.o (.c (.sl 1000))) [] [(1000, .row 31 2 (r.map Trip.enc))] := by
  unfold laws_toTripS at hM
  refine cn (N := 23) (pids := []) Try_mixed Try.func38 (by kernel_rfl) (by kernel_rfl) (by kernel_rfl) rfl fun ρ g w R => ?_
  obtain ⟨v1, h2, hM⟩ := bind_some hM
  have K1 : ∀ (s5 : (List Trip)), laws_toTripS_L1_a s5 = some r → Gr R [.code (cAt Try.f38 [1, 1, 1])] (⟨[(3, .o (.c (.sl 0)))], [(0, .row 31 2 (s5.map Trip.enc))]⟩) := by
    intro s5 hM
    unfold laws_toTripS_L1_a at hM
    have hE : some s5 = some r := hM
    have hE := Option.some.inj hE
    subst hE
    exact pr R 9999 [] [.sw 0 1000] [] [1000] True.intro (by kernel_rfl)
  refine pc R 9999 [.ln (a0.length), .new 0, .nm (v1.map Trip.enc)] [.keep [0, 3, 4] [0]] (k' := [.code (.loop (cAt Try.f38 [1, 1, 0, 1, 0, 0])), .blk 0, .code (cAt Try.f38 [1, 1, 1])]) (S' := laws_toTripS_L1_S a0 (v1, 0)) (And.intro (lenm Trip.enc a0) (And.intro (mkM_ok Trip.enc h2) True.intro)) (by kernel_rfl) ?_
  refine lq (laws_toTripS_L1_S a0) (body := laws_toTripS_L1 a0) (k := laws_toTripS_L1_k) hM fun m1 s c1 hM hK1 => ?_
  obtain ⟨s3, s4⟩ := s
  have hM : laws_toTripS_L1_b a0 s3 s4 = some c1 := hM
  unfold laws_toTripS_L1_b at hM
  rcases cond_cases hM with ⟨h6, hM⟩ | ⟨h6, hM⟩
  · obtain ⟨v7, h8, hM⟩ := bind_some hM
    obtain ⟨v9, h10, hM⟩ := bind_some hM
    obtain ⟨v11, h12, hM⟩ := bind_some hM
    have hE : some (Ctl.next (List.set s3 (Int.toNat s4) v9, w64 (s4 + 1))) = some c1 := hM
    have hE := Option.some.inj hE
    subst hE
    exact pc R 9999 [.ln (a0.length), .as 11 true, .ix (Trip.enc v7), .call false [] (.o (.c (.v (.agg (Trip.enc v9).toArray)))) [] [], .ix (Trip.enc v11), .nm ((List.set s3 (Int.toNat s4) v9).map Trip.enc)] [.keep [0, 3, 4] [0]] (And.intro (lenm Trip.enc a0) (And.intro h6 (And.intro (gi_map Trip.enc h8) (And.intro (laws_toTrip_ok v7 v9 h10) (And.intro (gi_lt Trip.enc h12) (And.intro (And.intro (gi_map Trip.enc h12).2 (set_map Trip.enc s3 (Int.toNat s4) v9)) True.intro)))))) (by kernel_rfl) (li (Sf := laws_toTripS_L1_S a0) (M := Mk (laws_toTripS_L1 a0) (laws_toTripS_L1_k) r) (k := [.blk 0, .code (cAt Try.f38 [1, 1, 1])]) (Nat.lt_succ_self m1) hK1)
  · have hE : some (Ctl.brk s3) = some c1 := hM
    have hE := Option.some.inj hE
    subst hE
    exact pc R 5 [.ln (a0.length), .as 11 false] [.keep [3] [0]] (And.intro (lenm Trip.enc a0) (And.intro h6 True.intro)) (by kernel_rfl) (K1 s3 hK1)

-- loop.example/g03014/spec.l1In
def spec_l1In (a0 : Int) (a1 : Int) (a2 : Int) : Option Bool :=
  bif (decide (a0 ≥ a1)) then
  some (decide (a0 ≤ a2))
  else
  some false
theorem spec_l1In_ok (a0 : Int) (a1 : Int) (a2 : Int) (r : Bool) (hM : spec_l1In a0 a1 a2 = some r) :
    Con Try.prog 74 [.c (.v (.int .i64 a0)), .c (.v (.int .i64 a1)), .c (.v (.int .i64 a2))] [] (.o (.c (.v (.bool r)))) [] [] := by
  unfold spec_l1In at hM
  refine cn (N := 15) (pids := []) Try_mixed Try.func74 (by kernel_rfl) (by kernel_rfl) (by kernel_rfl) rfl fun ρ g w R => ?_
  rcases cond_cases hM with ⟨h1, hM⟩ | ⟨h1, hM⟩
  · have hE : some (decide (a0 ≤ a2)) = some r := hM
    have hE := Option.some.inj hE
    subst hE
    exact pr R 9999 [.as 10 true] [] [] [] (And.intro h1 True.intro) (by kernel_rfl)
  · have hE : some false = some r := hM
    have hE := Option.some.inj hE
    subst hE
    exact pr R 9999 [.as 10 false] [] [] [] (And.intro h1 True.intro) (by kernel_rfl)

-- loop.example/g03014/spec.IsPlace
def spec_IsPlace_L1_b (a0 : ByteArray) (s2 : Int) : Option (Ctl Int Unit Bool) :=
  bif (decide (s2 < 3)) then
  (siM a0 s2).bind fun v4 =>
  (spec_l1In (w64 v4) 65 90).bind fun v6 =>
  bif (!v6) then
  some (.ret false)
  else
  some (.next (w64 (s2 + 1)))
  else
  some (.brk ())
def spec_IsPlace_L1 (a0 : ByteArray) (s : Int) : Option (Ctl Int Unit Bool) := spec_IsPlace_L1_b a0 s
def spec_IsPlace_L1_s (a0 : ByteArray) (s2 : Int) : St := ⟨[(0, .o (.c (.v (.string a0)))), (3, .o (.c (.v (.int .i64 s2))))], []⟩
def spec_IsPlace_L1_S (a0 : ByteArray) (s : Int) : St := spec_IsPlace_L1_s a0 s
def spec_IsPlace_L1_a : Option Bool :=
  some true
def spec_IsPlace_L1_k (x : (Unit) ⊕ (Bool)) : Option Bool := match x with
  | .inl t => spec_IsPlace_L1_a
  | .inr y => some y
def spec_IsPlace (a0 : ByteArray) : Option Bool :=
  bif ((a0.size : Int) != 3) then
  some false
  else
  (loopM (spec_IsPlace_L1 a0) big 0).bind (spec_IsPlace_L1_k)
theorem spec_IsPlace_ok (a0 : ByteArray) (r : Bool) (hM : spec_IsPlace a0 = some r) :
    Con Try.prog 97 [.c (.v (.string a0))] [] (.o (.c (.v (.bool r)))) [] [] := by
  unfold spec_IsPlace at hM
  refine cn (N := 17) (pids := []) Try_mixed Try.func97 (by kernel_rfl) (by kernel_rfl) (by kernel_rfl) rfl fun ρ g w R => ?_
  rcases cond_cases hM with ⟨h1, hM⟩ | ⟨h1, hM⟩
  · have hE : some false = some r := hM
    have hE := Option.some.inj hE
    subst hE
    exact pr R 9999 [.as 6 true] [] [] [] (And.intro h1 True.intro) (by kernel_rfl)
  · have K1 : ∀ (_ : Unit), spec_IsPlace_L1_a = some r → Gr R [.code (cAt Try.f97 [1, 1, 1])] (⟨[], []⟩) := by
      intro _ hM
      unfold spec_IsPlace_L1_a at hM
      have hE : some true = some r := hM
      have hE := Option.some.inj hE
      subst hE
      exact pr R 9999 [] [] [] [] True.intro (by kernel_rfl)
    refine pc R 9999 [.as 6 false] [.keep [0, 3] []] (k' := [.code (.loop (cAt Try.f97 [1, 1, 0, 1, 0, 0])), .blk 0, .code (cAt Try.f97 [1, 1, 1])]) (S' := spec_IsPlace_L1_S a0 0) (And.intro h1 True.intro) (by kernel_rfl) ?_
    refine lq (spec_IsPlace_L1_S a0) (body := spec_IsPlace_L1 a0) (k := spec_IsPlace_L1_k) hM fun m1 s c1 hM hK1 => ?_
    obtain ⟨s2, hs⟩ : ∃ z, z = s := ⟨_, rfl⟩
    subst hs
    have hM : spec_IsPlace_L1_b a0 s2 = some c1 := hM
    unfold spec_IsPlace_L1_b at hM
    rcases cond_cases hM with ⟨h3, hM⟩ | ⟨h3, hM⟩
    · obtain ⟨v4, h5, hM⟩ := bind_some hM
      obtain ⟨v6, h7, hM⟩ := bind_some hM
      rcases cond_cases hM with ⟨h8, hM⟩ | ⟨h8, hM⟩
      · have hE : some (Ctl.ret false) = some c1 := hM
        have hE := Option.some.inj hE
        subst hE
        have hE : some false = some r := hK1
        have hE := Option.some.inj hE
        subst hE
        exact pr R 9999 [.as 8 true, .ix [.int .u8 v4], .call false [] (.o (.c (.v (.bool v6)))) [] [], .as 16 true] [] [] [] (And.intro h3 (And.intro (siM_ok h5) (And.intro (spec_l1In_ok (w64 v4) 65 90 v6 h7) (And.intro h8 True.intro)))) (by kernel_rfl)
      · have hE : some (Ctl.next (w64 (s2 + 1))) = some c1 := hM
        have hE := Option.some.inj hE
        subst hE
        exact pc R 9999 [.as 8 true, .ix [.int .u8 v4], .call false [] (.o (.c (.v (.bool v6)))) [] [], .as 16 false] [.keep [0, 3] []] (And.intro h3 (And.intro (siM_ok h5) (And.intro (spec_l1In_ok (w64 v4) 65 90 v6 h7) (And.intro h8 True.intro)))) (by kernel_rfl) (li (Sf := spec_IsPlace_L1_S a0) (M := Mk (spec_IsPlace_L1 a0) (spec_IsPlace_L1_k) r) (k := [.blk 0, .code (cAt Try.f97 [1, 1, 1])]) (Nat.lt_succ_self m1) hK1)
    · have hE : some (Ctl.brk ()) = some c1 := hM
      have hE := Option.some.inj hE
      subst hE
      exact pc R 5 [.as 8 false] [.keep [] []] (And.intro h3 True.intro) (by kernel_rfl) (K1 () hK1)

-- loop.example/g03014/spec.IsLeg
def spec_IsLeg (a0 : Leg) : Option Bool :=
  (spec_IsPlace a0.From).bind fun v1 =>
  bif v1 then
  (spec_IsPlace a0.To).bind fun v4 =>
  bif v4 then
  bif (!(a0.From.toList == a0.To.toList)) then
  (spec_l1In a0.Start 0 1439).bind fun v8 =>
  bif v8 then
  (spec_l1In a0.Takes 1 4320).bind fun v11 =>
  bif v11 then
  (spec_l1In a0.Days 1 127).bind fun v14 =>
  bif v14 then
  (spec_l1In a0.Room 0 1000000).bind fun v17 =>
  some v17
  else
  some false
  else
  some false
  else
  some false
  else
  some false
  else
  some false
  else
  some false
theorem spec_IsLeg_ok (a0 : Leg) (r : Bool) (hM : spec_IsLeg a0 = some r) :
    Con Try.prog 83 [.c (.v (.agg (Leg.enc a0).toArray))] [] (.o (.c (.v (.bool r)))) [] [] := by
  unfold spec_IsLeg at hM
  refine cn (N := 38) (pids := []) Try_mixed Try.func83 (by kernel_rfl) (by kernel_rfl) (by kernel_rfl) rfl fun ρ g w R => ?_
  obtain ⟨v1, h2, hM⟩ := bind_some hM
  rcases cond_cases hM with ⟨h3, hM⟩ | ⟨h3, hM⟩
  · obtain ⟨v4, h5, hM⟩ := bind_some hM
    rcases cond_cases hM with ⟨h6, hM⟩ | ⟨h6, hM⟩
    · rcases cond_cases hM with ⟨h7, hM⟩ | ⟨h7, hM⟩
      · obtain ⟨v8, h9, hM⟩ := bind_some hM
        rcases cond_cases hM with ⟨h10, hM⟩ | ⟨h10, hM⟩
        · obtain ⟨v11, h12, hM⟩ := bind_some hM
          rcases cond_cases hM with ⟨h13, hM⟩ | ⟨h13, hM⟩
          · obtain ⟨v14, h15, hM⟩ := bind_some hM
            rcases cond_cases hM with ⟨h16, hM⟩ | ⟨h16, hM⟩
            · obtain ⟨v17, h18, hM⟩ := bind_some hM
              have hE : some v17 = some r := hM
              have hE := Option.some.inj hE
              subst hE
              exact pr R 9999 [.new 0, .call false [] (.o (.c (.v (.bool v1)))) [] [], .as 6 true, .call false [] (.o (.c (.v (.bool v4)))) [] [], .as 11 true, .as 18 true, .call false [] (.o (.c (.v (.bool v8)))) [] [], .as 23 true, .call false [] (.o (.c (.v (.bool v11)))) [] [], .as 28 true, .call false [] (.o (.c (.v (.bool v14)))) [] [], .as 33 true, .call false [] (.o (.c (.v (.bool v17)))) [] []] [] [] [] (And.intro (spec_IsPlace_ok a0.From v1 h2) (And.intro h3 (And.intro (spec_IsPlace_ok a0.To v4 h5) (And.intro h6 (And.intro h7 (And.intro (spec_l1In_ok a0.Start 0 1439 v8 h9) (And.intro h10 (And.intro (spec_l1In_ok a0.Takes 1 4320 v11 h12) (And.intro h13 (And.intro (spec_l1In_ok a0.Days 1 127 v14 h15) (And.intro h16 (And.intro (spec_l1In_ok a0.Room 0 1000000 v17 h18) True.intro)))))))))))) (by kernel_rfl)
            · have hE : some false = some r := hM
              have hE := Option.some.inj hE
              subst hE
              exact pr R 9999 [.new 0, .call false [] (.o (.c (.v (.bool v1)))) [] [], .as 6 true, .call false [] (.o (.c (.v (.bool v4)))) [] [], .as 11 true, .as 18 true, .call false [] (.o (.c (.v (.bool v8)))) [] [], .as 23 true, .call false [] (.o (.c (.v (.bool v11)))) [] [], .as 28 true, .call false [] (.o (.c (.v (.bool v14)))) [] [], .as 33 false] [] [] [] (And.intro (spec_IsPlace_ok a0.From v1 h2) (And.intro h3 (And.intro (spec_IsPlace_ok a0.To v4 h5) (And.intro h6 (And.intro h7 (And.intro (spec_l1In_ok a0.Start 0 1439 v8 h9) (And.intro h10 (And.intro (spec_l1In_ok a0.Takes 1 4320 v11 h12) (And.intro h13 (And.intro (spec_l1In_ok a0.Days 1 127 v14 h15) (And.intro h16 True.intro))))))))))) (by kernel_rfl)
          · have hE : some false = some r := hM
            have hE := Option.some.inj hE
            subst hE
            exact pr R 9999 [.new 0, .call false [] (.o (.c (.v (.bool v1)))) [] [], .as 6 true, .call false [] (.o (.c (.v (.bool v4)))) [] [], .as 11 true, .as 18 true, .call false [] (.o (.c (.v (.bool v8)))) [] [], .as 23 true, .call false [] (.o (.c (.v (.bool v11)))) [] [], .as 28 false] [] [] [] (And.intro (spec_IsPlace_ok a0.From v1 h2) (And.intro h3 (And.intro (spec_IsPlace_ok a0.To v4 h5) (And.intro h6 (And.intro h7 (And.intro (spec_l1In_ok a0.Start 0 1439 v8 h9) (And.intro h10 (And.intro (spec_l1In_ok a0.Takes 1 4320 v11 h12) (And.intro h13 True.intro))))))))) (by kernel_rfl)
        · have hE : some false = some r := hM
          have hE := Option.some.inj hE
          subst hE
          exact pr R 9999 [.new 0, .call false [] (.o (.c (.v (.bool v1)))) [] [], .as 6 true, .call false [] (.o (.c (.v (.bool v4)))) [] [], .as 11 true, .as 18 true, .call false [] (.o (.c (.v (.bool v8)))) [] [], .as 23 false] [] [] [] (And.intro (spec_IsPlace_ok a0.From v1 h2) (And.intro h3 (And.intro (spec_IsPlace_ok a0.To v4 h5) (And.intro h6 (And.intro h7 (And.intro (spec_l1In_ok a0.Start 0 1439 v8 h9) (And.intro h10 True.intro))))))) (by kernel_rfl)
      · have hE : some false = some r := hM
        have hE := Option.some.inj hE
        subst hE
        exact pr R 9999 [.new 0, .call false [] (.o (.c (.v (.bool v1)))) [] [], .as 6 true, .call false [] (.o (.c (.v (.bool v4)))) [] [], .as 11 true, .as 18 false] [] [] [] (And.intro (spec_IsPlace_ok a0.From v1 h2) (And.intro h3 (And.intro (spec_IsPlace_ok a0.To v4 h5) (And.intro h6 (And.intro h7 True.intro))))) (by kernel_rfl)
    · have hE : some false = some r := hM
      have hE := Option.some.inj hE
      subst hE
      exact pr R 9999 [.new 0, .call false [] (.o (.c (.v (.bool v1)))) [] [], .as 6 true, .call false [] (.o (.c (.v (.bool v4)))) [] [], .as 11 false] [] [] [] (And.intro (spec_IsPlace_ok a0.From v1 h2) (And.intro h3 (And.intro (spec_IsPlace_ok a0.To v4 h5) (And.intro h6 True.intro)))) (by kernel_rfl)
  · have hE : some false = some r := hM
    have hE := Option.some.inj hE
    subst hE
    exact pr R 9999 [.new 0, .call false [] (.o (.c (.v (.bool v1)))) [] [], .as 6 false] [] [] [] (And.intro (spec_IsPlace_ok a0.From v1 h2) (And.intro h3 True.intro)) (by kernel_rfl)

-- loop.example/g03014/spec.IsNetwork
def spec_IsNetwork_L2_b (a0 : Network) (s2 : Int) : Option (Ctl Int Unit Bool) :=
  bif (decide (s2 < (a0.Off.length : Int))) then
  (gi a0.Off s2).bind fun v8 =>
  (spec_l1In v8 0 60).bind fun v10 =>
  bif (!v10) then
  some (.ret false)
  else
  bif (decide (s2 > 0)) then
  (gi a0.Off (w64 (s2 - 1))).bind fun v14 =>
  (gi a0.Off s2).bind fun v16 =>
  bif (decide (v14 ≥ v16)) then
  some (.ret false)
  else
  some (.next (w64 (s2 + 1)))
  else
  some (.next (w64 (s2 + 1)))
  else
  some (.brk ())
def spec_IsNetwork_L2 (a0 : Network) (s : Int) : Option (Ctl Int Unit Bool) := spec_IsNetwork_L2_b a0 s
def spec_IsNetwork_L2_s (a0 : Network) (s2 : Int) : St := ⟨[(1, .o (.c (.ptr 0 0))), (4, .o (.c (.v (.int .i64 s2))))], [(0, .box 54 [.rs 6 (a0.Legs.map Leg.enc), .rs 1 (a0.Off.map encI), .v (.int .i64 a0.Change)])]⟩
def spec_IsNetwork_L2_S (a0 : Network) (s : Int) : St := spec_IsNetwork_L2_s a0 s
def spec_IsNetwork_L2_a (a0 : Network) : Option Bool :=
  bif (decide ((a0.Legs.length : Int) ≤ 20)) then
  bif (decide ((a0.Off.length : Int) ≤ 10)) then
  (spec_l1In a0.Change 0 240).bind fun v5 =>
  some v5
  else
  some false
  else
  some false
def spec_IsNetwork_L2_k (a0 : Network) (x : (Unit) ⊕ (Bool)) : Option Bool := match x with
  | .inl t => spec_IsNetwork_L2_a a0
  | .inr y => some y
def spec_IsNetwork_L1_b (a0 : Network) (s1 : Int) : Option (Ctl Int Unit Bool) :=
  bif (decide (s1 < (a0.Legs.length : Int))) then
  (gi a0.Legs s1).bind fun v20 =>
  (spec_IsLeg v20).bind fun v22 =>
  bif (!v22) then
  some (.ret false)
  else
  some (.next (w64 (s1 + 1)))
  else
  some (.brk ())
def spec_IsNetwork_L1 (a0 : Network) (s : Int) : Option (Ctl Int Unit Bool) := spec_IsNetwork_L1_b a0 s
def spec_IsNetwork_L1_s (a0 : Network) (s1 : Int) : St := ⟨[(1, .o (.c (.ptr 0 0))), (3, .o (.c (.v (.int .i64 s1))))], [(0, .box 54 [.rs 6 (a0.Legs.map Leg.enc), .rs 1 (a0.Off.map encI), .v (.int .i64 a0.Change)])]⟩
def spec_IsNetwork_L1_S (a0 : Network) (s : Int) : St := spec_IsNetwork_L1_s a0 s
def spec_IsNetwork_L1_a (a0 : Network) : Option Bool :=
  (loopM (spec_IsNetwork_L2 a0) big 0).bind (spec_IsNetwork_L2_k a0)
def spec_IsNetwork_L1_k (a0 : Network) (x : (Unit) ⊕ (Bool)) : Option Bool := match x with
  | .inl t => spec_IsNetwork_L1_a a0
  | .inr y => some y
def spec_IsNetwork (a0 : Network) : Option Bool :=
  (loopM (spec_IsNetwork_L1 a0) big 0).bind (spec_IsNetwork_L1_k a0)
theorem spec_IsNetwork_ok (a0 : Network) (r : Bool) (hM : spec_IsNetwork a0 = some r) :
    Con Try.prog 62 [.agg [.rs 6 (a0.Legs.map Leg.enc), .rs 1 (a0.Off.map encI), .v (.int .i64 a0.Change)]] [] (.o (.c (.v (.bool r)))) [] [] := by
  unfold spec_IsNetwork at hM
  refine cn (N := 66) (pids := []) Try_mixed Try.func62 (by kernel_rfl) (by kernel_rfl) (by kernel_rfl) rfl fun ρ g w R => ?_
  have K1 : ∀ (_ : Unit), spec_IsNetwork_L1_a a0 = some r → Gr R [.code (cAt Try.f62 [1, 1])] (⟨[(1, .o (.c (.ptr 0 0)))], [(0, .box 54 [.rs 6 (a0.Legs.map Leg.enc), .rs 1 (a0.Off.map encI), .v (.int .i64 a0.Change)])]⟩) := by
    intro _ hM
    unfold spec_IsNetwork_L1_a at hM
    have K2 : ∀ (_ : Unit), spec_IsNetwork_L2_a a0 = some r → Gr R [.code (cAt Try.f62 [1, 1, 1])] (⟨[(1, .o (.c (.ptr 0 0)))], [(0, .box 54 [.rs 6 (a0.Legs.map Leg.enc), .rs 1 (a0.Off.map encI), .v (.int .i64 a0.Change)])]⟩) := by
      intro _ hM
      unfold spec_IsNetwork_L2_a at hM
      rcases cond_cases hM with ⟨h3, hM⟩ | ⟨h3, hM⟩
      · rcases cond_cases hM with ⟨h4, hM⟩ | ⟨h4, hM⟩
        · obtain ⟨v5, h6, hM⟩ := bind_some hM
          have hE : some v5 = some r := hM
          have hE := Option.some.inj hE
          subst hE
          exact pr R 9999 [.ln (a0.Legs.length), .as 55 true, .ln (a0.Off.length), .as 61 true, .call false [] (.o (.c (.v (.bool v5)))) [] []] [] [] [] (And.intro (lenm Leg.enc a0.Legs) (And.intro h3 (And.intro (lenm encI a0.Off) (And.intro h4 (And.intro (spec_l1In_ok a0.Change 0 240 v5 h6) True.intro))))) (by kernel_rfl)
        · have hE : some false = some r := hM
          have hE := Option.some.inj hE
          subst hE
          exact pr R 9999 [.ln (a0.Legs.length), .as 55 true, .ln (a0.Off.length), .as 61 false] [] [] [] (And.intro (lenm Leg.enc a0.Legs) (And.intro h3 (And.intro (lenm encI a0.Off) (And.intro h4 True.intro)))) (by kernel_rfl)
      · have hE : some false = some r := hM
        have hE := Option.some.inj hE
        subst hE
        exact pr R 9999 [.ln (a0.Legs.length), .as 55 false] [] [] [] (And.intro (lenm Leg.enc a0.Legs) (And.intro h3 True.intro)) (by kernel_rfl)
    refine pc R 9999 [] [.keep [1, 4] [0]] (k' := [.code (.loop (cAt Try.f62 [1, 1, 0, 1, 0, 0])), .blk 2, .code (cAt Try.f62 [1, 1, 1])]) (S' := spec_IsNetwork_L2_S a0 0) True.intro (by kernel_rfl) ?_
    refine lq (spec_IsNetwork_L2_S a0) (body := spec_IsNetwork_L2 a0) (k := spec_IsNetwork_L2_k a0) hM fun m2 s c2 hM hK2 => ?_
    obtain ⟨s2, hs⟩ : ∃ z, z = s := ⟨_, rfl⟩
    subst hs
    have hM : spec_IsNetwork_L2_b a0 s2 = some c2 := hM
    unfold spec_IsNetwork_L2_b at hM
    rcases cond_cases hM with ⟨h7, hM⟩ | ⟨h7, hM⟩
    · obtain ⟨v8, h9, hM⟩ := bind_some hM
      obtain ⟨v10, h11, hM⟩ := bind_some hM
      rcases cond_cases hM with ⟨h12, hM⟩ | ⟨h12, hM⟩
      · have hE : some (Ctl.ret false) = some c2 := hM
        have hE := Option.some.inj hE
        subst hE
        have hE : some false = some r := hK2
        have hE := Option.some.inj hE
        subst hE
        exact pr R 9999 [.ln (a0.Off.length), .as 23 true, .ix (encI v8), .call false [] (.o (.c (.v (.bool v10)))) [] [], .as 33 true] [] [] [] (And.intro (lenm encI a0.Off) (And.intro h7 (And.intro (gi_map encI h9) (And.intro (spec_l1In_ok v8 0 60 v10 h11) (And.intro h12 True.intro))))) (by kernel_rfl)
      · rcases cond_cases hM with ⟨h13, hM⟩ | ⟨h13, hM⟩
        · obtain ⟨v14, h15, hM⟩ := bind_some hM
          obtain ⟨v16, h17, hM⟩ := bind_some hM
          rcases cond_cases hM with ⟨h18, hM⟩ | ⟨h18, hM⟩
          · have hE : some (Ctl.ret false) = some c2 := hM
            have hE := Option.some.inj hE
            subst hE
            have hE : some false = some r := hK2
            have hE := Option.some.inj hE
            subst hE
            exact pr R 9999 [.ln (a0.Off.length), .as 23 true, .ix (encI v8), .call false [] (.o (.c (.v (.bool v10)))) [] [], .as 33 false, .as 36 true, .ix (encI v14), .ix (encI v16), .as 50 true] [] [] [] (And.intro (lenm encI a0.Off) (And.intro h7 (And.intro (gi_map encI h9) (And.intro (spec_l1In_ok v8 0 60 v10 h11) (And.intro h12 (And.intro h13 (And.intro (gi_map encI h15) (And.intro (gi_map encI h17) (And.intro h18 True.intro))))))))) (by kernel_rfl)
          · have hE : some (Ctl.next (w64 (s2 + 1))) = some c2 := hM
            have hE := Option.some.inj hE
            subst hE
            exact pc R 9999 [.ln (a0.Off.length), .as 23 true, .ix (encI v8), .call false [] (.o (.c (.v (.bool v10)))) [] [], .as 33 false, .as 36 true, .ix (encI v14), .ix (encI v16), .as 50 false] [.keep [1, 4] [0]] (And.intro (lenm encI a0.Off) (And.intro h7 (And.intro (gi_map encI h9) (And.intro (spec_l1In_ok v8 0 60 v10 h11) (And.intro h12 (And.intro h13 (And.intro (gi_map encI h15) (And.intro (gi_map encI h17) (And.intro h18 True.intro))))))))) (by kernel_rfl) (li (Sf := spec_IsNetwork_L2_S a0) (M := Mk (spec_IsNetwork_L2 a0) (spec_IsNetwork_L2_k a0) r) (k := [.blk 2, .code (cAt Try.f62 [1, 1, 1])]) (Nat.lt_succ_self m2) hK2)
        · have hE : some (Ctl.next (w64 (s2 + 1))) = some c2 := hM
          have hE := Option.some.inj hE
          subst hE
          exact pc R 9999 [.ln (a0.Off.length), .as 23 true, .ix (encI v8), .call false [] (.o (.c (.v (.bool v10)))) [] [], .as 33 false, .as 36 false] [.keep [1, 4] [0]] (And.intro (lenm encI a0.Off) (And.intro h7 (And.intro (gi_map encI h9) (And.intro (spec_l1In_ok v8 0 60 v10 h11) (And.intro h12 (And.intro h13 True.intro)))))) (by kernel_rfl) (li (Sf := spec_IsNetwork_L2_S a0) (M := Mk (spec_IsNetwork_L2 a0) (spec_IsNetwork_L2_k a0) r) (k := [.blk 2, .code (cAt Try.f62 [1, 1, 1])]) (Nat.lt_succ_self m2) hK2)
    · have hE : some (Ctl.brk ()) = some c2 := hM
      have hE := Option.some.inj hE
      subst hE
      exact pc R 5 [.ln (a0.Off.length), .as 23 false] [.keep [1] [0]] (And.intro (lenm encI a0.Off) (And.intro h7 True.intro)) (by kernel_rfl) (K2 () hK2)
  refine pc R 9999 [.new 0] [.keep [1, 3] [0]] (k' := [.code (.loop (cAt Try.f62 [1, 0, 1, 0, 0])), .blk 0, .code (cAt Try.f62 [1, 1])]) (S' := spec_IsNetwork_L1_S a0 0) True.intro (by kernel_rfl) ?_
  refine lq (spec_IsNetwork_L1_S a0) (body := spec_IsNetwork_L1 a0) (k := spec_IsNetwork_L1_k a0) hM fun m1 s c1 hM hK1 => ?_
  obtain ⟨s1, hs⟩ : ∃ z, z = s := ⟨_, rfl⟩
  subst hs
  have hM : spec_IsNetwork_L1_b a0 s1 = some c1 := hM
  unfold spec_IsNetwork_L1_b at hM
  rcases cond_cases hM with ⟨h19, hM⟩ | ⟨h19, hM⟩
  · obtain ⟨v20, h21, hM⟩ := bind_some hM
    obtain ⟨v22, h23, hM⟩ := bind_some hM
    rcases cond_cases hM with ⟨h24, hM⟩ | ⟨h24, hM⟩
    · have hE : some (Ctl.ret false) = some c1 := hM
      have hE := Option.some.inj hE
      subst hE
      have hE : some false = some r := hK1
      have hE := Option.some.inj hE
      subst hE
      exact pr R 9999 [.ln (a0.Legs.length), .as 9 true, .ix (Leg.enc v20), .call false [] (.o (.c (.v (.bool v22)))) [] [], .as 18 true] [] [] [] (And.intro (lenm Leg.enc a0.Legs) (And.intro h19 (And.intro (gi_map Leg.enc h21) (And.intro (spec_IsLeg_ok v20 v22 h23) (And.intro h24 True.intro))))) (by kernel_rfl)
    · have hE : some (Ctl.next (w64 (s1 + 1))) = some c1 := hM
      have hE := Option.some.inj hE
      subst hE
      exact pc R 9999 [.ln (a0.Legs.length), .as 9 true, .ix (Leg.enc v20), .call false [] (.o (.c (.v (.bool v22)))) [] [], .as 18 false] [.keep [1, 3] [0]] (And.intro (lenm Leg.enc a0.Legs) (And.intro h19 (And.intro (gi_map Leg.enc h21) (And.intro (spec_IsLeg_ok v20 v22 h23) (And.intro h24 True.intro))))) (by kernel_rfl) (li (Sf := spec_IsNetwork_L1_S a0) (M := Mk (spec_IsNetwork_L1 a0) (spec_IsNetwork_L1_k a0) r) (k := [.blk 0, .code (cAt Try.f62 [1, 1])]) (Nat.lt_succ_self m1) hK1)
  · have hE : some (Ctl.brk ()) = some c1 := hM
    have hE := Option.some.inj hE
    subst hE
    exact pc R 5 [.ln (a0.Legs.length), .as 9 false] [.keep [1] [0]] (And.intro (lenm Leg.enc a0.Legs) (And.intro h19 True.intro)) (by kernel_rfl) (K1 () hK1)

-- loop.example/g03014/spec.l1Has
def spec_l1Has_L1_b (a0 : (List Int)) (a1 : Int) (s1 : Int) : Option (Ctl Int Unit Bool) :=
  bif (decide (s1 < (a0.length : Int))) then
  (gi a0 s1).bind fun v3 =>
  bif (v3 == a1) then
  some (.ret true)
  else
  some (.next (w64 (s1 + 1)))
  else
  some (.brk ())
def spec_l1Has_L1 (a0 : (List Int)) (a1 : Int) (s : Int) : Option (Ctl Int Unit Bool) := spec_l1Has_L1_b a0 a1 s
def spec_l1Has_L1_s (a0 : (List Int)) (a1 : Int) (s1 : Int) : St := ⟨[(0, .o (.c (.rs 1 (a0.map encI)))), (1, .o (.c (.v (.int .i64 a1)))), (5, .o (.c (.v (.int .i64 s1))))], []⟩
def spec_l1Has_L1_S (a0 : (List Int)) (a1 : Int) (s : Int) : St := spec_l1Has_L1_s a0 a1 s
def spec_l1Has_L1_a : Option Bool :=
  some false
def spec_l1Has_L1_k (x : (Unit) ⊕ (Bool)) : Option Bool := match x with
  | .inl t => spec_l1Has_L1_a
  | .inr y => some y
def spec_l1Has (a0 : (List Int)) (a1 : Int) : Option Bool :=
  (loopM (spec_l1Has_L1 a0 a1) big 0).bind (spec_l1Has_L1_k)
theorem spec_l1Has_ok (a0 : (List Int)) (a1 : Int) (r : Bool) (hM : spec_l1Has a0 a1 = some r) :
    Con Try.prog 89 [.c (.rs 1 (a0.map encI)), .c (.v (.int .i64 a1))] [] (.o (.c (.v (.bool r)))) [] [] := by
  unfold spec_l1Has at hM
  refine cn (N := 18) (pids := []) Try_mixed Try.func89 (by kernel_rfl) (by kernel_rfl) (by kernel_rfl) rfl fun ρ g w R => ?_
  have K1 : ∀ (_ : Unit), spec_l1Has_L1_a = some r → Gr R [.code (cAt Try.f89 [1, 1])] (⟨[], []⟩) := by
    intro _ hM
    unfold spec_l1Has_L1_a at hM
    have hE : some false = some r := hM
    have hE := Option.some.inj hE
    subst hE
    exact pr R 9999 [] [] [] [] True.intro (by kernel_rfl)
  refine pc R 9999 [] [.keep [0, 1, 5] []] (k' := [.code (.loop (cAt Try.f89 [1, 0, 1, 0, 0])), .blk 0, .code (cAt Try.f89 [1, 1])]) (S' := spec_l1Has_L1_S a0 a1 0) True.intro (by kernel_rfl) ?_
  refine lq (spec_l1Has_L1_S a0 a1) (body := spec_l1Has_L1 a0 a1) (k := spec_l1Has_L1_k) hM fun m1 s c1 hM hK1 => ?_
  obtain ⟨s1, hs⟩ : ∃ z, z = s := ⟨_, rfl⟩
  subst hs
  have hM : spec_l1Has_L1_b a0 a1 s1 = some c1 := hM
  unfold spec_l1Has_L1_b at hM
  rcases cond_cases hM with ⟨h2, hM⟩ | ⟨h2, hM⟩
  · obtain ⟨v3, h4, hM⟩ := bind_some hM
    rcases cond_cases hM with ⟨h5, hM⟩ | ⟨h5, hM⟩
    · have hE : some (Ctl.ret true) = some c1 := hM
      have hE := Option.some.inj hE
      subst hE
      have hE : some true = some r := hK1
      have hE := Option.some.inj hE
      subst hE
      exact pr R 9999 [.ln (a0.length), .as 9 true, .ix (encI v3), .as 17 true] [] [] [] (And.intro (lenm encI a0) (And.intro h2 (And.intro (gi_map encI h4) (And.intro h5 True.intro)))) (by kernel_rfl)
    · have hE : some (Ctl.next (w64 (s1 + 1))) = some c1 := hM
      have hE := Option.some.inj hE
      subst hE
      exact pc R 9999 [.ln (a0.length), .as 9 true, .ix (encI v3), .as 17 false] [.keep [0, 1, 5] []] (And.intro (lenm encI a0) (And.intro h2 (And.intro (gi_map encI h4) (And.intro h5 True.intro)))) (by kernel_rfl) (li (Sf := spec_l1Has_L1_S a0 a1) (M := Mk (spec_l1Has_L1 a0 a1) (spec_l1Has_L1_k) r) (k := [.blk 0, .code (cAt Try.f89 [1, 1])]) (Nat.lt_succ_self m1) hK1)
  · have hE : some (Ctl.brk ()) = some c1 := hM
    have hE := Option.some.inj hE
    subst hE
    exact pc R 5 [.ln (a0.length), .as 9 false] [.keep [] []] (And.intro (lenm encI a0) (And.intro h2 True.intro)) (by kernel_rfl) (K1 () hK1)

-- loop.example/g03014/spec.l3Runs
def spec_l3Runs (a0 : Network) (a1 : Int) (a2 : Int) : Option Bool :=
  (spec_l1In a1 0 (w64 ((a0.Legs.length : Int) - 1))).bind fun v1 =>
  bif v1 then
  (spec_l1In a2 0 60).bind fun v4 =>
  bif v4 then
  (gi a0.Legs a1).bind fun v7 =>
  (shrM v7.Days (Int.tmod a2 7)).bind fun v9 =>
  bif ((w64 ((BitVec.ofInt 64 v9 &&& BitVec.ofInt 64 1).toNat)) == 1) then
  (spec_l1Has a0.Off a2).bind fun v12 =>
  some (!v12)
  else
  some false
  else
  some false
  else
  some false
theorem spec_l3Runs_ok (a0 : Network) (a1 : Int) (a2 : Int) (r : Bool) (hM : spec_l3Runs a0 a1 a2 = some r) :
    Con Try.prog 73 [.agg [.rs 6 (a0.Legs.map Leg.enc), .rs 1 (a0.Off.map encI), .v (.int .i64 a0.Change)], .c (.v (.int .i64 a1)), .c (.v (.int .i64 a2))] [] (.o (.c (.v (.bool r)))) [] [] := by
  unfold spec_l3Runs at hM
  refine cn (N := 37) (pids := []) Try_mixed Try.func73 (by kernel_rfl) (by kernel_rfl) (by kernel_rfl) rfl fun ρ g w R => ?_
  obtain ⟨v1, h2, hM⟩ := bind_some hM
  rcases cond_cases hM with ⟨h3, hM⟩ | ⟨h3, hM⟩
  · obtain ⟨v4, h5, hM⟩ := bind_some hM
    rcases cond_cases hM with ⟨h6, hM⟩ | ⟨h6, hM⟩
    · obtain ⟨v7, h8, hM⟩ := bind_some hM
      obtain ⟨v9, h10, hM⟩ := bind_some hM
      rcases cond_cases hM with ⟨h11, hM⟩ | ⟨h11, hM⟩
      · obtain ⟨v12, h13, hM⟩ := bind_some hM
        have hE : some (!v12) = some r := hM
        have hE := Option.some.inj hE
        subst hE
        exact pr R 9999 [.new 0, .ln (a0.Legs.length), .call false [] (.o (.c (.v (.bool v1)))) [] [], .as 13 true, .call false [] (.o (.c (.v (.bool v4)))) [] [], .as 17 true, .ix (Leg.enc v7), .run 26 (.int .i64 v9), .as 30 true, .call false [] (.o (.c (.v (.bool v12)))) [] []] [] [] [] (And.intro (lenm Leg.enc a0.Legs) (And.intro (spec_l1In_ok a1 0 (w64 ((a0.Legs.length : Int) - 1)) v1 h2) (And.intro h3 (And.intro (spec_l1In_ok a2 0 60 v4 h5) (And.intro h6 (And.intro (gi_map Leg.enc h8) (And.intro (shrM_run (P := Try.prog) (t := 3) (x := .tmp 0) (y := .tmp 0) h10) (And.intro h11 (And.intro (spec_l1Has_ok a0.Off a2 v12 h13) True.intro))))))))) (by kernel_rfl)
      · have hE : some false = some r := hM
        have hE := Option.some.inj hE
        subst hE
        exact pr R 9999 [.new 0, .ln (a0.Legs.length), .call false [] (.o (.c (.v (.bool v1)))) [] [], .as 13 true, .call false [] (.o (.c (.v (.bool v4)))) [] [], .as 17 true, .ix (Leg.enc v7), .run 26 (.int .i64 v9), .as 30 false] [] [] [] (And.intro (lenm Leg.enc a0.Legs) (And.intro (spec_l1In_ok a1 0 (w64 ((a0.Legs.length : Int) - 1)) v1 h2) (And.intro h3 (And.intro (spec_l1In_ok a2 0 60 v4 h5) (And.intro h6 (And.intro (gi_map Leg.enc h8) (And.intro (shrM_run (P := Try.prog) (t := 3) (x := .tmp 0) (y := .tmp 0) h10) (And.intro h11 True.intro)))))))) (by kernel_rfl)
    · have hE : some false = some r := hM
      have hE := Option.some.inj hE
      subst hE
      exact pr R 9999 [.new 0, .ln (a0.Legs.length), .call false [] (.o (.c (.v (.bool v1)))) [] [], .as 13 true, .call false [] (.o (.c (.v (.bool v4)))) [] [], .as 17 false] [] [] [] (And.intro (lenm Leg.enc a0.Legs) (And.intro (spec_l1In_ok a1 0 (w64 ((a0.Legs.length : Int) - 1)) v1 h2) (And.intro h3 (And.intro (spec_l1In_ok a2 0 60 v4 h5) (And.intro h6 True.intro))))) (by kernel_rfl)
  · have hE : some false = some r := hM
    have hE := Option.some.inj hE
    subst hE
    exact pr R 9999 [.new 0, .ln (a0.Legs.length), .call false [] (.o (.c (.v (.bool v1)))) [] [], .as 13 false] [] [] [] (And.intro (lenm Leg.enc a0.Legs) (And.intro (spec_l1In_ok a1 0 (w64 ((a0.Legs.length : Int) - 1)) v1 h2) (And.intro h3 True.intro))) (by kernel_rfl)

-- loop.example/g03014/spec.RunsOn
def spec_RunsOn (a0 : Network) (a1 : Int) (a2 : Int) : Option Bool :=
  (spec_IsNetwork a0).bind fun v1 =>
  bif v1 then
  (spec_l3Runs a0 a1 a2).bind fun v4 =>
  some v4
  else
  some false
theorem spec_RunsOn_ok (a0 : Network) (a1 : Int) (a2 : Int) (r : Bool) (hM : spec_RunsOn a0 a1 a2 = some r) :
    Con Try.prog 84 [.agg [.rs 6 (a0.Legs.map Leg.enc), .rs 1 (a0.Off.map encI), .v (.int .i64 a0.Change)], .c (.v (.int .i64 a1)), .c (.v (.int .i64 a2))] [] (.o (.c (.v (.bool r)))) [] [] := by
  unfold spec_RunsOn at hM
  refine cn (N := 15) (pids := []) Try_mixed Try.func84 (by kernel_rfl) (by kernel_rfl) (by kernel_rfl) rfl fun ρ g w R => ?_
  obtain ⟨v1, h2, hM⟩ := bind_some hM
  rcases cond_cases hM with ⟨h3, hM⟩ | ⟨h3, hM⟩
  · obtain ⟨v4, h5, hM⟩ := bind_some hM
    have hE : some v4 = some r := hM
    have hE := Option.some.inj hE
    subst hE
    exact pr R 9999 [.new 0, .call false [] (.o (.c (.v (.bool v1)))) [] [], .as 9 true, .call false [] (.o (.c (.v (.bool v4)))) [] []] [] [] [] (And.intro (spec_IsNetwork_ok a0 v1 h2) (And.intro h3 (And.intro (spec_l3Runs_ok a0 a1 a2 v4 h5) True.intro))) (by kernel_rfl)
  · have hE : some false = some r := hM
    have hE := Option.some.inj hE
    subst hE
    exact pr R 9999 [.new 0, .call false [] (.o (.c (.v (.bool v1)))) [] [], .as 9 false] [] [] [] (And.intro (spec_IsNetwork_ok a0 v1 h2) (And.intro h3 True.intro)) (by kernel_rfl)

-- loop.example/g03014/spec.IsTrip
def spec_IsTrip (a0 : Network) (a1 : Trip) : Option Bool :=
  (spec_RunsOn a0 a1.Leg a1.Day).bind fun v1 =>
  some v1
theorem spec_IsTrip_ok (a0 : Network) (a1 : Trip) (r : Bool) (hM : spec_IsTrip a0 a1 = some r) :
    Con Try.prog 63 [.agg [.rs 6 (a0.Legs.map Leg.enc), .rs 1 (a0.Off.map encI), .v (.int .i64 a0.Change)], .c (.v (.agg (Trip.enc a1).toArray))] [] (.o (.c (.v (.bool r)))) [] [] := by
  unfold spec_IsTrip at hM
  refine cn (N := 11) (pids := []) Try_mixed Try.func63 (by kernel_rfl) (by kernel_rfl) (by kernel_rfl) rfl fun ρ g w R => ?_
  obtain ⟨v1, h2, hM⟩ := bind_some hM
  have hE : some v1 = some r := hM
  have hE := Option.some.inj hE
  subst hE
  exact pr R 9999 [.new 0, .new 1, .call false [] (.o (.c (.v (.bool v1)))) [] []] [] [] [] (And.intro (spec_RunsOn_ok a0 a1.Leg a1.Day v1 h2) True.intro) (by kernel_rfl)

-- loop.example/g03014/spec.l3Starts
def spec_l3Starts (a0 : Network) (a1 : Trip) : Option Int :=
  (gi a0.Legs a1.Leg).bind fun v1 =>
  some (w64 ((w64 (a1.Day * 1440)) + v1.Start))
theorem spec_l3Starts_ok (a0 : Network) (a1 : Trip) (r : Int) (hM : spec_l3Starts a0 a1 = some r) :
    Con Try.prog 71 [.agg [.rs 6 (a0.Legs.map Leg.enc), .rs 1 (a0.Off.map encI), .v (.int .i64 a0.Change)], .c (.v (.agg (Trip.enc a1).toArray))] [] (.o (.c (.v (.int .i64 r)))) [] [] := by
  unfold spec_l3Starts at hM
  refine cn (N := 16) (pids := []) Try_mixed Try.func71 (by kernel_rfl) (by kernel_rfl) (by kernel_rfl) rfl fun ρ g w R => ?_
  obtain ⟨v1, h2, hM⟩ := bind_some hM
  have hE : some (w64 ((w64 (a1.Day * 1440)) + v1.Start)) = some r := hM
  have hE := Option.some.inj hE
  subst hE
  exact pr R 9999 [.new 0, .new 1, .ix (Leg.enc v1)] [] [] [] (And.intro (gi_map Leg.enc h2) True.intro) (by kernel_rfl)

-- loop.example/g03014/spec.l3Ends
def spec_l3Ends (a0 : Network) (a1 : Trip) : Option Int :=
  (spec_l3Starts a0 a1).bind fun v1 =>
  (gi a0.Legs a1.Leg).bind fun v3 =>
  some (w64 (v1 + v3.Takes))
theorem spec_l3Ends_ok (a0 : Network) (a1 : Trip) (r : Int) (hM : spec_l3Ends a0 a1 = some r) :
    Con Try.prog 64 [.agg [.rs 6 (a0.Legs.map Leg.enc), .rs 1 (a0.Off.map encI), .v (.int .i64 a0.Change)], .c (.v (.agg (Trip.enc a1).toArray))] [] (.o (.c (.v (.int .i64 r)))) [] [] := by
  unfold spec_l3Ends at hM
  refine cn (N := 16) (pids := []) Try_mixed Try.func64 (by kernel_rfl) (by kernel_rfl) (by kernel_rfl) rfl fun ρ g w R => ?_
  obtain ⟨v1, h2, hM⟩ := bind_some hM
  obtain ⟨v3, h4, hM⟩ := bind_some hM
  have hE : some (w64 (v1 + v3.Takes)) = some r := hM
  have hE := Option.some.inj hE
  subst hE
  exact pr R 9999 [.new 0, .new 1, .call false [] (.o (.c (.v (.int .i64 v1)))) [] [], .ix (Leg.enc v3)] [] [] [] (And.intro (spec_l3Starts_ok a0 a1 v1 h2) (And.intro (gi_map Leg.enc h4) True.intro)) (by kernel_rfl)

-- loop.example/g03014/spec.WayEnds
def spec_WayEnds_L1_b (a0 : Network) (a1 : (List Trip)) (s4 : Int) (s5 : Int) : Option (Ctl (Int × Int) Int Int) :=
  bif (decide (s5 < (a1.length : Int))) then
  (gi a1 s5).bind fun v8 =>
  (spec_IsTrip a0 v8).bind fun v10 =>
  bif (!v10) then
  some (.ret (-1))
  else
  (gi a1 s5).bind fun v13 =>
  (spec_l3Ends a0 v13).bind fun v15 =>
  some (.next (v15, w64 (s5 + 1)))
  else
  some (.brk s4)
def spec_WayEnds_L1 (a0 : Network) (a1 : (List Trip)) (s : Int × Int) : Option (Ctl (Int × Int) Int Int) := spec_WayEnds_L1_b a0 a1 s.1 s.2
def spec_WayEnds_L1_s (a0 : Network) (a1 : (List Trip)) (s4 : Int) (s5 : Int) : St := ⟨[(1, .o (.c (.rs 2 (a1.map Trip.enc)))), (3, .o (.c (.ptr 0 0))), (7, .o (.c (.v (.int .i64 s4)))), (8, .o (.c (.v (.int .i64 s5))))], [(0, .box 54 [.rs 6 (a0.Legs.map Leg.enc), .rs 1 (a0.Off.map encI), .v (.int .i64 a0.Change)])]⟩
def spec_WayEnds_L1_S (a0 : Network) (a1 : (List Trip)) (s : Int × Int) : St := spec_WayEnds_L1_s a0 a1 s.1 s.2
def spec_WayEnds_L1_a (s6 : Int) : Option Int :=
  some s6
def spec_WayEnds_L1_k (x : (Int) ⊕ (Int)) : Option Int := match x with
  | .inl t => spec_WayEnds_L1_a t
  | .inr y => some y
def spec_WayEnds (a0 : Network) (a1 : (List Trip)) (a2 : Int) : Option Int :=
  (spec_IsNetwork a0).bind fun v1 =>
  bif (!v1) then
  some (-1)
  else
  (loopM (spec_WayEnds_L1 a0 a1) big (a2, 0)).bind (spec_WayEnds_L1_k)
theorem spec_WayEnds_ok (a0 : Network) (a1 : (List Trip)) (a2 : Int) (r : Int) (hM : spec_WayEnds a0 a1 a2 = some r) :
    Con Try.prog 36 [.agg [.rs 6 (a0.Legs.map Leg.enc), .rs 1 (a0.Off.map encI), .v (.int .i64 a0.Change)], .c (.rs 2 (a1.map Trip.enc)), .c (.v (.int .i64 a2))] [] (.o (.c (.v (.int .i64 r)))) [] [] := by
  unfold spec_WayEnds at hM
  refine cn (N := 33) (pids := []) Try_mixed Try.func36 (by kernel_rfl) (by kernel_rfl) (by kernel_rfl) rfl fun ρ g w R => ?_
  obtain ⟨v1, h2, hM⟩ := bind_some hM
  rcases cond_cases hM with ⟨h3, hM⟩ | ⟨h3, hM⟩
  · have hE : some (-1) = some r := hM
    have hE := Option.some.inj hE
    subst hE
    exact pr R 9999 [.new 0, .call false [] (.o (.c (.v (.bool v1)))) [] [], .as 12 true] [] [] [] (And.intro (spec_IsNetwork_ok a0 v1 h2) (And.intro h3 True.intro)) (by kernel_rfl)
  · have K1 : ∀ (s6 : Int), spec_WayEnds_L1_a s6 = some r → Gr R [.code (cAt Try.f36 [1, 1, 1, 1])] (⟨[(7, .o (.c (.v (.int .i64 s6))))], []⟩) := by
      intro s6 hM
      unfold spec_WayEnds_L1_a at hM
      have hE : some s6 = some r := hM
      have hE := Option.some.inj hE
      subst hE
      exact pr R 9999 [] [] [] [] True.intro (by kernel_rfl)
    refine pc R 9999 [.new 0, .call false [] (.o (.c (.v (.bool v1)))) [] [], .as 12 false] [.keep [1, 3, 7, 8] [0]] (k' := [.code (.loop (cAt Try.f36 [1, 1, 1, 0, 1, 0, 0])), .blk 0, .code (cAt Try.f36 [1, 1, 1, 1])]) (S' := spec_WayEnds_L1_S a0 a1 (a2, 0)) (And.intro (spec_IsNetwork_ok a0 v1 h2) (And.intro h3 True.intro)) (by kernel_rfl) ?_
    refine lq (spec_WayEnds_L1_S a0 a1) (body := spec_WayEnds_L1 a0 a1) (k := spec_WayEnds_L1_k) hM fun m1 s c1 hM hK1 => ?_
    obtain ⟨s4, s5⟩ := s
    have hM : spec_WayEnds_L1_b a0 a1 s4 s5 = some c1 := hM
    unfold spec_WayEnds_L1_b at hM
    rcases cond_cases hM with ⟨h7, hM⟩ | ⟨h7, hM⟩
    · obtain ⟨v8, h9, hM⟩ := bind_some hM
      obtain ⟨v10, h11, hM⟩ := bind_some hM
      rcases cond_cases hM with ⟨h12, hM⟩ | ⟨h12, hM⟩
      · have hE : some (Ctl.ret (-1)) = some c1 := hM
        have hE := Option.some.inj hE
        subst hE
        have hE : some (-1) = some r := hK1
        have hE := Option.some.inj hE
        subst hE
        exact pr R 9999 [.ln (a1.length), .as 16 true, .ix (Trip.enc v8), .call false [] (.o (.c (.v (.bool v10)))) [] [], .as 25 true] [] [] [] (And.intro (lenm Trip.enc a1) (And.intro h7 (And.intro (gi_map Trip.enc h9) (And.intro (spec_IsTrip_ok a0 v8 v10 h11) (And.intro h12 True.intro))))) (by kernel_rfl)
      · obtain ⟨v13, h14, hM⟩ := bind_some hM
        obtain ⟨v15, h16, hM⟩ := bind_some hM
        have hE : some (Ctl.next (v15, w64 (s5 + 1))) = some c1 := hM
        have hE := Option.some.inj hE
        subst hE
        exact pc R 9999 [.ln (a1.length), .as 16 true, .ix (Trip.enc v8), .call false [] (.o (.c (.v (.bool v10)))) [] [], .as 25 false, .ix (Trip.enc v13), .call false [] (.o (.c (.v (.int .i64 v15)))) [] []] [.keep [1, 3, 7, 8] [0]] (And.intro (lenm Trip.enc a1) (And.intro h7 (And.intro (gi_map Trip.enc h9) (And.intro (spec_IsTrip_ok a0 v8 v10 h11) (And.intro h12 (And.intro (gi_map Trip.enc h14) (And.intro (spec_l3Ends_ok a0 v13 v15 h16) True.intro))))))) (by kernel_rfl) (li (Sf := spec_WayEnds_L1_S a0 a1) (M := Mk (spec_WayEnds_L1 a0 a1) (spec_WayEnds_L1_k) r) (k := [.blk 0, .code (cAt Try.f36 [1, 1, 1, 1])]) (Nat.lt_succ_self m1) hK1)
    · have hE : some (Ctl.brk s4) = some c1 := hM
      have hE := Option.some.inj hE
      subst hE
      exact pc R 5 [.ln (a1.length), .as 16 false] [.keep [7] []] (And.intro (lenm Trip.enc a1) (And.intro h7 True.intro)) (by kernel_rfl) (K1 s4 hK1)

-- loop.example/g03014/impl.IsPlace
def impl_IsPlace_L1_b (a0 : ByteArray) (s1 : Int) : Option (Ctl Int Unit Bool) :=
  bif (decide (s1 < (a0.size : Int))) then
  (siM a0 s1).bind fun v3 =>
  bif (decide (v3 < 65)) then
  some (.ret false)
  else
  (siM a0 s1).bind fun v6 =>
  bif (decide (v6 > 90)) then
  some (.ret false)
  else
  some (.next (w64 (s1 + 1)))
  else
  some (.brk ())
def impl_IsPlace_L1 (a0 : ByteArray) (s : Int) : Option (Ctl Int Unit Bool) := impl_IsPlace_L1_b a0 s
def impl_IsPlace_L1_s (a0 : ByteArray) (s1 : Int) : St := ⟨[(0, .o (.c (.v (.string a0)))), (3, .o (.c (.v (.int .i64 s1))))], []⟩
def impl_IsPlace_L1_S (a0 : ByteArray) (s : Int) : St := impl_IsPlace_L1_s a0 s
def impl_IsPlace_L1_a (a0 : ByteArray) : Option Bool :=
  some ((a0.size : Int) == 3)
def impl_IsPlace_L1_k (a0 : ByteArray) (x : (Unit) ⊕ (Bool)) : Option Bool := match x with
  | .inl t => impl_IsPlace_L1_a a0
  | .inr y => some y
def impl_IsPlace (a0 : ByteArray) : Option Bool :=
  (loopM (impl_IsPlace_L1 a0) big 0).bind (impl_IsPlace_L1_k a0)
theorem impl_IsPlace_ok (a0 : ByteArray) (r : Bool) (hM : impl_IsPlace a0 = some r) :
    Con Try.prog 98 [.c (.v (.string a0))] [] (.o (.c (.v (.bool r)))) [] [] := by
  unfold impl_IsPlace at hM
  refine cn (N := 23) (pids := []) Try_mixed Try.func98 (by kernel_rfl) (by kernel_rfl) (by kernel_rfl) rfl fun ρ g w R => ?_
  have K1 : ∀ (_ : Unit), impl_IsPlace_L1_a a0 = some r → Gr R [.code (cAt Try.f98 [1, 1])] (⟨[(0, .o (.c (.v (.string a0))))], []⟩) := by
    intro _ hM
    unfold impl_IsPlace_L1_a at hM
    have hE : some ((a0.size : Int) == 3) = some r := hM
    have hE := Option.some.inj hE
    subst hE
    exact pr R 9999 [] [] [] [] True.intro (by kernel_rfl)
  refine pc R 9999 [] [.keep [0, 3] []] (k' := [.code (.loop (cAt Try.f98 [1, 0, 1, 0, 0])), .blk 0, .code (cAt Try.f98 [1, 1])]) (S' := impl_IsPlace_L1_S a0 0) True.intro (by kernel_rfl) ?_
  refine lq (impl_IsPlace_L1_S a0) (body := impl_IsPlace_L1 a0) (k := impl_IsPlace_L1_k a0) hM fun m1 s c1 hM hK1 => ?_
  obtain ⟨s1, hs⟩ : ∃ z, z = s := ⟨_, rfl⟩
  subst hs
  have hM : impl_IsPlace_L1_b a0 s1 = some c1 := hM
  unfold impl_IsPlace_L1_b at hM
  rcases cond_cases hM with ⟨h2, hM⟩ | ⟨h2, hM⟩
  · obtain ⟨v3, h4, hM⟩ := bind_some hM
    rcases cond_cases hM with ⟨h5, hM⟩ | ⟨h5, hM⟩
    · have hE : some (Ctl.ret false) = some c1 := hM
      have hE := Option.some.inj hE
      subst hE
      have hE : some false = some r := hK1
      have hE := Option.some.inj hE
      subst hE
      exact pr R 9999 [.as 7 true, .ix [.int .u8 v3], .as 14 true] [] [] [] (And.intro h2 (And.intro (siM_ok h4) (And.intro h5 True.intro))) (by kernel_rfl)
    · obtain ⟨v6, h7, hM⟩ := bind_some hM
      rcases cond_cases hM with ⟨h8, hM⟩ | ⟨h8, hM⟩
      · have hE : some (Ctl.ret false) = some c1 := hM
        have hE := Option.some.inj hE
        subst hE
        have hE : some false = some r := hK1
        have hE := Option.some.inj hE
        subst hE
        exact pr R 9999 [.as 7 true, .ix [.int .u8 v3], .as 14 false, .ix [.int .u8 v6], .as 19 true] [] [] [] (And.intro h2 (And.intro (siM_ok h4) (And.intro h5 (And.intro (siM_ok h7) (And.intro h8 True.intro))))) (by kernel_rfl)
      · have hE : some (Ctl.next (w64 (s1 + 1))) = some c1 := hM
        have hE := Option.some.inj hE
        subst hE
        exact pc R 9999 [.as 7 true, .ix [.int .u8 v3], .as 14 false, .ix [.int .u8 v6], .as 19 false] [.keep [0, 3] []] (And.intro h2 (And.intro (siM_ok h4) (And.intro h5 (And.intro (siM_ok h7) (And.intro h8 True.intro))))) (by kernel_rfl) (li (Sf := impl_IsPlace_L1_S a0) (M := Mk (impl_IsPlace_L1 a0) (impl_IsPlace_L1_k a0) r) (k := [.blk 0, .code (cAt Try.f98 [1, 1])]) (Nat.lt_succ_self m1) hK1)
  · have hE : some (Ctl.brk ()) = some c1 := hM
    have hE := Option.some.inj hE
    subst hE
    exact pc R 5 [.as 7 false] [.keep [0] []] (And.intro h2 True.intro) (by kernel_rfl) (K1 () hK1)

-- loop.example/g03014/impl.within
def impl_within (a0 : Int) (a1 : Int) (a2 : Int) : Option Bool :=
  bif (decide (a1 ≤ a0)) then
  some (decide (a0 ≤ a2))
  else
  some false
theorem impl_within_ok (a0 : Int) (a1 : Int) (a2 : Int) (r : Bool) (hM : impl_within a0 a1 a2 = some r) :
    Con Try.prog 77 [.c (.v (.int .i64 a0)), .c (.v (.int .i64 a1)), .c (.v (.int .i64 a2))] [] (.o (.c (.v (.bool r)))) [] [] := by
  unfold impl_within at hM
  refine cn (N := 15) (pids := []) Try_mixed Try.func77 (by kernel_rfl) (by kernel_rfl) (by kernel_rfl) rfl fun ρ g w R => ?_
  rcases cond_cases hM with ⟨h1, hM⟩ | ⟨h1, hM⟩
  · have hE : some (decide (a0 ≤ a2)) = some r := hM
    have hE := Option.some.inj hE
    subst hE
    exact pr R 9999 [.as 10 true] [] [] [] (And.intro h1 True.intro) (by kernel_rfl)
  · have hE : some false = some r := hM
    have hE := Option.some.inj hE
    subst hE
    exact pr R 9999 [.as 10 false] [] [] [] (And.intro h1 True.intro) (by kernel_rfl)

-- loop.example/g03014/impl.IsLeg
def impl_IsLeg (a0 : Leg) : Option Bool :=
  (impl_IsPlace a0.From).bind fun v1 =>
  bif v1 then
  (impl_IsPlace a0.To).bind fun v4 =>
  bif v4 then
  bif (!(a0.From.toList == a0.To.toList)) then
  (impl_within a0.Start 0 1439).bind fun v8 =>
  bif v8 then
  (impl_within a0.Takes 1 4320).bind fun v11 =>
  bif v11 then
  (impl_within a0.Days 1 127).bind fun v14 =>
  bif v14 then
  (impl_within a0.Room 0 1000000).bind fun v17 =>
  some v17
  else
  some false
  else
  some false
  else
  some false
  else
  some false
  else
  some false
  else
  some false
theorem impl_IsLeg_ok (a0 : Leg) (r : Bool) (hM : impl_IsLeg a0 = some r) :
    Con Try.prog 86 [.c (.v (.agg (Leg.enc a0).toArray))] [] (.o (.c (.v (.bool r)))) [] [] := by
  unfold impl_IsLeg at hM
  refine cn (N := 38) (pids := []) Try_mixed Try.func86 (by kernel_rfl) (by kernel_rfl) (by kernel_rfl) rfl fun ρ g w R => ?_
  obtain ⟨v1, h2, hM⟩ := bind_some hM
  rcases cond_cases hM with ⟨h3, hM⟩ | ⟨h3, hM⟩
  · obtain ⟨v4, h5, hM⟩ := bind_some hM
    rcases cond_cases hM with ⟨h6, hM⟩ | ⟨h6, hM⟩
    · rcases cond_cases hM with ⟨h7, hM⟩ | ⟨h7, hM⟩
      · obtain ⟨v8, h9, hM⟩ := bind_some hM
        rcases cond_cases hM with ⟨h10, hM⟩ | ⟨h10, hM⟩
        · obtain ⟨v11, h12, hM⟩ := bind_some hM
          rcases cond_cases hM with ⟨h13, hM⟩ | ⟨h13, hM⟩
          · obtain ⟨v14, h15, hM⟩ := bind_some hM
            rcases cond_cases hM with ⟨h16, hM⟩ | ⟨h16, hM⟩
            · obtain ⟨v17, h18, hM⟩ := bind_some hM
              have hE : some v17 = some r := hM
              have hE := Option.some.inj hE
              subst hE
              exact pr R 9999 [.new 0, .call false [] (.o (.c (.v (.bool v1)))) [] [], .as 6 true, .call false [] (.o (.c (.v (.bool v4)))) [] [], .as 11 true, .as 18 true, .call false [] (.o (.c (.v (.bool v8)))) [] [], .as 23 true, .call false [] (.o (.c (.v (.bool v11)))) [] [], .as 28 true, .call false [] (.o (.c (.v (.bool v14)))) [] [], .as 33 true, .call false [] (.o (.c (.v (.bool v17)))) [] []] [] [] [] (And.intro (impl_IsPlace_ok a0.From v1 h2) (And.intro h3 (And.intro (impl_IsPlace_ok a0.To v4 h5) (And.intro h6 (And.intro h7 (And.intro (impl_within_ok a0.Start 0 1439 v8 h9) (And.intro h10 (And.intro (impl_within_ok a0.Takes 1 4320 v11 h12) (And.intro h13 (And.intro (impl_within_ok a0.Days 1 127 v14 h15) (And.intro h16 (And.intro (impl_within_ok a0.Room 0 1000000 v17 h18) True.intro)))))))))))) (by kernel_rfl)
            · have hE : some false = some r := hM
              have hE := Option.some.inj hE
              subst hE
              exact pr R 9999 [.new 0, .call false [] (.o (.c (.v (.bool v1)))) [] [], .as 6 true, .call false [] (.o (.c (.v (.bool v4)))) [] [], .as 11 true, .as 18 true, .call false [] (.o (.c (.v (.bool v8)))) [] [], .as 23 true, .call false [] (.o (.c (.v (.bool v11)))) [] [], .as 28 true, .call false [] (.o (.c (.v (.bool v14)))) [] [], .as 33 false] [] [] [] (And.intro (impl_IsPlace_ok a0.From v1 h2) (And.intro h3 (And.intro (impl_IsPlace_ok a0.To v4 h5) (And.intro h6 (And.intro h7 (And.intro (impl_within_ok a0.Start 0 1439 v8 h9) (And.intro h10 (And.intro (impl_within_ok a0.Takes 1 4320 v11 h12) (And.intro h13 (And.intro (impl_within_ok a0.Days 1 127 v14 h15) (And.intro h16 True.intro))))))))))) (by kernel_rfl)
          · have hE : some false = some r := hM
            have hE := Option.some.inj hE
            subst hE
            exact pr R 9999 [.new 0, .call false [] (.o (.c (.v (.bool v1)))) [] [], .as 6 true, .call false [] (.o (.c (.v (.bool v4)))) [] [], .as 11 true, .as 18 true, .call false [] (.o (.c (.v (.bool v8)))) [] [], .as 23 true, .call false [] (.o (.c (.v (.bool v11)))) [] [], .as 28 false] [] [] [] (And.intro (impl_IsPlace_ok a0.From v1 h2) (And.intro h3 (And.intro (impl_IsPlace_ok a0.To v4 h5) (And.intro h6 (And.intro h7 (And.intro (impl_within_ok a0.Start 0 1439 v8 h9) (And.intro h10 (And.intro (impl_within_ok a0.Takes 1 4320 v11 h12) (And.intro h13 True.intro))))))))) (by kernel_rfl)
        · have hE : some false = some r := hM
          have hE := Option.some.inj hE
          subst hE
          exact pr R 9999 [.new 0, .call false [] (.o (.c (.v (.bool v1)))) [] [], .as 6 true, .call false [] (.o (.c (.v (.bool v4)))) [] [], .as 11 true, .as 18 true, .call false [] (.o (.c (.v (.bool v8)))) [] [], .as 23 false] [] [] [] (And.intro (impl_IsPlace_ok a0.From v1 h2) (And.intro h3 (And.intro (impl_IsPlace_ok a0.To v4 h5) (And.intro h6 (And.intro h7 (And.intro (impl_within_ok a0.Start 0 1439 v8 h9) (And.intro h10 True.intro))))))) (by kernel_rfl)
      · have hE : some false = some r := hM
        have hE := Option.some.inj hE
        subst hE
        exact pr R 9999 [.new 0, .call false [] (.o (.c (.v (.bool v1)))) [] [], .as 6 true, .call false [] (.o (.c (.v (.bool v4)))) [] [], .as 11 true, .as 18 false] [] [] [] (And.intro (impl_IsPlace_ok a0.From v1 h2) (And.intro h3 (And.intro (impl_IsPlace_ok a0.To v4 h5) (And.intro h6 (And.intro h7 True.intro))))) (by kernel_rfl)
    · have hE : some false = some r := hM
      have hE := Option.some.inj hE
      subst hE
      exact pr R 9999 [.new 0, .call false [] (.o (.c (.v (.bool v1)))) [] [], .as 6 true, .call false [] (.o (.c (.v (.bool v4)))) [] [], .as 11 false] [] [] [] (And.intro (impl_IsPlace_ok a0.From v1 h2) (And.intro h3 (And.intro (impl_IsPlace_ok a0.To v4 h5) (And.intro h6 True.intro)))) (by kernel_rfl)
  · have hE : some false = some r := hM
    have hE := Option.some.inj hE
    subst hE
    exact pr R 9999 [.new 0, .call false [] (.o (.c (.v (.bool v1)))) [] [], .as 6 false] [] [] [] (And.intro (impl_IsPlace_ok a0.From v1 h2) (And.intro h3 True.intro)) (by kernel_rfl)

-- loop.example/g03014/impl.IsNetwork
def impl_IsNetwork_L2_b (a0 : Network) (s2 : Int) : Option (Ctl Int Unit Bool) :=
  bif (decide (s2 < (a0.Off.length : Int))) then
  (gi a0.Off s2).bind fun v8 =>
  (impl_within v8 0 60).bind fun v10 =>
  bif (!v10) then
  some (.ret false)
  else
  bif (decide (s2 > 0)) then
  (gi a0.Off (w64 (s2 - 1))).bind fun v14 =>
  bif (decide (v14 ≥ v8)) then
  some (.ret false)
  else
  some (.next (w64 (s2 + 1)))
  else
  some (.next (w64 (s2 + 1)))
  else
  some (.brk ())
def impl_IsNetwork_L2 (a0 : Network) (s : Int) : Option (Ctl Int Unit Bool) := impl_IsNetwork_L2_b a0 s
def impl_IsNetwork_L2_s (a0 : Network) (s2 : Int) : St := ⟨[(1, .o (.c (.ptr 0 0))), (19, .o (.c (.rs 1 (a0.Off.map encI)))), (20, .o (.c (.v (.int .i64 (a0.Off.length : Int))))), (21, .o (.c (.v (.int .i64 s2))))], [(0, .box 54 [.rs 6 (a0.Legs.map Leg.enc), .rs 1 (a0.Off.map encI), .v (.int .i64 a0.Change)])]⟩
def impl_IsNetwork_L2_S (a0 : Network) (s : Int) : St := impl_IsNetwork_L2_s a0 s
def impl_IsNetwork_L2_a (a0 : Network) : Option Bool :=
  bif (decide ((a0.Legs.length : Int) ≤ 20)) then
  bif (decide ((a0.Off.length : Int) ≤ 10)) then
  (impl_within a0.Change 0 240).bind fun v5 =>
  some v5
  else
  some false
  else
  some false
def impl_IsNetwork_L2_k (a0 : Network) (x : (Unit) ⊕ (Bool)) : Option Bool := match x with
  | .inl t => impl_IsNetwork_L2_a a0
  | .inr y => some y
def impl_IsNetwork_L1_b (a0 : Network) (s1 : Int) : Option (Ctl Int Unit Bool) :=
  bif (decide (s1 < (a0.Legs.length : Int))) then
  (gi a0.Legs s1).bind fun v18 =>
  (impl_IsLeg v18).bind fun v20 =>
  bif (!v20) then
  some (.ret false)
  else
  some (.next (w64 (s1 + 1)))
  else
  some (.brk ())
def impl_IsNetwork_L1 (a0 : Network) (s : Int) : Option (Ctl Int Unit Bool) := impl_IsNetwork_L1_b a0 s
def impl_IsNetwork_L1_s (a0 : Network) (s1 : Int) : St := ⟨[(1, .o (.c (.ptr 0 0))), (8, .o (.c (.rs 6 (a0.Legs.map Leg.enc)))), (9, .o (.c (.v (.int .i64 (a0.Legs.length : Int))))), (10, .o (.c (.v (.int .i64 s1))))], [(0, .box 54 [.rs 6 (a0.Legs.map Leg.enc), .rs 1 (a0.Off.map encI), .v (.int .i64 a0.Change)])]⟩
def impl_IsNetwork_L1_S (a0 : Network) (s : Int) : St := impl_IsNetwork_L1_s a0 s
def impl_IsNetwork_L1_a (a0 : Network) : Option Bool :=
  (loopM (impl_IsNetwork_L2 a0) big 0).bind (impl_IsNetwork_L2_k a0)
def impl_IsNetwork_L1_k (a0 : Network) (x : (Unit) ⊕ (Bool)) : Option Bool := match x with
  | .inl t => impl_IsNetwork_L1_a a0
  | .inr y => some y
def impl_IsNetwork (a0 : Network) : Option Bool :=
  (loopM (impl_IsNetwork_L1 a0) big 0).bind (impl_IsNetwork_L1_k a0)
theorem impl_IsNetwork_ok (a0 : Network) (r : Bool) (hM : impl_IsNetwork a0 = some r) :
    Con Try.prog 67 [.agg [.rs 6 (a0.Legs.map Leg.enc), .rs 1 (a0.Off.map encI), .v (.int .i64 a0.Change)]] [] (.o (.c (.v (.bool r)))) [] [] := by
  unfold impl_IsNetwork at hM
  refine cn (N := 59) (pids := []) Try_mixed Try.func67 (by kernel_rfl) (by kernel_rfl) (by kernel_rfl) rfl fun ρ g w R => ?_
  have K1 : ∀ (_ : Unit), impl_IsNetwork_L1_a a0 = some r → Gr R [.code (cAt Try.f67 [1, 1])] (⟨[(1, .o (.c (.ptr 0 0)))], [(0, .box 54 [.rs 6 (a0.Legs.map Leg.enc), .rs 1 (a0.Off.map encI), .v (.int .i64 a0.Change)])]⟩) := by
    intro _ hM
    unfold impl_IsNetwork_L1_a at hM
    have K2 : ∀ (_ : Unit), impl_IsNetwork_L2_a a0 = some r → Gr R [.code (cAt Try.f67 [1, 1, 1])] (⟨[(1, .o (.c (.ptr 0 0)))], [(0, .box 54 [.rs 6 (a0.Legs.map Leg.enc), .rs 1 (a0.Off.map encI), .v (.int .i64 a0.Change)])]⟩) := by
      intro _ hM
      unfold impl_IsNetwork_L2_a at hM
      rcases cond_cases hM with ⟨h3, hM⟩ | ⟨h3, hM⟩
      · rcases cond_cases hM with ⟨h4, hM⟩ | ⟨h4, hM⟩
        · obtain ⟨v5, h6, hM⟩ := bind_some hM
          have hE : some v5 = some r := hM
          have hE := Option.some.inj hE
          subst hE
          exact pr R 9999 [.ln (a0.Legs.length), .as 48 true, .ln (a0.Off.length), .as 54 true, .call false [] (.o (.c (.v (.bool v5)))) [] []] [] [] [] (And.intro (lenm Leg.enc a0.Legs) (And.intro h3 (And.intro (lenm encI a0.Off) (And.intro h4 (And.intro (impl_within_ok a0.Change 0 240 v5 h6) True.intro))))) (by kernel_rfl)
        · have hE : some false = some r := hM
          have hE := Option.some.inj hE
          subst hE
          exact pr R 9999 [.ln (a0.Legs.length), .as 48 true, .ln (a0.Off.length), .as 54 false] [] [] [] (And.intro (lenm Leg.enc a0.Legs) (And.intro h3 (And.intro (lenm encI a0.Off) (And.intro h4 True.intro)))) (by kernel_rfl)
      · have hE : some false = some r := hM
        have hE := Option.some.inj hE
        subst hE
        exact pr R 9999 [.ln (a0.Legs.length), .as 48 false] [] [] [] (And.intro (lenm Leg.enc a0.Legs) (And.intro h3 True.intro)) (by kernel_rfl)
    refine pc R 9999 [.ln (a0.Off.length)] [.keep [1, 19, 20, 21] [0]] (k' := [.code (.loop (cAt Try.f67 [1, 1, 0, 1, 0, 0])), .blk 2, .code (cAt Try.f67 [1, 1, 1])]) (S' := impl_IsNetwork_L2_S a0 0) (And.intro (lenm encI a0.Off) True.intro) (by kernel_rfl) ?_
    refine lq (impl_IsNetwork_L2_S a0) (body := impl_IsNetwork_L2 a0) (k := impl_IsNetwork_L2_k a0) hM fun m2 s c2 hM hK2 => ?_
    obtain ⟨s2, hs⟩ : ∃ z, z = s := ⟨_, rfl⟩
    subst hs
    have hM : impl_IsNetwork_L2_b a0 s2 = some c2 := hM
    unfold impl_IsNetwork_L2_b at hM
    rcases cond_cases hM with ⟨h7, hM⟩ | ⟨h7, hM⟩
    · obtain ⟨v8, h9, hM⟩ := bind_some hM
      obtain ⟨v10, h11, hM⟩ := bind_some hM
      rcases cond_cases hM with ⟨h12, hM⟩ | ⟨h12, hM⟩
      · have hE : some (Ctl.ret false) = some c2 := hM
        have hE := Option.some.inj hE
        subst hE
        have hE : some false = some r := hK2
        have hE := Option.some.inj hE
        subst hE
        exact pr R 9999 [.as 22 true, .ix (encI v8), .call false [] (.o (.c (.v (.bool v10)))) [] [], .as 29 true] [] [] [] (And.intro h7 (And.intro (gi_map encI h9) (And.intro (impl_within_ok v8 0 60 v10 h11) (And.intro h12 True.intro)))) (by kernel_rfl)
      · rcases cond_cases hM with ⟨h13, hM⟩ | ⟨h13, hM⟩
        · obtain ⟨v14, h15, hM⟩ := bind_some hM
          rcases cond_cases hM with ⟨h16, hM⟩ | ⟨h16, hM⟩
          · have hE : some (Ctl.ret false) = some c2 := hM
            have hE := Option.some.inj hE
            subst hE
            have hE : some false = some r := hK2
            have hE := Option.some.inj hE
            subst hE
            exact pr R 9999 [.as 22 true, .ix (encI v8), .call false [] (.o (.c (.v (.bool v10)))) [] [], .as 29 false, .as 32 true, .ix (encI v14), .as 42 true] [] [] [] (And.intro h7 (And.intro (gi_map encI h9) (And.intro (impl_within_ok v8 0 60 v10 h11) (And.intro h12 (And.intro h13 (And.intro (gi_map encI h15) (And.intro h16 True.intro))))))) (by kernel_rfl)
          · have hE : some (Ctl.next (w64 (s2 + 1))) = some c2 := hM
            have hE := Option.some.inj hE
            subst hE
            exact pc R 9999 [.as 22 true, .ix (encI v8), .call false [] (.o (.c (.v (.bool v10)))) [] [], .as 29 false, .as 32 true, .ix (encI v14), .as 42 false] [.keep [1, 19, 20, 21] [0]] (And.intro h7 (And.intro (gi_map encI h9) (And.intro (impl_within_ok v8 0 60 v10 h11) (And.intro h12 (And.intro h13 (And.intro (gi_map encI h15) (And.intro h16 True.intro))))))) (by kernel_rfl) (li (Sf := impl_IsNetwork_L2_S a0) (M := Mk (impl_IsNetwork_L2 a0) (impl_IsNetwork_L2_k a0) r) (k := [.blk 2, .code (cAt Try.f67 [1, 1, 1])]) (Nat.lt_succ_self m2) hK2)
        · have hE : some (Ctl.next (w64 (s2 + 1))) = some c2 := hM
          have hE := Option.some.inj hE
          subst hE
          exact pc R 9999 [.as 22 true, .ix (encI v8), .call false [] (.o (.c (.v (.bool v10)))) [] [], .as 29 false, .as 32 false] [.keep [1, 19, 20, 21] [0]] (And.intro h7 (And.intro (gi_map encI h9) (And.intro (impl_within_ok v8 0 60 v10 h11) (And.intro h12 (And.intro h13 True.intro))))) (by kernel_rfl) (li (Sf := impl_IsNetwork_L2_S a0) (M := Mk (impl_IsNetwork_L2 a0) (impl_IsNetwork_L2_k a0) r) (k := [.blk 2, .code (cAt Try.f67 [1, 1, 1])]) (Nat.lt_succ_self m2) hK2)
    · have hE : some (Ctl.brk ()) = some c2 := hM
      have hE := Option.some.inj hE
      subst hE
      exact pc R 5 [.as 22 false] [.keep [1] [0]] (And.intro h7 True.intro) (by kernel_rfl) (K2 () hK2)
  refine pc R 9999 [.new 0, .ln (a0.Legs.length)] [.keep [1, 8, 9, 10] [0]] (k' := [.code (.loop (cAt Try.f67 [1, 0, 1, 0, 0])), .blk 0, .code (cAt Try.f67 [1, 1])]) (S' := impl_IsNetwork_L1_S a0 0) (And.intro (lenm Leg.enc a0.Legs) True.intro) (by kernel_rfl) ?_
  refine lq (impl_IsNetwork_L1_S a0) (body := impl_IsNetwork_L1 a0) (k := impl_IsNetwork_L1_k a0) hM fun m1 s c1 hM hK1 => ?_
  obtain ⟨s1, hs⟩ : ∃ z, z = s := ⟨_, rfl⟩
  subst hs
  have hM : impl_IsNetwork_L1_b a0 s1 = some c1 := hM
  unfold impl_IsNetwork_L1_b at hM
  rcases cond_cases hM with ⟨h17, hM⟩ | ⟨h17, hM⟩
  · obtain ⟨v18, h19, hM⟩ := bind_some hM
    obtain ⟨v20, h21, hM⟩ := bind_some hM
    rcases cond_cases hM with ⟨h22, hM⟩ | ⟨h22, hM⟩
    · have hE : some (Ctl.ret false) = some c1 := hM
      have hE := Option.some.inj hE
      subst hE
      have hE : some false = some r := hK1
      have hE := Option.some.inj hE
      subst hE
      exact pr R 9999 [.as 11 true, .ix (Leg.enc v18), .new 1, .call false [] (.o (.c (.v (.bool v20)))) [] [], .as 16 true] [] [] [] (And.intro h17 (And.intro (gi_map Leg.enc h19) (And.intro (impl_IsLeg_ok v18 v20 h21) (And.intro h22 True.intro)))) (by kernel_rfl)
    · have hE : some (Ctl.next (w64 (s1 + 1))) = some c1 := hM
      have hE := Option.some.inj hE
      subst hE
      exact pc R 9999 [.as 11 true, .ix (Leg.enc v18), .new 1, .call false [] (.o (.c (.v (.bool v20)))) [] [], .as 16 false] [.keep [1, 8, 9, 10] [0]] (And.intro h17 (And.intro (gi_map Leg.enc h19) (And.intro (impl_IsLeg_ok v18 v20 h21) (And.intro h22 True.intro)))) (by kernel_rfl) (li (Sf := impl_IsNetwork_L1_S a0) (M := Mk (impl_IsNetwork_L1 a0) (impl_IsNetwork_L1_k a0) r) (k := [.blk 0, .code (cAt Try.f67 [1, 1])]) (Nat.lt_succ_self m1) hK1)
  · have hE : some (Ctl.brk ()) = some c1 := hM
    have hE := Option.some.inj hE
    subst hE
    exact pc R 5 [.as 11 false] [.keep [1] [0]] (And.intro h17 True.intro) (by kernel_rfl) (K1 () hK1)

-- loop.example/g03014/impl.runs
def impl_runs_L1_b (a0 : Network) (a2 : Int) (s11 : Int) : Option (Ctl Int Unit Bool) :=
  bif (decide (s11 < (a0.Off.length : Int))) then
  (gi a0.Off s11).bind fun v13 =>
  bif (v13 == a2) then
  some (.ret false)
  else
  some (.next (w64 (s11 + 1)))
  else
  some (.brk ())
def impl_runs_L1 (a0 : Network) (a2 : Int) (s : Int) : Option (Ctl Int Unit Bool) := impl_runs_L1_b a0 a2 s
def impl_runs_L1_s (a0 : Network) (a2 : Int) (s11 : Int) : St := ⟨[(2, .o (.c (.v (.int .i64 a2)))), (37, .o (.c (.rs 1 (a0.Off.map encI)))), (38, .o (.c (.v (.int .i64 (a0.Off.length : Int))))), (39, .o (.c (.v (.int .i64 s11))))], []⟩
def impl_runs_L1_S (a0 : Network) (a2 : Int) (s : Int) : St := impl_runs_L1_s a0 a2 s
def impl_runs_L1_a : Option Bool :=
  some true
def impl_runs_L1_k (x : (Unit) ⊕ (Bool)) : Option Bool := match x with
  | .inl t => impl_runs_L1_a
  | .inr y => some y
def impl_runs (a0 : Network) (a1 : Int) (a2 : Int) : Option Bool :=
  bif (decide (a1 < 0)) then
  some false
  else
  bif (decide (a1 ≥ (a0.Legs.length : Int))) then
  some false
  else
  (impl_within a2 0 60).bind fun v3 =>
  bif (!v3) then
  some false
  else
  (gi a0.Legs a1).bind fun v6 =>
  (shrM v6.Days (Int.tmod a2 7)).bind fun v8 =>
  bif ((w64 ((BitVec.ofInt 64 v8 &&& BitVec.ofInt 64 1).toNat)) == 0) then
  some false
  else
  (loopM (impl_runs_L1 a0 a2) big 0).bind (impl_runs_L1_k)
theorem impl_runs_ok (a0 : Network) (a1 : Int) (a2 : Int) (r : Bool) (hM : impl_runs a0 a1 a2 = some r) :
    Con Try.prog 94 [.agg [.rs 6 (a0.Legs.map Leg.enc), .rs 1 (a0.Off.map encI), .v (.int .i64 a0.Change)], .c (.v (.int .i64 a1)), .c (.v (.int .i64 a2))] [] (.o (.c (.v (.bool r)))) [] [] := by
  unfold impl_runs at hM
  refine cn (N := 47) (pids := []) Try_mixed Try.func94 (by kernel_rfl) (by kernel_rfl) (by kernel_rfl) rfl fun ρ g w R => ?_
  rcases cond_cases hM with ⟨h1, hM⟩ | ⟨h1, hM⟩
  · have hE : some false = some r := hM
    have hE := Option.some.inj hE
    subst hE
    exact pr R 9999 [.new 0, .as 11 true] [] [] [] (And.intro h1 True.intro) (by kernel_rfl)
  · rcases cond_cases hM with ⟨h2, hM⟩ | ⟨h2, hM⟩
    · have hE : some false = some r := hM
      have hE := Option.some.inj hE
      subst hE
      exact pr R 9999 [.new 0, .as 11 false, .ln (a0.Legs.length), .as 18 true] [] [] [] (And.intro h1 (And.intro (lenm Leg.enc a0.Legs) (And.intro h2 True.intro))) (by kernel_rfl)
    · obtain ⟨v3, h4, hM⟩ := bind_some hM
      rcases cond_cases hM with ⟨h5, hM⟩ | ⟨h5, hM⟩
      · have hE : some false = some r := hM
        have hE := Option.some.inj hE
        subst hE
        exact pr R 9999 [.new 0, .as 11 false, .ln (a0.Legs.length), .as 18 false, .call false [] (.o (.c (.v (.bool v3)))) [] [], .as 23 true] [] [] [] (And.intro h1 (And.intro (lenm Leg.enc a0.Legs) (And.intro h2 (And.intro (impl_within_ok a2 0 60 v3 h4) (And.intro h5 True.intro))))) (by kernel_rfl)
      · obtain ⟨v6, h7, hM⟩ := bind_some hM
        obtain ⟨v8, h9, hM⟩ := bind_some hM
        rcases cond_cases hM with ⟨h10, hM⟩ | ⟨h10, hM⟩
        · have hE : some false = some r := hM
          have hE := Option.some.inj hE
          subst hE
          exact pr R 9999 [.new 0, .as 11 false, .ln (a0.Legs.length), .as 18 false, .call false [] (.o (.c (.v (.bool v3)))) [] [], .as 23 false, .ix (Leg.enc v6), .run 32 (.int .i64 v8), .as 35 true] [] [] [] (And.intro h1 (And.intro (lenm Leg.enc a0.Legs) (And.intro h2 (And.intro (impl_within_ok a2 0 60 v3 h4) (And.intro h5 (And.intro (gi_map Leg.enc h7) (And.intro (shrM_run (P := Try.prog) (t := 3) (x := .tmp 0) (y := .tmp 0) h9) (And.intro h10 True.intro)))))))) (by kernel_rfl)
        · have K1 : ∀ (_ : Unit), impl_runs_L1_a = some r → Gr R [.code (cAt Try.f94 [1, 1, 1])] (⟨[], []⟩) := by
            intro _ hM
            unfold impl_runs_L1_a at hM
            have hE : some true = some r := hM
            have hE := Option.some.inj hE
            subst hE
            exact pr R 9999 [] [] [] [] True.intro (by kernel_rfl)
          refine pc R 9999 [.new 0, .as 11 false, .ln (a0.Legs.length), .as 18 false, .call false [] (.o (.c (.v (.bool v3)))) [] [], .as 23 false, .ix (Leg.enc v6), .run 32 (.int .i64 v8), .as 35 false, .ln (a0.Off.length)] [.keep [2, 37, 38, 39] []] (k' := [.code (.loop (cAt Try.f94 [1, 1, 0, 1, 0, 0])), .blk 0, .code (cAt Try.f94 [1, 1, 1])]) (S' := impl_runs_L1_S a0 a2 0) (And.intro h1 (And.intro (lenm Leg.enc a0.Legs) (And.intro h2 (And.intro (impl_within_ok a2 0 60 v3 h4) (And.intro h5 (And.intro (gi_map Leg.enc h7) (And.intro (shrM_run (P := Try.prog) (t := 3) (x := .tmp 0) (y := .tmp 0) h9) (And.intro h10 (And.intro (lenm encI a0.Off) True.intro))))))))) (by kernel_rfl) ?_
          refine lq (impl_runs_L1_S a0 a2) (body := impl_runs_L1 a0 a2) (k := impl_runs_L1_k) hM fun m1 s c1 hM hK1 => ?_
          obtain ⟨s11, hs⟩ : ∃ z, z = s := ⟨_, rfl⟩
          subst hs
          have hM : impl_runs_L1_b a0 a2 s11 = some c1 := hM
          unfold impl_runs_L1_b at hM
          rcases cond_cases hM with ⟨h12, hM⟩ | ⟨h12, hM⟩
          · obtain ⟨v13, h14, hM⟩ := bind_some hM
            rcases cond_cases hM with ⟨h15, hM⟩ | ⟨h15, hM⟩
            · have hE : some (Ctl.ret false) = some c1 := hM
              have hE := Option.some.inj hE
              subst hE
              have hE : some false = some r := hK1
              have hE := Option.some.inj hE
              subst hE
              exact pr R 9999 [.as 40 true, .ix (encI v13), .as 45 true] [] [] [] (And.intro h12 (And.intro (gi_map encI h14) (And.intro h15 True.intro))) (by kernel_rfl)
            · have hE : some (Ctl.next (w64 (s11 + 1))) = some c1 := hM
              have hE := Option.some.inj hE
              subst hE
              exact pc R 9999 [.as 40 true, .ix (encI v13), .as 45 false] [.keep [2, 37, 38, 39] []] (And.intro h12 (And.intro (gi_map encI h14) (And.intro h15 True.intro))) (by kernel_rfl) (li (Sf := impl_runs_L1_S a0 a2) (M := Mk (impl_runs_L1 a0 a2) (impl_runs_L1_k) r) (k := [.blk 0, .code (cAt Try.f94 [1, 1, 1])]) (Nat.lt_succ_self m1) hK1)
          · have hE : some (Ctl.brk ()) = some c1 := hM
            have hE := Option.some.inj hE
            subst hE
            exact pc R 5 [.as 40 false] [.keep [] []] (And.intro h12 True.intro) (by kernel_rfl) (K1 () hK1)

-- loop.example/g03014/impl.RunsOn
def impl_RunsOn (a0 : Network) (a1 : Int) (a2 : Int) : Option Bool :=
  (impl_IsNetwork a0).bind fun v1 =>
  bif v1 then
  (impl_runs a0 a1 a2).bind fun v4 =>
  some v4
  else
  some false
theorem impl_RunsOn_ok (a0 : Network) (a1 : Int) (a2 : Int) (r : Bool) (hM : impl_RunsOn a0 a1 a2 = some r) :
    Con Try.prog 87 [.agg [.rs 6 (a0.Legs.map Leg.enc), .rs 1 (a0.Off.map encI), .v (.int .i64 a0.Change)], .c (.v (.int .i64 a1)), .c (.v (.int .i64 a2))] [] (.o (.c (.v (.bool r)))) [] [] := by
  unfold impl_RunsOn at hM
  refine cn (N := 15) (pids := []) Try_mixed Try.func87 (by kernel_rfl) (by kernel_rfl) (by kernel_rfl) rfl fun ρ g w R => ?_
  obtain ⟨v1, h2, hM⟩ := bind_some hM
  rcases cond_cases hM with ⟨h3, hM⟩ | ⟨h3, hM⟩
  · obtain ⟨v4, h5, hM⟩ := bind_some hM
    have hE : some v4 = some r := hM
    have hE := Option.some.inj hE
    subst hE
    exact pr R 9999 [.new 0, .call false [] (.o (.c (.v (.bool v1)))) [] [], .as 9 true, .call false [] (.o (.c (.v (.bool v4)))) [] []] [] [] [] (And.intro (impl_IsNetwork_ok a0 v1 h2) (And.intro h3 (And.intro (impl_runs_ok a0 a1 a2 v4 h5) True.intro))) (by kernel_rfl)
  · have hE : some false = some r := hM
    have hE := Option.some.inj hE
    subst hE
    exact pr R 9999 [.new 0, .call false [] (.o (.c (.v (.bool v1)))) [] [], .as 9 false] [] [] [] (And.intro (impl_IsNetwork_ok a0 v1 h2) (And.intro h3 True.intro)) (by kernel_rfl)

-- loop.example/g03014/impl.IsTrip
def impl_IsTrip (a0 : Network) (a1 : Trip) : Option Bool :=
  (impl_RunsOn a0 a1.Leg a1.Day).bind fun v1 =>
  some v1
theorem impl_IsTrip_ok (a0 : Network) (a1 : Trip) (r : Bool) (hM : impl_IsTrip a0 a1 = some r) :
    Con Try.prog 68 [.agg [.rs 6 (a0.Legs.map Leg.enc), .rs 1 (a0.Off.map encI), .v (.int .i64 a0.Change)], .c (.v (.agg (Trip.enc a1).toArray))] [] (.o (.c (.v (.bool r)))) [] [] := by
  unfold impl_IsTrip at hM
  refine cn (N := 11) (pids := []) Try_mixed Try.func68 (by kernel_rfl) (by kernel_rfl) (by kernel_rfl) rfl fun ρ g w R => ?_
  obtain ⟨v1, h2, hM⟩ := bind_some hM
  have hE : some v1 = some r := hM
  have hE := Option.some.inj hE
  subst hE
  exact pr R 9999 [.new 0, .new 1, .call false [] (.o (.c (.v (.bool v1)))) [] []] [] [] [] (And.intro (impl_RunsOn_ok a0 a1.Leg a1.Day v1 h2) True.intro) (by kernel_rfl)

-- loop.example/g03014/impl.starts
def impl_starts (a0 : Network) (a1 : Trip) : Option Int :=
  (gi a0.Legs a1.Leg).bind fun v1 =>
  some (w64 ((w64 (a1.Day * 1440)) + v1.Start))
theorem impl_starts_ok (a0 : Network) (a1 : Trip) (r : Int) (hM : impl_starts a0 a1 = some r) :
    Con Try.prog 72 [.agg [.rs 6 (a0.Legs.map Leg.enc), .rs 1 (a0.Off.map encI), .v (.int .i64 a0.Change)], .c (.v (.agg (Trip.enc a1).toArray))] [] (.o (.c (.v (.int .i64 r)))) [] [] := by
  unfold impl_starts at hM
  refine cn (N := 16) (pids := []) Try_mixed Try.func72 (by kernel_rfl) (by kernel_rfl) (by kernel_rfl) rfl fun ρ g w R => ?_
  obtain ⟨v1, h2, hM⟩ := bind_some hM
  have hE : some (w64 ((w64 (a1.Day * 1440)) + v1.Start)) = some r := hM
  have hE := Option.some.inj hE
  subst hE
  exact pr R 9999 [.new 0, .new 1, .ix (Leg.enc v1)] [] [] [] (And.intro (gi_map Leg.enc h2) True.intro) (by kernel_rfl)

-- loop.example/g03014/impl.ends
def impl_ends (a0 : Network) (a1 : Trip) : Option Int :=
  (impl_starts a0 a1).bind fun v1 =>
  (gi a0.Legs a1.Leg).bind fun v3 =>
  some (w64 (v1 + v3.Takes))
theorem impl_ends_ok (a0 : Network) (a1 : Trip) (r : Int) (hM : impl_ends a0 a1 = some r) :
    Con Try.prog 69 [.agg [.rs 6 (a0.Legs.map Leg.enc), .rs 1 (a0.Off.map encI), .v (.int .i64 a0.Change)], .c (.v (.agg (Trip.enc a1).toArray))] [] (.o (.c (.v (.int .i64 r)))) [] [] := by
  unfold impl_ends at hM
  refine cn (N := 16) (pids := []) Try_mixed Try.func69 (by kernel_rfl) (by kernel_rfl) (by kernel_rfl) rfl fun ρ g w R => ?_
  obtain ⟨v1, h2, hM⟩ := bind_some hM
  obtain ⟨v3, h4, hM⟩ := bind_some hM
  have hE : some (w64 (v1 + v3.Takes)) = some r := hM
  have hE := Option.some.inj hE
  subst hE
  exact pr R 9999 [.new 0, .new 1, .call false [] (.o (.c (.v (.int .i64 v1)))) [] [], .ix (Leg.enc v3)] [] [] [] (And.intro (impl_starts_ok a0 a1 v1 h2) (And.intro (gi_map Leg.enc h4) True.intro)) (by kernel_rfl)
end Go.Sx
