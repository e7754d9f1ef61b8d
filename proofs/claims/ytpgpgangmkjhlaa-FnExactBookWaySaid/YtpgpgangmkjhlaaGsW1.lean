/- The functions of the program as plain Lean, and that each runs so (printed by wip/gen). -/
import Derived.Test.YtpgpgangmkjhlaaSxR
import Derived.Test.YtpgpgangmkjhlaaSxS
import Derived.Laws.StructEq
import Derived.Test.YtpgpgangmkjhlaaProg
namespace Go.Sx
open Go.Proofs
set_option linter.unusedVariables false
set_option maxRecDepth 100000
end Go.Sx
namespace Go.Proofs
open Go.Shelf
def Try.slays8_ren : Go.Shelf.Ren := ⟨fun | 8 => 40 | 13 => 72 | 14 => 73 | 16 => 75 | 15 => 74 | 29 => 100 | 30 => 101 | 42 => 113 | 49 => 121 | n => n, fun | 20 => 20 | 26 => 74 | 36 => 106 | 0 => 0 | 38 => 108 | 42 => 112 | 3 => 3 | 4 => 4 | 47 => 139 | 17 => 17 | 33 => 103 | 34 => 104 | 89 => 164 | 12 => 12 | 56 => 156 | 82 => 157 | 5 => 5 | 83 => 158 | 84 => 159 | 85 => 160 | 86 => 161 | 87 => 162 | n => n, fun | n => n⟩
theorem Try.slays8 : Go.Proofs.LaysGt.n8 Try.prog Try.slays8_ren := {
  mixed := by kernel_rfl
  f8 := Try.func40.trans (congrArg some (by kernel_rfl))
  f13 := Try.func72.trans (congrArg some (by kernel_rfl))
  f14 := Try.func73.trans (congrArg some (by kernel_rfl))
  f15 := Try.func74.trans (congrArg some (by kernel_rfl))
  f16 := Try.func75.trans (congrArg some (by kernel_rfl))
  f29 := Try.func100.trans (congrArg some (by kernel_rfl))
  f30 := Try.func101.trans (congrArg some (by kernel_rfl))
  f42 := Try.func113.trans (congrArg some (by kernel_rfl))
  f49 := Try.func121.trans (congrArg some (by kernel_rfl))
  t0 := Try.underlying0
  a0 := Try.isAgg0
  z0 := Try.sizeOf0
  v0 := Try.zeroValue0
  i0 := by kernel_rfl
  t3 := Try.underlying3
  a3 := Try.isAgg3
  z3 := Try.sizeOf3
  v3 := Try.zeroValue3
  i3 := by kernel_rfl
  t4 := Try.underlying4
  a4 := Try.isAgg4
  z4 := Try.sizeOf4
  v4 := Try.zeroValue4
  i4 := by kernel_rfl
  t5 := Try.underlying5
  a5 := Try.isAgg5
  z5 := Try.sizeOf5
  v5 := Try.zeroValue5
  i5 := by kernel_rfl
  t12 := Try.underlying12
  a12 := Try.isAgg12
  z12 := Try.sizeOf12
  v12 := Try.zeroValue12
  i12 := by kernel_rfl
  t17 := Try.underlying17
  a17 := Try.isAgg17
  z17 := Try.sizeOf17
  v17 := Try.zeroValue17
  i17 := by kernel_rfl
  t20 := Try.underlying20
  a20 := Try.isAgg20
  z20 := Try.sizeOf20
  v20 := Try.zeroValue20
  i20 := by kernel_rfl
  t26 := Try.underlying74
  a26 := Try.isAgg74
  z26 := Try.sizeOf74
  v26 := Try.zeroValue74
  i26 := by kernel_rfl
  t33 := Try.underlying103
  a33 := Try.isAgg103
  z33 := Try.sizeOf103
  v33 := Try.zeroValue103
  i33 := by kernel_rfl
  t34 := Try.underlying104
  a34 := Try.isAgg104
  z34 := Try.sizeOf104
  v34 := Try.zeroValue104
  i34 := by kernel_rfl
  t36 := Try.underlying106
  a36 := Try.isAgg106
  z36 := Try.sizeOf106
  v36 := Try.zeroValue106
  i36 := by kernel_rfl
  t38 := Try.underlying108
  a38 := Try.isAgg108
  z38 := Try.sizeOf108
  v38 := Try.zeroValue108
  i38 := by kernel_rfl
  t42 := Try.underlying112
  a42 := Try.isAgg112
  z42 := Try.sizeOf112
  v42 := Try.zeroValue112
  i42 := by kernel_rfl
  t47 := Try.underlying139
  a47 := Try.isAgg139
  z47 := Try.sizeOf139
  v47 := Try.zeroValue139
  i47 := by kernel_rfl
  t56 := Try.underlying156
  a56 := Try.isAgg156
  z56 := Try.sizeOf156
  v56 := Try.zeroValue156
  i56 := by kernel_rfl
  t82 := Try.underlying157
  a82 := Try.isAgg157
  z82 := Try.sizeOf157
  v82 := Try.zeroValue157
  i82 := by kernel_rfl
  t83 := Try.underlying158
  a83 := Try.isAgg158
  z83 := Try.sizeOf158
  v83 := Try.zeroValue158
  i83 := by kernel_rfl
  t84 := Try.underlying159
  a84 := Try.isAgg159
  z84 := Try.sizeOf159
  v84 := Try.zeroValue159
  i84 := by kernel_rfl
  t85 := Try.underlying160
  a85 := Try.isAgg160
  z85 := Try.sizeOf160
  v85 := Try.zeroValue160
  i85 := by kernel_rfl
  t86 := Try.underlying161
  a86 := Try.isAgg161
  z86 := Try.sizeOf161
  v86 := Try.zeroValue161
  i86 := by kernel_rfl
  t87 := Try.underlying162
  a87 := Try.isAgg162
  z87 := Try.sizeOf162
  v87 := Try.zeroValue162
  i87 := by kernel_rfl
  t89 := Try.underlying164
  a89 := Try.isAgg164
  z89 := Try.sizeOf164
  v89 := Try.zeroValue164
  i89 := by kernel_rfl }
end Go.Proofs
namespace Go.Sx
open Go.Proofs
set_option linter.unusedVariables false
theorem Try_mixed : Try.prog.follows .mixedOrders = true := by kernel_rfl
structure Leg where
  From : ByteArray
  To : ByteArray
  Start : Int
  Takes : Int
  Days : Int
  Room : Int
  deriving DecidableEq, Inhabited
def Leg.enc (x : Leg) : List Value := [.string x.From, .string x.To, .int .i64 x.Start, .int .i64 x.Takes, .int .i64 x.Days, .int .i64 x.Room]
structure Network where
  Legs : (List Leg)
  Off : (List Int)
  Change : Int
  deriving DecidableEq, Inhabited
structure Trip where
  Leg : Int
  Day : Int
  deriving DecidableEq, Inhabited
def Trip.enc (x : Trip) : List Value := [.int .i64 x.Leg, .int .i64 x.Day]
structure Booking where
  Thing : Int
  Trip : Trip
  Weight : Int
  deriving DecidableEq, Inhabited
def Booking.enc (x : Booking) : List Value := [.int .i64 x.Thing, .int .i64 x.Trip.Leg, .int .i64 x.Trip.Day, .int .i64 x.Weight]
structure l1Cur where
  b : (List Int)
  i : Int
  h : Int
  deriving DecidableEq, Inhabited
theorem Trip_eql55 (a b : Trip) : ∀ w, (do let r ← (do eqGuard .eql 55 (.tmp 0) (.tmp 0) (.agg (Trip.enc a).toArray) (.agg (Trip.enc b).toArray); binOp .eql 55 (.agg (Trip.enc a).toArray) (.agg (Trip.enc b).toArray)); pure (Next.value r) : Sem Next).run Try.prog w = .ok (.value (.bool (decide (a = b)))) w := by
  intro w
  simp only [Sem.run_bind]
  rw [run_eqGuard_agg w _ _ _ _ _ _ (by kernel_rfl)]
  simp only [Result.andThen_ok]
  rw [run_eql_struct, run_equalIn_struct w _ _ _ _ (by kernel_rfl) (by kernel_rfl)]
  have i3 : ∀ (x y : Int) (w : World), (Op.equalIn 9999 3 (.int .i64 x) (.int .i64 y)).run Try.prog w = .ok (x == y) w := fun x y w => run_equalIn_int w 9998 3 .i64 .i64 x y Try.underlying3
  simp [Program.fieldsOf, Try.underlying55, Op.eqFields, part, Sem.run_bind, Trip.enc, isAgg, Result.andThen, i3]
  obtain ⟨x0, x1⟩ := a
  obtain ⟨y0, y1⟩ := b
  simp only [Trip.mk.injEq]
  by_cases h0 : x0 = y0 <;> simp [h0]
  by_cases h1 : x1 = y1 <;> simp [h1]


-- loop.example/g03014/laws.szLeg
def laws_szLeg (a0 : Leg) (a1 : Int) : Option Int :=
  bif (decide ((w64 (a1 - (a0.From.size : Int))) < 0)) then
  some (-1)
  else
  bif (decide ((w64 ((w64 (a1 - (a0.From.size : Int))) - (a0.To.size : Int))) < 0)) then
  some (-1)
  else
  some (w64 ((w64 (a1 - (a0.From.size : Int))) - (a0.To.size : Int)))
theorem laws_szLeg_ok (a0 : Leg) (a1 : Int) (r : Int) (hM : laws_szLeg a0 a1 = some r) :
    Con Try.prog 65 [.c (.v (.agg (Leg.enc a0).toArray)), .c (.v (.int .i64 a1))] [] (.o (.c (.v (.int .i64 r)))) [] [] := by
  unfold laws_szLeg at hM
  refine cn (N := 20) (pids := []) Try_mixed Try.func65 (by kernel_rfl) (by kernel_rfl) (by kernel_rfl) rfl fun ρ g w R => ?_
  rcases cond_cases hM with ⟨h1, hM⟩ | ⟨h1, hM⟩
  · have hE : some (-1) = some r := hM
    have hE := Option.some.inj hE
    subst hE
    exact pr R 9999 [.new 0, .as 11 true] [] [] [] (And.intro h1 True.intro) (by kernel_rfl)
  · rcases cond_cases hM with ⟨h2, hM⟩ | ⟨h2, hM⟩
    · have hE : some (-1) = some r := hM
      have hE := Option.some.inj hE
      subst hE
      exact pr R 9999 [.new 0, .as 11 false, .as 18 true] [] [] [] (And.intro h1 (And.intro h2 True.intro)) (by kernel_rfl)
    · have hE : some (w64 ((w64 (a1 - (a0.From.size : Int))) - (a0.To.size : Int))) = some r := hM
      have hE := Option.some.inj hE
      subst hE
      exact pr R 9999 [.new 0, .as 11 false, .as 18 false] [] [] [] (And.intro h1 (And.intro h2 True.intro)) (by kernel_rfl)

-- loop.example/g03014/laws.szLegS
def laws_szLegS_L1_b (a0 : (List Leg)) (s2 : Int) (s3 : Int) : Option (Ctl (Int × Int) Int Int) :=
  bif (decide (s3 < (a0.length : Int))) then
  (gi a0 s3).bind fun v6 =>
  (laws_szLeg v6 s2).bind fun v8 =>
  bif (decide (v8 < 0)) then
  some (.ret (-1))
  else
  some (.next (v8, w64 (s3 + 1)))
  else
  some (.brk s2)
def laws_szLegS_L1 (a0 : (List Leg)) (s : Int × Int) : Option (Ctl (Int × Int) Int Int) := laws_szLegS_L1_b a0 s.1 s.2
def laws_szLegS_L1_s (a0 : (List Leg)) (s2 : Int) (s3 : Int) : St := ⟨[(0, .o (.c (.rs 6 (a0.map Leg.enc)))), (1, .o (.c (.v (.int .i64 s2)))), (5, .o (.c (.v (.int .i64 s3))))], []⟩
def laws_szLegS_L1_S (a0 : (List Leg)) (s : Int × Int) : St := laws_szLegS_L1_s a0 s.1 s.2
def laws_szLegS_L1_a (s4 : Int) : Option Int :=
  some s4
def laws_szLegS_L1_k (x : (Int) ⊕ (Int)) : Option Int := match x with
  | .inl t => laws_szLegS_L1_a t
  | .inr y => some y
def laws_szLegS (a0 : (List Leg)) (a1 : Int) : Option Int :=
  bif (decide ((w64 (a1 - (a0.length : Int))) < 0)) then
  some (-1)
  else
  (loopM (laws_szLegS_L1 a0) big (w64 (a1 - (a0.length : Int)), 0)).bind (laws_szLegS_L1_k)
theorem laws_szLegS_ok (a0 : (List Leg)) (a1 : Int) (r : Int) (hM : laws_szLegS a0 a1 = some r) :
    Con Try.prog 30 [.c (.rs 6 (a0.map Leg.enc)), .c (.v (.int .i64 a1))] [] (.o (.c (.v (.int .i64 r)))) [] [] := by
  unfold laws_szLegS at hM
  refine cn (N := 27) (pids := []) Try_mixed Try.func30 (by kernel_rfl) (by kernel_rfl) (by kernel_rfl) rfl fun ρ g w R => ?_
  rcases cond_cases hM with ⟨h1, hM⟩ | ⟨h1, hM⟩
  · have hE : some (-1) = some r := hM
    have hE := Option.some.inj hE
    subst hE
    exact pr R 9999 [.ln (a0.length), .as 11 true] [] [] [] (And.intro (lenm Leg.enc a0) (And.intro h1 True.intro)) (by kernel_rfl)
  · have K1 : ∀ (s4 : Int), laws_szLegS_L1_a s4 = some r → Gr R [.code (cAt Try.f30 [1, 1, 1, 1])] (⟨[(1, .o (.c (.v (.int .i64 s4))))], []⟩) := by
      intro s4 hM
      unfold laws_szLegS_L1_a at hM
      have hE : some s4 = some r := hM
      have hE := Option.some.inj hE
      subst hE
      exact pr R 9999 [] [] [] [] True.intro (by kernel_rfl)
    refine pc R 9999 [.ln (a0.length), .as 11 false] [.keep [0, 1, 5] []] (k' := [.code (.loop (cAt Try.f30 [1, 1, 1, 0, 1, 0, 0])), .blk 0, .code (cAt Try.f30 [1, 1, 1, 1])]) (S' := laws_szLegS_L1_S a0 (w64 (a1 - (a0.length : Int)), 0)) (And.intro (lenm Leg.enc a0) (And.intro h1 True.intro)) (by kernel_rfl) ?_
    refine lq (laws_szLegS_L1_S a0) (body := laws_szLegS_L1 a0) (k := laws_szLegS_L1_k) hM fun m1 s c1 hM hK1 => ?_
    obtain ⟨s2, s3⟩ := s
    have hM : laws_szLegS_L1_b a0 s2 s3 = some c1 := hM
    unfold laws_szLegS_L1_b at hM
    rcases cond_cases hM with ⟨h5, hM⟩ | ⟨h5, hM⟩
    · obtain ⟨v6, h7, hM⟩ := bind_some hM
      obtain ⟨v8, h9, hM⟩ := bind_some hM
      rcases cond_cases hM with ⟨h10, hM⟩ | ⟨h10, hM⟩
      · have hE : some (Ctl.ret (-1)) = some c1 := hM
        have hE := Option.some.inj hE
        subst hE
        have hE : some (-1) = some r := hK1
        have hE := Option.some.inj hE
        subst hE
        exact pr R 9999 [.ln (a0.length), .as 15 true, .ix (Leg.enc v6), .call false [] (.o (.c (.v (.int .i64 v8)))) [] [], .as 25 true] [] [] [] (And.intro (lenm Leg.enc a0) (And.intro h5 (And.intro (gi_map Leg.enc h7) (And.intro (laws_szLeg_ok v6 s2 v8 h9) (And.intro h10 True.intro))))) (by kernel_rfl)
      · have hE : some (Ctl.next (v8, w64 (s3 + 1))) = some c1 := hM
        have hE := Option.some.inj hE
        subst hE
        exact pc R 9999 [.ln (a0.length), .as 15 true, .ix (Leg.enc v6), .call false [] (.o (.c (.v (.int .i64 v8)))) [] [], .as 25 false] [.keep [0, 1, 5] []] (And.intro (lenm Leg.enc a0) (And.intro h5 (And.intro (gi_map Leg.enc h7) (And.intro (laws_szLeg_ok v6 s2 v8 h9) (And.intro h10 True.intro))))) (by kernel_rfl) (li (Sf := laws_szLegS_L1_S a0) (M := Mk (laws_szLegS_L1 a0) (laws_szLegS_L1_k) r) (k := [.blk 0, .code (cAt Try.f30 [1, 1, 1, 1])]) (Nat.lt_succ_self m1) hK1)
    · have hE : some (Ctl.brk s2) = some c1 := hM
      have hE := Option.some.inj hE
      subst hE
      exact pc R 5 [.ln (a0.length), .as 15 false] [.keep [1] []] (And.intro (lenm Leg.enc a0) (And.intro h5 True.intro)) (by kernel_rfl) (K1 s2 hK1)

-- loop.example/g03014/laws.szIntS
def laws_szIntS (a0 : (List Int)) (a1 : Int) : Option Int :=
  bif (decide ((w64 (a1 - (a0.length : Int))) < 0)) then
  some (-1)
  else
  some (w64 (a1 - (a0.length : Int)))
theorem laws_szIntS_ok (a0 : (List Int)) (a1 : Int) (r : Int) (hM : laws_szIntS a0 a1 = some r) :
    Con Try.prog 31 [.c (.rs 1 (a0.map encI)), .c (.v (.int .i64 a1))] [] (.o (.c (.v (.int .i64 r)))) [] [] := by
  unfold laws_szIntS at hM
  refine cn (N := 12) (pids := []) Try_mixed Try.func31 (by kernel_rfl) (by kernel_rfl) (by kernel_rfl) rfl fun ρ g w R => ?_
  rcases cond_cases hM with ⟨h1, hM⟩ | ⟨h1, hM⟩
  · have hE : some (-1) = some r := hM
    have hE := Option.some.inj hE
    subst hE
    exact pr R 9999 [.ln (a0.length), .as 10 true] [] [] [] (And.intro (lenm encI a0) (And.intro h1 True.intro)) (by kernel_rfl)
  · have hE : some (w64 (a1 - (a0.length : Int))) = some r := hM
    have hE := Option.some.inj hE
    subst hE
    exact pr R 9999 [.ln (a0.length), .as 10 false] [] [] [] (And.intro (lenm encI a0) (And.intro h1 True.intro)) (by kernel_rfl)

-- loop.example/g03014/laws.szNetwork
def laws_szNetwork (a0 : Network) (a1 : Int) : Option Int :=
  (laws_szLegS a0.Legs a1).bind fun v1 =>
  bif (decide (v1 < 0)) then
  some (-1)
  else
  (laws_szIntS a0.Off v1).bind fun v4 =>
  bif (decide (v4 < 0)) then
  some (-1)
  else
  some v4
theorem laws_szNetwork_ok (a0 : Network) (a1 : Int) (r : Int) (hM : laws_szNetwork a0 a1 = some r) :
    Con Try.prog 6 [.agg [.rs 6 (a0.Legs.map Leg.enc), .rs 1 (a0.Off.map encI), .v (.int .i64 a0.Change)], .c (.v (.int .i64 a1))] [] (.o (.c (.v (.int .i64 r)))) [] [] := by
  unfold laws_szNetwork at hM
  refine cn (N := 18) (pids := []) Try_mixed Try.func6 (by kernel_rfl) (by kernel_rfl) (by kernel_rfl) rfl fun ρ g w R => ?_
  obtain ⟨v1, h2, hM⟩ := bind_some hM
  rcases cond_cases hM with ⟨h3, hM⟩ | ⟨h3, hM⟩
  · have hE : some (-1) = some r := hM
    have hE := Option.some.inj hE
    subst hE
    exact pr R 9999 [.new 0, .call false [] (.o (.c (.v (.int .i64 v1)))) [] [], .as 10 true] [] [] [] (And.intro (laws_szLegS_ok a0.Legs a1 v1 h2) (And.intro h3 True.intro)) (by kernel_rfl)
  · obtain ⟨v4, h5, hM⟩ := bind_some hM
    rcases cond_cases hM with ⟨h6, hM⟩ | ⟨h6, hM⟩
    · have hE : some (-1) = some r := hM
      have hE := Option.some.inj hE
      subst hE
      exact pr R 9999 [.new 0, .call false [] (.o (.c (.v (.int .i64 v1)))) [] [], .as 10 false, .call false [] (.o (.c (.v (.int .i64 v4)))) [] [], .as 16 true] [] [] [] (And.intro (laws_szLegS_ok a0.Legs a1 v1 h2) (And.intro h3 (And.intro (laws_szIntS_ok a0.Off v1 v4 h5) (And.intro h6 True.intro)))) (by kernel_rfl)
    · have hE : some v4 = some r := hM
      have hE := Option.some.inj hE
      subst hE
      exact pr R 9999 [.new 0, .call false [] (.o (.c (.v (.int .i64 v1)))) [] [], .as 10 false, .call false [] (.o (.c (.v (.int .i64 v4)))) [] [], .as 16 false] [] [] [] (And.intro (laws_szLegS_ok a0.Legs a1 v1 h2) (And.intro h3 (And.intro (laws_szIntS_ok a0.Off v1 v4 h5) (And.intro h6 True.intro)))) (by kernel_rfl)

-- loop.example/g03014/laws.szBookingS
def laws_szBookingS (a0 : (List Booking)) (a1 : Int) : Option Int :=
  bif (decide ((w64 (a1 - (a0.length : Int))) < 0)) then
  some (-1)
  else
  some (w64 (a1 - (a0.length : Int)))
theorem laws_szBookingS_ok (a0 : (List Booking)) (a1 : Int) (r : Int) (hM : laws_szBookingS a0 a1 = some r) :
    Con Try.prog 7 [.c (.rs 4 (a0.map Booking.enc)), .c (.v (.int .i64 a1))] [] (.o (.c (.v (.int .i64 r)))) [] [] := by
  unfold laws_szBookingS at hM
  refine cn (N := 12) (pids := []) Try_mixed Try.func7 (by kernel_rfl) (by kernel_rfl) (by kernel_rfl) rfl fun ρ g w R => ?_
  rcases cond_cases hM with ⟨h1, hM⟩ | ⟨h1, hM⟩
  · have hE : some (-1) = some r := hM
    have hE := Option.some.inj hE
    subst hE
    exact pr R 9999 [.ln (a0.length), .as 10 true] [] [] [] (And.intro (lenm Booking.enc a0) (And.intro h1 True.intro)) (by kernel_rfl)
  · have hE : some (w64 (a1 - (a0.length : Int))) = some r := hM
    have hE := Option.some.inj hE
    subst hE
    exact pr R 9999 [.ln (a0.length), .as 10 false] [] [] [] (And.intro (lenm Booking.enc a0) (And.intro h1 True.intro)) (by kernel_rfl)

-- loop.example/g03014/laws.szTripS
def laws_szTripS (a0 : (List Trip)) (a1 : Int) : Option Int :=
  bif (decide ((w64 (a1 - (a0.length : Int))) < 0)) then
  some (-1)
  else
  some (w64 (a1 - (a0.length : Int)))
theorem laws_szTripS_ok (a0 : (List Trip)) (a1 : Int) (r : Int) (hM : laws_szTripS a0 a1 = some r) :
    Con Try.prog 8 [.c (.rs 2 (a0.map Trip.enc)), .c (.v (.int .i64 a1))] [] (.o (.c (.v (.int .i64 r)))) [] [] := by
  unfold laws_szTripS at hM
  refine cn (N := 12) (pids := []) Try_mixed Try.func8 (by kernel_rfl) (by kernel_rfl) (by kernel_rfl) rfl fun ρ g w R => ?_
  rcases cond_cases hM with ⟨h1, hM⟩ | ⟨h1, hM⟩
  · have hE : some (-1) = some r := hM
    have hE := Option.some.inj hE
    subst hE
    exact pr R 9999 [.ln (a0.length), .as 10 true] [] [] [] (And.intro (lenm Trip.enc a0) (And.intro h1 True.intro)) (by kernel_rfl)
  · have hE : some (w64 (a1 - (a0.length : Int))) = some r := hM
    have hE := Option.some.inj hE
    subst hE
    exact pr R 9999 [.ln (a0.length), .as 10 false] [] [] [] (And.intro (lenm Trip.enc a0) (And.intro h1 True.intro)) (by kernel_rfl)

-- loop.example/g03014/laws.toLeg
def laws_toLeg (a0 : Leg) : Option Leg :=
  some a0
theorem laws_toLeg_ok (a0 : Leg) (r : Leg) (hM : laws_toLeg a0 = some r) :
    Con Try.prog 71 [.c (.v (.agg (Leg.enc a0).toArray))] [] (.o (.c (.v (.agg (Leg.enc r).toArray)))) [] [] := by
  unfold laws_toLeg at hM
  refine cn (N := 23) (pids := []) Try_mixed Try.func71 (by kernel_rfl) (by kernel_rfl) (by kernel_rfl) rfl fun ρ g w R => ?_
  have hE : some a0 = some r := hM
  have hE := Option.some.inj hE
  subst hE
  exact pr R 9999 [.new 0, .new 1, .new 2] [] [] [] True.intro (by kernel_rfl)

-- loop.example/g03014/laws.toLegS
def laws_toLegS_L1_b (a0 : (List Leg)) (s3 : (List Leg)) (s4 : Int) : Option (Ctl ((List Leg) × Int) (List Leg) (List Leg)) :=
  bif (decide (s4 < (a0.length : Int))) then
  (gi a0 s4).bind fun v7 =>
  (laws_toLeg v7).bind fun v9 =>
  (gi s3 s4).bind fun v11 =>
  some (.next (List.set s3 (Int.toNat s4) v9, w64 (s4 + 1)))
  else
  some (.brk s3)
def laws_toLegS_L1 (a0 : (List Leg)) (s : (List Leg) × Int) : Option (Ctl ((List Leg) × Int) (List Leg) (List Leg)) := laws_toLegS_L1_b a0 s.1 s.2
def laws_toLegS_L1_s (a0 : (List Leg)) (s3 : (List Leg)) (s4 : Int) : St := ⟨[(0, .o (.c (.rs 6 (a0.map Leg.enc)))), (3, .o (.c (.sl 0))), (4, .o (.c (.v (.int .i64 s4))))], [(0, .row 95 6 (s3.map Leg.enc))]⟩
def laws_toLegS_L1_S (a0 : (List Leg)) (s : (List Leg) × Int) : St := laws_toLegS_L1_s a0 s.1 s.2
def laws_toLegS_L1_a (s5 : (List Leg)) : Option (List Leg) :=
  some s5
def laws_toLegS_L1_k (x : ((List Leg)) ⊕ ((List Leg))) : Option (List Leg) := match x with
  | .inl t => laws_toLegS_L1_a t
  | .inr y => some y
def laws_toLegS (a0 : (List Leg)) : Option (List Leg) :=
  ((mkM 64 (a0.length : Int) : Option (List Leg))).bind fun v1 =>
  (loopM (laws_toLegS_L1 a0) big (v1, 0)).bind (laws_toLegS_L1_k)
theorem laws_toLegS_ok (a0 : (List Leg)) (r : (List Leg)) (hM : laws_toLegS a0 = some r) :
    Con Try.prog 35 [.c (.rs 6 (a0.map Leg.enc))] [] (.o (.c (.sl 1000))) [] [(1000, .row 95 6 (r.map Leg.enc))] := by
  unfold laws_toLegS at hM
  refine cn (N := 23) (pids := []) Try_mixed Try.func35 (by kernel_rfl) (by kernel_rfl) (by kernel_rfl) rfl fun ρ g w R => ?_
  obtain ⟨v1, h2, hM⟩ := bind_some hM
  have K1 : ∀ (s5 : (List Leg)), laws_toLegS_L1_a s5 = some r → Gr R [.code (cAt Try.f35 [1, 1, 1])] (⟨[(3, .o (.c (.sl 0)))], [(0, .row 95 6 (s5.map Leg.enc))]⟩) := by
    intro s5 hM
    unfold laws_toLegS_L1_a at hM
    have hE : some s5 = some r := hM
    have hE := Option.some.inj hE
    subst hE
    exact pr R 9999 [] [.sw 0 1000] [] [1000] True.intro (by kernel_rfl)
  refine pc R 9999 [.ln (a0.length), .new 0, .nm (v1.map Leg.enc)] [.keep [0, 3, 4] [0]] (k' := [.code (.loop (cAt Try.f35 [1, 1, 0, 1, 0, 0])), .blk 0, .code (cAt Try.f35 [1, 1, 1])]) (S' := laws_toLegS_L1_S a0 (v1, 0)) (And.intro (lenm Leg.enc a0) (And.intro (mkM_ok Leg.enc h2) True.intro)) (by kernel_rfl) ?_
  refine lq (laws_toLegS_L1_S a0) (body := laws_toLegS_L1 a0) (k := laws_toLegS_L1_k) hM fun m1 s c1 hM hK1 => ?_
  obtain ⟨s3, s4⟩ := s
  have hM : laws_toLegS_L1_b a0 s3 s4 = some c1 := hM
  unfold laws_toLegS_L1_b at hM
  rcases cond_cases hM with ⟨h6, hM⟩ | ⟨h6, hM⟩
  · obtain ⟨v7, h8, hM⟩ := bind_some hM
    obtain ⟨v9, h10, hM⟩ := bind_some hM
    obtain ⟨v11, h12, hM⟩ := bind_some hM
    have hE : some (Ctl.next (List.set s3 (Int.toNat s4) v9, w64 (s4 + 1))) = some c1 := hM
    have hE := Option.some.inj hE
    subst hE
    exact pc R 9999 [.ln (a0.length), .as 11 true, .ix (Leg.enc v7), .call false [] (.o (.c (.v (.agg (Leg.enc v9).toArray)))) [] [], .ix (Leg.enc v11), .nm ((List.set s3 (Int.toNat s4) v9).map Leg.enc)] [.keep [0, 3, 4] [0]] (And.intro (lenm Leg.enc a0) (And.intro h6 (And.intro (gi_map Leg.enc h8) (And.intro (laws_toLeg_ok v7 v9 h10) (And.intro (gi_lt Leg.enc h12) (And.intro (And.intro (gi_map Leg.enc h12).2 (set_map Leg.enc s3 (Int.toNat s4) v9)) True.intro)))))) (by kernel_rfl) (li (Sf := laws_toLegS_L1_S a0) (M := Mk (laws_toLegS_L1 a0) (laws_toLegS_L1_k) r) (k := [.blk 0, .code (cAt Try.f35 [1, 1, 1])]) (Nat.lt_succ_self m1) hK1)
  · have hE : some (Ctl.brk s3) = some c1 := hM
    have hE := Option.some.inj hE
    subst hE
    exact pc R 5 [.ln (a0.length), .as 11 false] [.keep [3] [0]] (And.intro (lenm Leg.enc a0) (And.intro h6 True.intro)) (by kernel_rfl) (K1 s3 hK1)

-- loop.example/g03014/laws.toIntS
def laws_toIntS_L1_b (a0 : (List Int)) (s3 : (List Int)) (s4 : Int) : Option (Ctl ((List Int) × Int) (List Int) (List Int)) :=
  bif (decide (s4 < (a0.length : Int))) then
  (gi a0 s4).bind fun v7 =>
  (gi s3 s4).bind fun v9 =>
  some (.next (List.set s3 (Int.toNat s4) v7, w64 (s4 + 1)))
  else
  some (.brk s3)
def laws_toIntS_L1 (a0 : (List Int)) (s : (List Int) × Int) : Option (Ctl ((List Int) × Int) (List Int) (List Int)) := laws_toIntS_L1_b a0 s.1 s.2
def laws_toIntS_L1_s (a0 : (List Int)) (s3 : (List Int)) (s4 : Int) : St := ⟨[(0, .o (.c (.rs 1 (a0.map encI)))), (3, .o (.c (.sl 0))), (4, .o (.c (.v (.int .i64 s4))))], [(0, .row 3 1 (s3.map encI))]⟩
def laws_toIntS_L1_S (a0 : (List Int)) (s : (List Int) × Int) : St := laws_toIntS_L1_s a0 s.1 s.2
def laws_toIntS_L1_a (s5 : (List Int)) : Option (List Int) :=
  some s5
def laws_toIntS_L1_k (x : ((List Int)) ⊕ ((List Int))) : Option (List Int) := match x with
  | .inl t => laws_toIntS_L1_a t
  | .inr y => some y
def laws_toIntS (a0 : (List Int)) : Option (List Int) :=
  ((mkM 8 (a0.length : Int) : Option (List Int))).bind fun v1 =>
  (loopM (laws_toIntS_L1 a0) big (v1, 0)).bind (laws_toIntS_L1_k)
theorem laws_toIntS_ok (a0 : (List Int)) (r : (List Int)) (hM : laws_toIntS a0 = some r) :
    Con Try.prog 36 [.c (.rs 1 (a0.map encI))] [] (.o (.c (.sl 1000))) [] [(1000, .row 3 1 (r.map encI))] := by
  unfold laws_toIntS at hM
  refine cn (N := 22) (pids := []) Try_mixed Try.func36 (by kernel_rfl) (by kernel_rfl) (by kernel_rfl) rfl fun ρ g w R => ?_
  obtain ⟨v1, h2, hM⟩ := bind_some hM
  have K1 : ∀ (s5 : (List Int)), laws_toIntS_L1_a s5 = some r → Gr R [.code (cAt Try.f36 [1, 1, 1])] (⟨[(3, .o (.c (.sl 0)))], [(0, .row 3 1 (s5.map encI))]⟩) := by
    intro s5 hM
    unfold laws_toIntS_L1_a at hM
    have hE : some s5 = some r := hM
    have hE := Option.some.inj hE
    subst hE
    exact pr R 9999 [] [.sw 0 1000] [] [1000] True.intro (by kernel_rfl)
  refine pc R 9999 [.ln (a0.length), .new 0, .nm (v1.map encI)] [.keep [0, 3, 4] [0]] (k' := [.code (.loop (cAt Try.f36 [1, 1, 0, 1, 0, 0])), .blk 0, .code (cAt Try.f36 [1, 1, 1])]) (S' := laws_toIntS_L1_S a0 (v1, 0)) (And.intro (lenm encI a0) (And.intro (mkM_ok encI h2) True.intro)) (by kernel_rfl) ?_
  refine lq (laws_toIntS_L1_S a0) (body := laws_toIntS_L1 a0) (k := laws_toIntS_L1_k) hM fun m1 s c1 hM hK1 => ?_
  obtain ⟨s3, s4⟩ := s
  have hM : laws_toIntS_L1_b a0 s3 s4 = some c1 := hM
  unfold laws_toIntS_L1_b at hM
  rcases cond_cases hM with ⟨h6, hM⟩ | ⟨h6, hM⟩
  · obtain ⟨v7, h8, hM⟩ := bind_some hM
    obtain ⟨v9, h10, hM⟩ := bind_some hM
    have hE : some (Ctl.next (List.set s3 (Int.toNat s4) v7, w64 (s4 + 1))) = some c1 := hM
    have hE := Option.some.inj hE
    subst hE
    exact pc R 9999 [.ln (a0.length), .as 11 true, .ix (encI v7), .ix (encI v9), .nm ((List.set s3 (Int.toNat s4) v7).map encI)] [.keep [0, 3, 4] [0]] (And.intro (lenm encI a0) (And.intro h6 (And.intro (gi_map encI h8) (And.intro (gi_lt encI h10) (And.intro (And.intro (gi_map encI h10).2 (set_map encI s3 (Int.toNat s4) v7)) True.intro))))) (by kernel_rfl) (li (Sf := laws_toIntS_L1_S a0) (M := Mk (laws_toIntS_L1 a0) (laws_toIntS_L1_k) r) (k := [.blk 0, .code (cAt Try.f36 [1, 1, 1])]) (Nat.lt_succ_self m1) hK1)
  · have hE : some (Ctl.brk s3) = some c1 := hM
    have hE := Option.some.inj hE
    subst hE
    exact pc R 5 [.ln (a0.length), .as 11 false] [.keep [3] [0]] (And.intro (lenm encI a0) (And.intro h6 True.intro)) (by kernel_rfl) (K1 s3 hK1)

-- loop.example/g03014/laws.toNetwork
def laws_toNetwork (a0 : Network) : Option Network :=
  (laws_toLegS a0.Legs).bind fun v1 =>
  (laws_toIntS a0.Off).bind fun v3 =>
  some (Network.mk v1 v3 a0.Change)
theorem laws_toNetwork_ok (a0 : Network) (r : Network) (hM : laws_toNetwork a0 = some r) :
    Con Try.prog 10 [.agg [.rs 6 (a0.Legs.map Leg.enc), .rs 1 (a0.Off.map encI), .v (.int .i64 a0.Change)]] [] (.o (.agg [.sl 1000, .sl 1001, .v (.int .i64 r.Change)])) [] [(1000, .row 95 6 (r.Legs.map Leg.enc)), (1001, .row 3 1 (r.Off.map encI))] := by
  unfold laws_toNetwork at hM
  refine cn (N := 16) (pids := []) Try_mixed Try.func10 (by kernel_rfl) (by kernel_rfl) (by kernel_rfl) rfl fun ρ g w R => ?_
  obtain ⟨v1, h2, hM⟩ := bind_some hM
  obtain ⟨v3, h4, hM⟩ := bind_some hM
  have hE : some (Network.mk v1 v3 a0.Change) = some r := hM
  have hE := Option.some.inj hE
  subst hE
  exact pr R 9999 [.new 0, .new 1, .new 2, .call false [] (.o (.c (.sl 3))) [] [(3, .row 95 6 (v1.map Leg.enc))], .call false [] (.o (.c (.sl 4))) [] [(4, .row 3 1 (v3.map encI))]] [.sw 3 1000, .sw 4 1001] [] [1000, 1001] (And.intro (And.intro (con_sw 1000 3 (laws_toLegS_ok a0.Legs v1 h2)) (rfl : ([] : List Nat) = [])) (And.intro (And.intro (con_sw 1000 4 (laws_toIntS_ok a0.Off v3 h4)) (rfl : ([] : List Nat) = [])) True.intro)) (by kernel_rfl)

-- loop.example/g03014/laws.toTrip
def laws_toTrip (a0 : Trip) : Option Trip :=
  some a0
theorem laws_toTrip_ok (a0 : Trip) (r : Trip) (hM : laws_toTrip a0 = some r) :
    Con Try.prog 38 [.c (.v (.agg (Trip.enc a0).toArray))] [] (.o (.c (.v (.agg (Trip.enc r).toArray)))) [] [] := by
  unfold laws_toTrip at hM
  refine cn (N := 11) (pids := []) Try_mixed Try.func38 (by kernel_rfl) (by kernel_rfl) (by kernel_rfl) rfl fun ρ g w R => ?_
  have hE : some a0 = some r := hM
  have hE := Option.some.inj hE
  subst hE
  exact pr R 9999 [.new 0, .new 1, .new 2] [] [] [] True.intro (by kernel_rfl)

-- loop.example/g03014/laws.toBooking
def laws_toBooking (a0 : Booking) : Option Booking :=
  (laws_toTrip a0.Trip).bind fun v1 =>
  some (Booking.mk ((Booking.mk a0.Thing v1 a0.Weight).Thing) (Trip.mk ((Booking.mk a0.Thing v1 a0.Weight).Trip.Leg) ((Booking.mk a0.Thing v1 a0.Weight).Trip.Day)) ((Booking.mk a0.Thing v1 a0.Weight).Weight))
theorem laws_toBooking_ok (a0 : Booking) (r : Booking) (hM : laws_toBooking a0 = some r) :
    Con Try.prog 37 [.c (.v (.agg (Booking.enc a0).toArray))] [] (.o (.c (.v (.agg (Booking.enc r).toArray)))) [] [] := by
  unfold laws_toBooking at hM
  refine cn (N := 15) (pids := []) Try_mixed Try.func37 (by kernel_rfl) (by kernel_rfl) (by kernel_rfl) rfl fun ρ g w R => ?_
  obtain ⟨v1, h2, hM⟩ := bind_some hM
  have hE : some (Booking.mk ((Booking.mk a0.Thing v1 a0.Weight).Thing) (Trip.mk ((Booking.mk a0.Thing v1 a0.Weight).Trip.Leg) ((Booking.mk a0.Thing v1 a0.Weight).Trip.Day)) ((Booking.mk a0.Thing v1 a0.Weight).Weight)) = some r := hM
  have hE := Option.some.inj hE
  subst hE
  exact pr R 9999 [.new 0, .new 1, .new 2, .call false [] (.o (.c (.v (.agg (Trip.enc v1).toArray)))) [] []] [] [] [] (And.intro (laws_toTrip_ok a0.Trip v1 h2) True.intro) (by kernel_rfl)

-- loop.example/g03014/laws.toBookingS
def laws_toBookingS_L1_b (a0 : (List Booking)) (s3 : (List Booking)) (s4 : Int) : Option (Ctl ((List Booking) × Int) (List Booking) (List Booking)) :=
  bif (decide (s4 < (a0.length : Int))) then
  (gi a0 s4).bind fun v7 =>
  (laws_toBooking v7).bind fun v9 =>
  (gi s3 s4).bind fun v11 =>
  some (.next (List.set s3 (Int.toNat s4) v9, w64 (s4 + 1)))
  else
  some (.brk s3)
def laws_toBookingS_L1 (a0 : (List Booking)) (s : (List Booking) × Int) : Option (Ctl ((List Booking) × Int) (List Booking) (List Booking)) := laws_toBookingS_L1_b a0 s.1 s.2
def laws_toBookingS_L1_s (a0 : (List Booking)) (s3 : (List Booking)) (s4 : Int) : St := ⟨[(0, .o (.c (.rs 4 (a0.map Booking.enc)))), (3, .o (.c (.sl 0))), (4, .o (.c (.v (.int .i64 s4))))], [(0, .row 57 4 (s3.map Booking.enc))]⟩
def laws_toBookingS_L1_S (a0 : (List Booking)) (s : (List Booking) × Int) : St := laws_toBookingS_L1_s a0 s.1 s.2
def laws_toBookingS_L1_a (s5 : (List Booking)) : Option (List Booking) :=
  some s5
def laws_toBookingS_L1_k (x : ((List Booking)) ⊕ ((List Booking))) : Option (List Booking) := match x with
  | .inl t => laws_toBookingS_L1_a t
  | .inr y => some y
def laws_toBookingS (a0 : (List Booking)) : Option (List Booking) :=
  ((mkM 32 (a0.length : Int) : Option (List Booking))).bind fun v1 =>
  (loopM (laws_toBookingS_L1 a0) big (v1, 0)).bind (laws_toBookingS_L1_k)
theorem laws_toBookingS_ok (a0 : (List Booking)) (r : (List Booking)) (hM : laws_toBookingS a0 = some r) :
    Con Try.prog 11 [.c (.rs 4 (a0.map Booking.enc))] [] (.o (.c (.sl 1000))) [] [(1000, .row 57 4 (r.map Booking.enc))] := by
  unfold laws_toBookingS at hM
  refine cn (N := 23) (pids := []) Try_mixed Try.func11 (by kernel_rfl) (by kernel_rfl) (by kernel_rfl) rfl fun ρ g w R => ?_
  obtain ⟨v1, h2, hM⟩ := bind_some hM
  have K1 : ∀ (s5 : (List Booking)), laws_toBookingS_L1_a s5 = some r → Gr R [.code (cAt Try.f11 [1, 1, 1])] (⟨[(3, .o (.c (.sl 0)))], [(0, .row 57 4 (s5.map Booking.enc))]⟩) := by
    intro s5 hM
    unfold laws_toBookingS_L1_a at hM
    have hE : some s5 = some r := hM
    have hE := Option.some.inj hE
    subst hE
    exact pr R 9999 [] [.sw 0 1000] [] [1000] True.intro (by kernel_rfl)
  refine pc R 9999 [.ln (a0.length), .new 0, .nm (v1.map Booking.enc)] [.keep [0, 3, 4] [0]] (k' := [.code (.loop (cAt Try.f11 [1, 1, 0, 1, 0, 0])), .blk 0, .code (cAt Try.f11 [1, 1, 1])]) (S' := laws_toBookingS_L1_S a0 (v1, 0)) (And.intro (lenm Booking.enc a0) (And.intro (mkM_ok Booking.enc h2) True.intro)) (by kernel_rfl) ?_
  refine lq (laws_toBookingS_L1_S a0) (body := laws_toBookingS_L1 a0) (k := laws_toBookingS_L1_k) hM fun m1 s c1 hM hK1 => ?_
  obtain ⟨s3, s4⟩ := s
  have hM : laws_toBookingS_L1_b a0 s3 s4 = some c1 := hM
  unfold laws_toBookingS_L1_b at hM
  rcases cond_cases hM with ⟨h6, hM⟩ | ⟨h6, hM⟩
  · obtain ⟨v7, h8, hM⟩ := bind_some hM
    obtain ⟨v9, h10, hM⟩ := bind_some hM
    obtain ⟨v11, h12, hM⟩ := bind_some hM
    have hE : some (Ctl.next (List.set s3 (Int.toNat s4) v9, w64 (s4 + 1))) = some c1 := hM
    have hE := Option.some.inj hE
    subst hE
    exact pc R 9999 [.ln (a0.length), .as 11 true, .ix (Booking.enc v7), .call false [] (.o (.c (.v (.agg (Booking.enc v9).toArray)))) [] [], .ix (Booking.enc v11), .nm ((List.set s3 (Int.toNat s4) v9).map Booking.enc)] [.keep [0, 3, 4] [0]] (And.intro (lenm Booking.enc a0) (And.intro h6 (And.intro (gi_map Booking.enc h8) (And.intro (laws_toBooking_ok v7 v9 h10) (And.intro (gi_lt Booking.enc h12) (And.intro (And.intro (gi_map Booking.enc h12).2 (set_map Booking.enc s3 (Int.toNat s4) v9)) True.intro)))))) (by kernel_rfl) (li (Sf := laws_toBookingS_L1_S a0) (M := Mk (laws_toBookingS_L1 a0) (laws_toBookingS_L1_k) r) (k := [.blk 0, .code (cAt Try.f11 [1, 1, 1])]) (Nat.lt_succ_self m1) hK1)
  · have hE : some (Ctl.brk s3) = some c1 := hM
    have hE := Option.some.inj hE
    subst hE
    exact pc R 5 [.ln (a0.length), .as 11 false] [.keep [3] [0]] (And.intro (lenm Booking.enc a0) (And.intro h6 True.intro)) (by kernel_rfl) (K1 s3 hK1)

-- loop.example/g03014/laws.toTripS
def laws_toTripS_L1_b (a0 : (List Trip)) (s3 : (List Trip)) (s4 : Int) : Option (Ctl ((List Trip) × Int) (List Trip) (List Trip)) :=
  bif (decide (s4 < (a0.length : Int))) then
  (gi a0 s4).bind fun v7 =>
  (laws_toTrip v7).bind fun v9 =>
  (gi s3 s4).bind fun v11 =>
  some (.next (List.set s3 (Int.toNat s4) v9, w64 (s4 + 1)))
  else
  some (.brk s3)
def laws_toTripS_L1 (a0 : (List Trip)) (s : (List Trip) × Int) : Option (Ctl ((List Trip) × Int) (List Trip) (List Trip)) := laws_toTripS_L1_b a0 s.1 s.2
def laws_toTripS_L1_s (a0 : (List Trip)) (s3 : (List Trip)) (s4 : Int) : St := ⟨[(0, .o (.c (.rs 2 (a0.map Trip.enc)))), (3, .o (.c (.sl 0))), (4, .o (.c (.v (.int .i64 s4))))], [(0, .row 55 2 (s3.map Trip.enc))]⟩
def laws_toTripS_L1_S (a0 : (List Trip)) (s : (List Trip) × Int) : St := laws_toTripS_L1_s a0 s.1 s.2
def laws_toTripS_L1_a (s5 : (List Trip)) : Option (List Trip) :=
  some s5
def laws_toTripS_L1_k (x : ((List Trip)) ⊕ ((List Trip))) : Option (List Trip) := match x with
  | .inl t => laws_toTripS_L1_a t
  | .inr y => some y
def laws_toTripS (a0 : (List Trip)) : Option (List Trip) :=
  ((mkM 16 (a0.length : Int) : Option (List Trip))).bind fun v1 =>
  (loopM (laws_toTripS_L1 a0) big (v1, 0)).bind (laws_toTripS_L1_k)
theorem laws_toTripS_ok (a0 : (List Trip)) (r : (List Trip)) (hM : laws_toTripS a0 = some r) :
    Con Try.prog 12 [.c (.rs 2 (a0.map Trip.enc))] [] (.o (.c (.sl 1000))) [] [(1000, .row 55 2 (r.map Trip.enc))] := by
  unfold laws_toTripS at hM
  refine cn (N := 23) (pids := []) Try_mixed Try.func12 (by kernel_rfl) (by kernel_rfl) (by kernel_rfl) rfl fun ρ g w R => ?_
  obtain ⟨v1, h2, hM⟩ := bind_some hM
  have K1 : ∀ (s5 : (List Trip)), laws_toTripS_L1_a s5 = some r → Gr R [.code (cAt Try.f12 [1, 1, 1])] (⟨[(3, .o (.c (.sl 0)))], [(0, .row 55 2 (s5.map Trip.enc))]⟩) := by
    intro s5 hM
    unfold laws_toTripS_L1_a at hM
    have hE : some s5 = some r := hM
    have hE := Option.some.inj hE
    subst hE
    exact pr R 9999 [] [.sw 0 1000] [] [1000] True.intro (by kernel_rfl)
  refine pc R 9999 [.ln (a0.length), .new 0, .nm (v1.map Trip.enc)] [.keep [0, 3, 4] [0]] (k' := [.code (.loop (cAt Try.f12 [1, 1, 0, 1, 0, 0])), .blk 0, .code (cAt Try.f12 [1, 1, 1])]) (S' := laws_toTripS_L1_S a0 (v1, 0)) (And.intro (lenm Trip.enc a0) (And.intro (mkM_ok Trip.enc h2) True.intro)) (by kernel_rfl) ?_
  refine lq (laws_toTripS_L1_S a0) (body := laws_toTripS_L1 a0) (k := laws_toTripS_L1_k) hM fun m1 s c1 hM hK1 => ?_
  obtain ⟨s3, s4⟩ := s
  have hM : laws_toTripS_L1_b a0 s3 s4 = some c1 := hM
  unfold laws_toTripS_L1_b at hM
  rcases cond_cases hM with ⟨h6, hM⟩ | ⟨h6, hM⟩
  · obtain ⟨v7, h8, hM⟩ := bind_some hM
    obtain ⟨v9, h10, hM⟩ := bind_some hM
    obtain ⟨v11, h12, hM⟩ := bind_some hM
    have hE : some (Ctl.next (List.set s3 (Int.toNat s4) v9, w64 (s4 + 1))) = some c1 := hM
    have hE := Option.some.inj hE
    subst hE
    exact pc R 9999 [.ln (a0.length), .as 11 true, .ix (Trip.enc v7), .call false [] (.o (.c (.v (.agg (Trip.enc v9).toArray)))) [] [], .ix (Trip.enc v11), .nm ((List.set s3 (Int.toNat s4) v9).map Trip.enc)] [.keep [0, 3, 4] [0]] (And.intro (lenm Trip.enc a0) (And.intro h6 (And.intro (gi_map Trip.enc h8) (And.intro (laws_toTrip_ok v7 v9 h10) (And.intro (gi_lt Trip.enc h12) (And.intro (And.intro (gi_map Trip.enc h12).2 (set_map Trip.enc s3 (Int.toNat s4) v9)) True.intro)))))) (by kernel_rfl) (li (Sf := laws_toTripS_L1_S a0) (M := Mk (laws_toTripS_L1 a0) (laws_toTripS_L1_k) r) (k := [.blk 0, .code (cAt Try.f12 [1, 1, 1])]) (Nat.lt_succ_self m1) hK1)
  · have hE : some (Ctl.brk s3) = some c1 := hM
    have hE := Option.some.inj hE
    subst hE
    exact pc R 5 [.ln (a0.length), .as 11 false] [.keep [3] [0]] (And.intro (lenm Trip.enc a0) (And.intro h6 True.intro)) (by kernel_rfl) (K1 s3 hK1)

-- loop.example/g03014/spec.l6Copy
def spec_l6Copy (a0 : (List Booking)) : Option (List Booking) :=
  (ap 32 ([] : List Booking) a0).bind fun v1 =>
  some v1
theorem spec_l6Copy_ok (a0 : (List Booking)) (r : (List Booking)) (hM : spec_l6Copy a0 = some r) :
    Con Try.prog 32 [.c (.rs 4 (a0.map Booking.enc))] [] (.o (.c (.sl 1000))) [] [(1000, .row 57 4 (r.map Booking.enc))] := by
  unfold spec_l6Copy at hM
  refine cn (N := 6) (pids := []) Try_mixed Try.func32 (by kernel_rfl) (by kernel_rfl) (by kernel_rfl) rfl fun ρ g w R => ?_
  obtain ⟨v1, h2, hM⟩ := bind_some hM
  have hE : some v1 = some r := hM
  have hE := Option.some.inj hE
  subst hE
  exact pr R 9999 [.new 0, .new 1, .nm (v1.map Booking.enc)] [.sw 1 1000] [] [1000] (And.intro (ap_ok Booking.enc h2) True.intro) (by kernel_rfl)

-- loop.example/g03014/spec.l1In
def spec_l1In (a0 : Int) (a1 : Int) (a2 : Int) : Option Bool :=
  bif (decide (a0 ≥ a1)) then
  some (decide (a0 ≤ a2))
  else
  some false
theorem spec_l1In_ok (a0 : Int) (a1 : Int) (a2 : Int) (r : Bool) (hM : spec_l1In a0 a1 a2 = some r) :
    Con Try.prog 68 [.c (.v (.int .i64 a0)), .c (.v (.int .i64 a1)), .c (.v (.int .i64 a2))] [] (.o (.c (.v (.bool r)))) [] [] := by
  unfold spec_l1In at hM
  refine cn (N := 15) (pids := []) Try_mixed Try.func68 (by kernel_rfl) (by kernel_rfl) (by kernel_rfl) rfl fun ρ g w R => ?_
  rcases cond_cases hM with ⟨h1, hM⟩ | ⟨h1, hM⟩
  · have hE : some (decide (a0 ≤ a2)) = some r := hM
    have hE := Option.some.inj hE
    subst hE
    exact pr R 9999 [.as 10 true] [] [] [] (And.intro h1 True.intro) (by kernel_rfl)
  · have hE : some false = some r := hM
    have hE := Option.some.inj hE
    subst hE
    exact pr R 9999 [.as 10 false] [] [] [] (And.intro h1 True.intro) (by kernel_rfl)

-- loop.example/g03014/spec.IsPlace
def spec_IsPlace_L1_b (a0 : ByteArray) (s2 : Int) : Option (Ctl Int Unit Bool) :=
  bif (decide (s2 < 3)) then
  (siM a0 s2).bind fun v4 =>
  (spec_l1In (w64 v4) 65 90).bind fun v6 =>
  bif (!v6) then
  some (.ret false)
  else
  some (.next (w64 (s2 + 1)))
  else
  some (.brk ())
def spec_IsPlace_L1 (a0 : ByteArray) (s : Int) : Option (Ctl Int Unit Bool) := spec_IsPlace_L1_b a0 s
def spec_IsPlace_L1_s (a0 : ByteArray) (s2 : Int) : St := ⟨[(0, .o (.c (.v (.string a0)))), (3, .o (.c (.v (.int .i64 s2))))], []⟩
def spec_IsPlace_L1_S (a0 : ByteArray) (s : Int) : St := spec_IsPlace_L1_s a0 s
def spec_IsPlace_L1_a : Option Bool :=
  some true
def spec_IsPlace_L1_k (x : (Unit) ⊕ (Bool)) : Option Bool := match x with
  | .inl t => spec_IsPlace_L1_a
  | .inr y => some y
def spec_IsPlace (a0 : ByteArray) : Option Bool :=
  bif ((a0.size : Int) != 3) then
  some false
  else
  (loopM (spec_IsPlace_L1 a0) big 0).bind (spec_IsPlace_L1_k)
theorem spec_IsPlace_ok (a0 : ByteArray) (r : Bool) (hM : spec_IsPlace a0 = some r) :
    Con Try.prog 112 [.c (.v (.string a0))] [] (.o (.c (.v (.bool r)))) [] [] := by
  unfold spec_IsPlace at hM
  refine cn (N := 17) (pids := []) Try_mixed Try.func112 (by kernel_rfl) (by kernel_rfl) (by kernel_rfl) rfl fun ρ g w R => ?_
  rcases cond_cases hM with ⟨h1, hM⟩ | ⟨h1, hM⟩
  · have hE : some false = some r := hM
    have hE := Option.some.inj hE
    subst hE
    exact pr R 9999 [.as 6 true] [] [] [] (And.intro h1 True.intro) (by kernel_rfl)
  · have K1 : ∀ (_ : Unit), spec_IsPlace_L1_a = some r → Gr R [.code (cAt Try.f112 [1, 1, 1])] (⟨[], []⟩) := by
      intro _ hM
      unfold spec_IsPlace_L1_a at hM
      have hE : some true = some r := hM
      have hE := Option.some.inj hE
      subst hE
      exact pr R 9999 [] [] [] [] True.intro (by kernel_rfl)
    refine pc R 9999 [.as 6 false] [.keep [0, 3] []] (k' := [.code (.loop (cAt Try.f112 [1, 1, 0, 1, 0, 0])), .blk 0, .code (cAt Try.f112 [1, 1, 1])]) (S' := spec_IsPlace_L1_S a0 0) (And.intro h1 True.intro) (by kernel_rfl) ?_
    refine lq (spec_IsPlace_L1_S a0) (body := spec_IsPlace_L1 a0) (k := spec_IsPlace_L1_k) hM fun m1 s c1 hM hK1 => ?_
    obtain ⟨s2, hs⟩ : ∃ z, z = s := ⟨_, rfl⟩
    subst hs
    have hM : spec_IsPlace_L1_b a0 s2 = some c1 := hM
    unfold spec_IsPlace_L1_b at hM
    rcases cond_cases hM with ⟨h3, hM⟩ | ⟨h3, hM⟩
    · obtain ⟨v4, h5, hM⟩ := bind_some hM
      obtain ⟨v6, h7, hM⟩ := bind_some hM
      rcases cond_cases hM with ⟨h8, hM⟩ | ⟨h8, hM⟩
      · have hE : some (Ctl.ret false) = some c1 := hM
        have hE := Option.some.inj hE
        subst hE
        have hE : some false = some r := hK1
        have hE := Option.some.inj hE
        subst hE
        exact pr R 9999 [.as 8 true, .ix [.int .u8 v4], .call false [] (.o (.c (.v (.bool v6)))) [] [], .as 16 true] [] [] [] (And.intro h3 (And.intro (siM_ok h5) (And.intro (spec_l1In_ok (w64 v4) 65 90 v6 h7) (And.intro h8 True.intro)))) (by kernel_rfl)
      · have hE : some (Ctl.next (w64 (s2 + 1))) = some c1 := hM
        have hE := Option.some.inj hE
        subst hE
        exact pc R 9999 [.as 8 true, .ix [.int .u8 v4], .call false [] (.o (.c (.v (.bool v6)))) [] [], .as 16 false] [.keep [0, 3] []] (And.intro h3 (And.intro (siM_ok h5) (And.intro (spec_l1In_ok (w64 v4) 65 90 v6 h7) (And.intro h8 True.intro)))) (by kernel_rfl) (li (Sf := spec_IsPlace_L1_S a0) (M := Mk (spec_IsPlace_L1 a0) (spec_IsPlace_L1_k) r) (k := [.blk 0, .code (cAt Try.f112 [1, 1, 1])]) (Nat.lt_succ_self m1) hK1)
    · have hE : some (Ctl.brk ()) = some c1 := hM
      have hE := Option.some.inj hE
      subst hE
      exact pc R 5 [.as 8 false] [.keep [] []] (And.intro h3 True.intro) (by kernel_rfl) (K1 () hK1)

-- loop.example/g03014/spec.IsLeg
def spec_IsLeg (a0 : Leg) : Option Bool :=
  (spec_IsPlace a0.From).bind fun v1 =>
  bif v1 then
  (spec_IsPlace a0.To).bind fun v4 =>
  bif v4 then
  bif (!(a0.From.toList == a0.To.toList)) then
  (spec_l1In a0.Start 0 1439).bind fun v8 =>
  bif v8 then
  (spec_l1In a0.Takes 1 4320).bind fun v11 =>
  bif v11 then
  (spec_l1In a0.Days 1 127).bind fun v14 =>
  bif v14 then
  (spec_l1In a0.Room 0 1000000).bind fun v17 =>
  some v17
  else
  some false
  else
  some false
  else
  some false
  else
  some false
  else
  some false
  else
  some false
theorem spec_IsLeg_ok (a0 : Leg) (r : Bool) (hM : spec_IsLeg a0 = some r) :
    Con Try.prog 89 [.c (.v (.agg (Leg.enc a0).toArray))] [] (.o (.c (.v (.bool r)))) [] [] := by
  unfold spec_IsLeg at hM
  refine cn (N := 38) (pids := []) Try_mixed Try.func89 (by kernel_rfl) (by kernel_rfl) (by kernel_rfl) rfl fun ρ g w R => ?_
  obtain ⟨v1, h2, hM⟩ := bind_some hM
  rcases cond_cases hM with ⟨h3, hM⟩ | ⟨h3, hM⟩
  · obtain ⟨v4, h5, hM⟩ := bind_some hM
    rcases cond_cases hM with ⟨h6, hM⟩ | ⟨h6, hM⟩
    · rcases cond_cases hM with ⟨h7, hM⟩ | ⟨h7, hM⟩
      · obtain ⟨v8, h9, hM⟩ := bind_some hM
        rcases cond_cases hM with ⟨h10, hM⟩ | ⟨h10, hM⟩
        · obtain ⟨v11, h12, hM⟩ := bind_some hM
          rcases cond_cases hM with ⟨h13, hM⟩ | ⟨h13, hM⟩
          · obtain ⟨v14, h15, hM⟩ := bind_some hM
            rcases cond_cases hM with ⟨h16, hM⟩ | ⟨h16, hM⟩
            · obtain ⟨v17, h18, hM⟩ := bind_some hM
              have hE : some v17 = some r := hM
              have hE := Option.some.inj hE
              subst hE
              exact pr R 9999 [.new 0, .call false [] (.o (.c (.v (.bool v1)))) [] [], .as 6 true, .call false [] (.o (.c (.v (.bool v4)))) [] [], .as 11 true, .as 18 true, .call false [] (.o (.c (.v (.bool v8)))) [] [], .as 23 true, .call false [] (.o (.c (.v (.bool v11)))) [] [], .as 28 true, .call false [] (.o (.c (.v (.bool v14)))) [] [], .as 33 true, .call false [] (.o (.c (.v (.bool v17)))) [] []] [] [] [] (And.intro (spec_IsPlace_ok a0.From v1 h2) (And.intro h3 (And.intro (spec_IsPlace_ok a0.To v4 h5) (And.intro h6 (And.intro h7 (And.intro (spec_l1In_ok a0.Start 0 1439 v8 h9) (And.intro h10 (And.intro (spec_l1In_ok a0.Takes 1 4320 v11 h12) (And.intro h13 (And.intro (spec_l1In_ok a0.Days 1 127 v14 h15) (And.intro h16 (And.intro (spec_l1In_ok a0.Room 0 1000000 v17 h18) True.intro)))))))))))) (by kernel_rfl)
            · have hE : some false = some r := hM
              have hE := Option.some.inj hE
              subst hE
              exact pr R 9999 [.new 0, .call false [] (.o (.c (.v (.bool v1)))) [] [], .as 6 true, .call false [] (.o (.c (.v (.bool v4)))) [] [], .as 11 true, .as 18 true, .call false [] (.o (.c (.v (.bool v8)))) [] [], .as 23 true, .call false [] (.o (.c (.v (.bool v11)))) [] [], .as 28 true, .call false [] (.o (.c (.v (.bool v14)))) [] [], .as 33 false] [] [] [] (And.intro (spec_IsPlace_ok a0.From v1 h2) (And.intro h3 (And.intro (spec_IsPlace_ok a0.To v4 h5) (And.intro h6 (And.intro h7 (And.intro (spec_l1In_ok a0.Start 0 1439 v8 h9) (And.intro h10 (And.intro (spec_l1In_ok a0.Takes 1 4320 v11 h12) (And.intro h13 (And.intro (spec_l1In_ok a0.Days 1 127 v14 h15) (And.intro h16 True.intro))))))))))) (by kernel_rfl)
          · have hE : some false = some r := hM
            have hE := Option.some.inj hE
            subst hE
            exact pr R 9999 [.new 0, .call false [] (.o (.c (.v (.bool v1)))) [] [], .as 6 true, .call false [] (.o (.c (.v (.bool v4)))) [] [], .as 11 true, .as 18 true, .call false [] (.o (.c (.v (.bool v8)))) [] [], .as 23 true, .call false [] (.o (.c (.v (.bool v11)))) [] [], .as 28 false] [] [] [] (And.intro (spec_IsPlace_ok a0.From v1 h2) (And.intro h3 (And.intro (spec_IsPlace_ok a0.To v4 h5) (And.intro h6 (And.intro h7 (And.intro (spec_l1In_ok a0.Start 0 1439 v8 h9) (And.intro h10 (And.intro (spec_l1In_ok a0.Takes 1 4320 v11 h12) (And.intro h13 True.intro))))))))) (by kernel_rfl)
        · have hE : some false = some r := hM
          have hE := Option.some.inj hE
          subst hE
          exact pr R 9999 [.new 0, .call false [] (.o (.c (.v (.bool v1)))) [] [], .as 6 true, .call false [] (.o (.c (.v (.bool v4)))) [] [], .as 11 true, .as 18 true, .call false [] (.o (.c (.v (.bool v8)))) [] [], .as 23 false] [] [] [] (And.intro (spec_IsPlace_ok a0.From v1 h2) (And.intro h3 (And.intro (spec_IsPlace_ok a0.To v4 h5) (And.intro h6 (And.intro h7 (And.intro (spec_l1In_ok a0.Start 0 1439 v8 h9) (And.intro h10 True.intro))))))) (by kernel_rfl)
      · have hE : some false = some r := hM
        have hE := Option.some.inj hE
        subst hE
        exact pr R 9999 [.new 0, .call false [] (.o (.c (.v (.bool v1)))) [] [], .as 6 true, .call false [] (.o (.c (.v (.bool v4)))) [] [], .as 11 true, .as 18 false] [] [] [] (And.intro (spec_IsPlace_ok a0.From v1 h2) (And.intro h3 (And.intro (spec_IsPlace_ok a0.To v4 h5) (And.intro h6 (And.intro h7 True.intro))))) (by kernel_rfl)
    · have hE : some false = some r := hM
      have hE := Option.some.inj hE
      subst hE
      exact pr R 9999 [.new 0, .call false [] (.o (.c (.v (.bool v1)))) [] [], .as 6 true, .call false [] (.o (.c (.v (.bool v4)))) [] [], .as 11 false] [] [] [] (And.intro (spec_IsPlace_ok a0.From v1 h2) (And.intro h3 (And.intro (spec_IsPlace_ok a0.To v4 h5) (And.intro h6 True.intro)))) (by kernel_rfl)
  · have hE : some false = some r := hM
    have hE := Option.some.inj hE
    subst hE
    exact pr R 9999 [.new 0, .call false [] (.o (.c (.v (.bool v1)))) [] [], .as 6 false] [] [] [] (And.intro (spec_IsPlace_ok a0.From v1 h2) (And.intro h3 True.intro)) (by kernel_rfl)

-- loop.example/g03014/spec.IsNetwork
def spec_IsNetwork_L2_b (a0 : Network) (s2 : Int) : Option (Ctl Int Unit Bool) :=
  bif (decide (s2 < (a0.Off.length : Int))) then
  (gi a0.Off s2).bind fun v8 =>
  (spec_l1In v8 0 60).bind fun v10 =>
  bif (!v10) then
  some (.ret false)
  else
  bif (decide (s2 > 0)) then
  (gi a0.Off (w64 (s2 - 1))).bind fun v14 =>
  (gi a0.Off s2).bind fun v16 =>
  bif (decide (v14 ≥ v16)) then
  some (.ret false)
  else
  some (.next (w64 (s2 + 1)))
  else
  some (.next (w64 (s2 + 1)))
  else
  some (.brk ())
def spec_IsNetwork_L2 (a0 : Network) (s : Int) : Option (Ctl Int Unit Bool) := spec_IsNetwork_L2_b a0 s
def spec_IsNetwork_L2_s (a0 : Network) (s2 : Int) : St := ⟨[(1, .o (.c (.ptr 0 0))), (4, .o (.c (.v (.int .i64 s2))))], [(0, .box 36 [.rs 6 (a0.Legs.map Leg.enc), .rs 1 (a0.Off.map encI), .v (.int .i64 a0.Change)])]⟩
def spec_IsNetwork_L2_S (a0 : Network) (s : Int) : St := spec_IsNetwork_L2_s a0 s
def spec_IsNetwork_L2_a (a0 : Network) : Option Bool :=
  bif (decide ((a0.Legs.length : Int) ≤ 20)) then
  bif (decide ((a0.Off.length : Int) ≤ 10)) then
  (spec_l1In a0.Change 0 240).bind fun v5 =>
  some v5
  else
  some false
  else
  some false
def spec_IsNetwork_L2_k (a0 : Network) (x : (Unit) ⊕ (Bool)) : Option Bool := match x with
  | .inl t => spec_IsNetwork_L2_a a0
  | .inr y => some y
def spec_IsNetwork_L1_b (a0 : Network) (s1 : Int) : Option (Ctl Int Unit Bool) :=
  bif (decide (s1 < (a0.Legs.length : Int))) then
  (gi a0.Legs s1).bind fun v20 =>
  (spec_IsLeg v20).bind fun v22 =>
  bif (!v22) then
  some (.ret false)
  else
  some (.next (w64 (s1 + 1)))
  else
  some (.brk ())
def spec_IsNetwork_L1 (a0 : Network) (s : Int) : Option (Ctl Int Unit Bool) := spec_IsNetwork_L1_b a0 s
def spec_IsNetwork_L1_s (a0 : Network) (s1 : Int) : St := ⟨[(1, .o (.c (.ptr 0 0))), (3, .o (.c (.v (.int .i64 s1))))], [(0, .box 36 [.rs 6 (a0.Legs.map Leg.enc), .rs 1 (a0.Off.map encI), .v (.int .i64 a0.Change)])]⟩
def spec_IsNetwork_L1_S (a0 : Network) (s : Int) : St := spec_IsNetwork_L1_s a0 s
def spec_IsNetwork_L1_a (a0 : Network) : Option Bool :=
  (loopM (spec_IsNetwork_L2 a0) big 0).bind (spec_IsNetwork_L2_k a0)
def spec_IsNetwork_L1_k (a0 : Network) (x : (Unit) ⊕ (Bool)) : Option Bool := match x with
  | .inl t => spec_IsNetwork_L1_a a0
  | .inr y => some y
def spec_IsNetwork (a0 : Network) : Option Bool :=
  (loopM (spec_IsNetwork_L1 a0) big 0).bind (spec_IsNetwork_L1_k a0)
theorem spec_IsNetwork_ok (a0 : Network) (r : Bool) (hM : spec_IsNetwork a0 = some r) :
    Con Try.prog 66 [.agg [.rs 6 (a0.Legs.map Leg.enc), .rs 1 (a0.Off.map encI), .v (.int .i64 a0.Change)]] [] (.o (.c (.v (.bool r)))) [] [] := by
  unfold spec_IsNetwork at hM
  refine cn (N := 66) (pids := []) Try_mixed Try.func66 (by kernel_rfl) (by kernel_rfl) (by kernel_rfl) rfl fun ρ g w R => ?_
  have K1 : ∀ (_ : Unit), spec_IsNetwork_L1_a a0 = some r → Gr R [.code (cAt Try.f66 [1, 1])] (⟨[(1, .o (.c (.ptr 0 0)))], [(0, .box 36 [.rs 6 (a0.Legs.map Leg.enc), .rs 1 (a0.Off.map encI), .v (.int .i64 a0.Change)])]⟩) := by
    intro _ hM
    unfold spec_IsNetwork_L1_a at hM
    have K2 : ∀ (_ : Unit), spec_IsNetwork_L2_a a0 = some r → Gr R [.code (cAt Try.f66 [1, 1, 1])] (⟨[(1, .o (.c (.ptr 0 0)))], [(0, .box 36 [.rs 6 (a0.Legs.map Leg.enc), .rs 1 (a0.Off.map encI), .v (.int .i64 a0.Change)])]⟩) := by
      intro _ hM
      unfold spec_IsNetwork_L2_a at hM
      rcases cond_cases hM with ⟨h3, hM⟩ | ⟨h3, hM⟩
      · rcases cond_cases hM with ⟨h4, hM⟩ | ⟨h4, hM⟩
        · obtain ⟨v5, h6, hM⟩ := bind_some hM
          have hE : some v5 = some r := hM
          have hE := Option.some.inj hE
          subst hE
          exact pr R 9999 [.ln (a0.Legs.length), .as 55 true, .ln (a0.Off.length), .as 61 true, .call false [] (.o (.c (.v (.bool v5)))) [] []] [] [] [] (And.intro (lenm Leg.enc a0.Legs) (And.intro h3 (And.intro (lenm encI a0.Off) (And.intro h4 (And.intro (spec_l1In_ok a0.Change 0 240 v5 h6) True.intro))))) (by kernel_rfl)
        · have hE : some false = some r := hM
          have hE := Option.some.inj hE
          subst hE
          exact pr R 9999 [.ln (a0.Legs.length), .as 55 true, .ln (a0.Off.length), .as 61 false] [] [] [] (And.intro (lenm Leg.enc a0.Legs) (And.intro h3 (And.intro (lenm encI a0.Off) (And.intro h4 True.intro)))) (by kernel_rfl)
      · have hE : some false = some r := hM
        have hE := Option.some.inj hE
        subst hE
        exact pr R 9999 [.ln (a0.Legs.length), .as 55 false] [] [] [] (And.intro (lenm Leg.enc a0.Legs) (And.intro h3 True.intro)) (by kernel_rfl)
    refine pc R 9999 [] [.keep [1, 4] [0]] (k' := [.code (.loop (cAt Try.f66 [1, 1, 0, 1, 0, 0])), .blk 2, .code (cAt Try.f66 [1, 1, 1])]) (S' := spec_IsNetwork_L2_S a0 0) True.intro (by kernel_rfl) ?_
    refine lq (spec_IsNetwork_L2_S a0) (body := spec_IsNetwork_L2 a0) (k := spec_IsNetwork_L2_k a0) hM fun m2 s c2 hM hK2 => ?_
    obtain ⟨s2, hs⟩ : ∃ z, z = s := ⟨_, rfl⟩
    subst hs
    have hM : spec_IsNetwork_L2_b a0 s2 = some c2 := hM
    unfold spec_IsNetwork_L2_b at hM
    rcases cond_cases hM with ⟨h7, hM⟩ | ⟨h7, hM⟩
    · obtain ⟨v8, h9, hM⟩ := bind_some hM
      obtain ⟨v10, h11, hM⟩ := bind_some hM
      rcases cond_cases hM with ⟨h12, hM⟩ | ⟨h12, hM⟩
      · have hE : some (Ctl.ret false) = some c2 := hM
        have hE := Option.some.inj hE
        subst hE
        have hE : some false = some r := hK2
        have hE := Option.some.inj hE
        subst hE
        exact pr R 9999 [.ln (a0.Off.length), .as 23 true, .ix (encI v8), .call false [] (.o (.c (.v (.bool v10)))) [] [], .as 33 true] [] [] [] (And.intro (lenm encI a0.Off) (And.intro h7 (And.intro (gi_map encI h9) (And.intro (spec_l1In_ok v8 0 60 v10 h11) (And.intro h12 True.intro))))) (by kernel_rfl)
      · rcases cond_cases hM with ⟨h13, hM⟩ | ⟨h13, hM⟩
        · obtain ⟨v14, h15, hM⟩ := bind_some hM
          obtain ⟨v16, h17, hM⟩ := bind_some hM
          rcases cond_cases hM with ⟨h18, hM⟩ | ⟨h18, hM⟩
          · have hE : some (Ctl.ret false) = some c2 := hM
            have hE := Option.some.inj hE
            subst hE
            have hE : some false = some r := hK2
            have hE := Option.some.inj hE
            subst hE
            exact pr R 9999 [.ln (a0.Off.length), .as 23 true, .ix (encI v8), .call false [] (.o (.c (.v (.bool v10)))) [] [], .as 33 false, .as 36 true, .ix (encI v14), .ix (encI v16), .as 50 true] [] [] [] (And.intro (lenm encI a0.Off) (And.intro h7 (And.intro (gi_map encI h9) (And.intro (spec_l1In_ok v8 0 60 v10 h11) (And.intro h12 (And.intro h13 (And.intro (gi_map encI h15) (And.intro (gi_map encI h17) (And.intro h18 True.intro))))))))) (by kernel_rfl)
          · have hE : some (Ctl.next (w64 (s2 + 1))) = some c2 := hM
            have hE := Option.some.inj hE
            subst hE
            exact pc R 9999 [.ln (a0.Off.length), .as 23 true, .ix (encI v8), .call false [] (.o (.c (.v (.bool v10)))) [] [], .as 33 false, .as 36 true, .ix (encI v14), .ix (encI v16), .as 50 false] [.keep [1, 4] [0]] (And.intro (lenm encI a0.Off) (And.intro h7 (And.intro (gi_map encI h9) (And.intro (spec_l1In_ok v8 0 60 v10 h11) (And.intro h12 (And.intro h13 (And.intro (gi_map encI h15) (And.intro (gi_map encI h17) (And.intro h18 True.intro))))))))) (by kernel_rfl) (li (Sf := spec_IsNetwork_L2_S a0) (M := Mk (spec_IsNetwork_L2 a0) (spec_IsNetwork_L2_k a0) r) (k := [.blk 2, .code (cAt Try.f66 [1, 1, 1])]) (Nat.lt_succ_self m2) hK2)
        · have hE : some (Ctl.next (w64 (s2 + 1))) = some c2 := hM
          have hE := Option.some.inj hE
          subst hE
          exact pc R 9999 [.ln (a0.Off.length), .as 23 true, .ix (encI v8), .call false [] (.o (.c (.v (.bool v10)))) [] [], .as 33 false, .as 36 false] [.keep [1, 4] [0]] (And.intro (lenm encI a0.Off) (And.intro h7 (And.intro (gi_map encI h9) (And.intro (spec_l1In_ok v8 0 60 v10 h11) (And.intro h12 (And.intro h13 True.intro)))))) (by kernel_rfl) (li (Sf := spec_IsNetwork_L2_S a0) (M := Mk (spec_IsNetwork_L2 a0) (spec_IsNetwork_L2_k a0) r) (k := [.blk 2, .code (cAt Try.f66 [1, 1, 1])]) (Nat.lt_succ_self m2) hK2)
    · have hE : some (Ctl.brk ()) = some c2 := hM
      have hE := Option.some.inj hE
      subst hE
      exact pc R 5 [.ln (a0.Off.length), .as 23 false] [.keep [1] [0]] (And.intro (lenm encI a0.Off) (And.intro h7 True.intro)) (by kernel_rfl) (K2 () hK2)
  refine pc R 9999 [.new 0] [.keep [1, 3] [0]] (k' := [.code (.loop (cAt Try.f66 [1, 0, 1, 0, 0])), .blk 0, .code (cAt Try.f66 [1, 1])]) (S' := spec_IsNetwork_L1_S a0 0) True.intro (by kernel_rfl) ?_
  refine lq (spec_IsNetwork_L1_S a0) (body := spec_IsNetwork_L1 a0) (k := spec_IsNetwork_L1_k a0) hM fun m1 s c1 hM hK1 => ?_
  obtain ⟨s1, hs⟩ : ∃ z, z = s := ⟨_, rfl⟩
  subst hs
  have hM : spec_IsNetwork_L1_b a0 s1 = some c1 := hM
  unfold spec_IsNetwork_L1_b at hM
  rcases cond_cases hM with ⟨h19, hM⟩ | ⟨h19, hM⟩
  · obtain ⟨v20, h21, hM⟩ := bind_some hM
    obtain ⟨v22, h23, hM⟩ := bind_some hM
    rcases cond_cases hM with ⟨h24, hM⟩ | ⟨h24, hM⟩
    · have hE : some (Ctl.ret false) = some c1 := hM
      have hE := Option.some.inj hE
      subst hE
      have hE : some false = some r := hK1
      have hE := Option.some.inj hE
      subst hE
      exact pr R 9999 [.ln (a0.Legs.length), .as 9 true, .ix (Leg.enc v20), .call false [] (.o (.c (.v (.bool v22)))) [] [], .as 18 true] [] [] [] (And.intro (lenm Leg.enc a0.Legs) (And.intro h19 (And.intro (gi_map Leg.enc h21) (And.intro (spec_IsLeg_ok v20 v22 h23) (And.intro h24 True.intro))))) (by kernel_rfl)
    · have hE : some (Ctl.next (w64 (s1 + 1))) = some c1 := hM
      have hE := Option.some.inj hE
      subst hE
      exact pc R 9999 [.ln (a0.Legs.length), .as 9 true, .ix (Leg.enc v20), .call false [] (.o (.c (.v (.bool v22)))) [] [], .as 18 false] [.keep [1, 3] [0]] (And.intro (lenm Leg.enc a0.Legs) (And.intro h19 (And.intro (gi_map Leg.enc h21) (And.intro (spec_IsLeg_ok v20 v22 h23) (And.intro h24 True.intro))))) (by kernel_rfl) (li (Sf := spec_IsNetwork_L1_S a0) (M := Mk (spec_IsNetwork_L1 a0) (spec_IsNetwork_L1_k a0) r) (k := [.blk 0, .code (cAt Try.f66 [1, 1])]) (Nat.lt_succ_self m1) hK1)
  · have hE : some (Ctl.brk ()) = some c1 := hM
    have hE := Option.some.inj hE
    subst hE
    exact pc R 5 [.ln (a0.Legs.length), .as 9 false] [.keep [1] [0]] (And.intro (lenm Leg.enc a0.Legs) (And.intro h19 True.intro)) (by kernel_rfl) (K1 () hK1)

-- loop.example/g03014/spec.l1Has
def spec_l1Has_L1_b (a0 : (List Int)) (a1 : Int) (s1 : Int) : Option (Ctl Int Unit Bool) :=
  bif (decide (s1 < (a0.length : Int))) then
  (gi a0 s1).bind fun v3 =>
  bif (v3 == a1) then
  some (.ret true)
  else
  some (.next (w64 (s1 + 1)))
  else
  some (.brk ())
def spec_l1Has_L1 (a0 : (List Int)) (a1 : Int) (s : Int) : Option (Ctl Int Unit Bool) := spec_l1Has_L1_b a0 a1 s
def spec_l1Has_L1_s (a0 : (List Int)) (a1 : Int) (s1 : Int) : St := ⟨[(0, .o (.c (.rs 1 (a0.map encI)))), (1, .o (.c (.v (.int .i64 a1)))), (5, .o (.c (.v (.int .i64 s1))))], []⟩
def spec_l1Has_L1_S (a0 : (List Int)) (a1 : Int) (s : Int) : St := spec_l1Has_L1_s a0 a1 s
def spec_l1Has_L1_a : Option Bool :=
  some false
def spec_l1Has_L1_k (x : (Unit) ⊕ (Bool)) : Option Bool := match x with
  | .inl t => spec_l1Has_L1_a
  | .inr y => some y
def spec_l1Has (a0 : (List Int)) (a1 : Int) : Option Bool :=
  (loopM (spec_l1Has_L1 a0 a1) big 0).bind (spec_l1Has_L1_k)
theorem spec_l1Has_ok (a0 : (List Int)) (a1 : Int) (r : Bool) (hM : spec_l1Has a0 a1 = some r) :
    Con Try.prog 90 [.c (.rs 1 (a0.map encI)), .c (.v (.int .i64 a1))] [] (.o (.c (.v (.bool r)))) [] [] := by
  unfold spec_l1Has at hM
  refine cn (N := 18) (pids := []) Try_mixed Try.func90 (by kernel_rfl) (by kernel_rfl) (by kernel_rfl) rfl fun ρ g w R => ?_
  have K1 : ∀ (_ : Unit), spec_l1Has_L1_a = some r → Gr R [.code (cAt Try.f90 [1, 1])] (⟨[], []⟩) := by
    intro _ hM
    unfold spec_l1Has_L1_a at hM
    have hE : some false = some r := hM
    have hE := Option.some.inj hE
    subst hE
    exact pr R 9999 [] [] [] [] True.intro (by kernel_rfl)
  refine pc R 9999 [] [.keep [0, 1, 5] []] (k' := [.code (.loop (cAt Try.f90 [1, 0, 1, 0, 0])), .blk 0, .code (cAt Try.f90 [1, 1])]) (S' := spec_l1Has_L1_S a0 a1 0) True.intro (by kernel_rfl) ?_
  refine lq (spec_l1Has_L1_S a0 a1) (body := spec_l1Has_L1 a0 a1) (k := spec_l1Has_L1_k) hM fun m1 s c1 hM hK1 => ?_
  obtain ⟨s1, hs⟩ : ∃ z, z = s := ⟨_, rfl⟩
  subst hs
  have hM : spec_l1Has_L1_b a0 a1 s1 = some c1 := hM
  unfold spec_l1Has_L1_b at hM
  rcases cond_cases hM with ⟨h2, hM⟩ | ⟨h2, hM⟩
  · obtain ⟨v3, h4, hM⟩ := bind_some hM
    rcases cond_cases hM with ⟨h5, hM⟩ | ⟨h5, hM⟩
    · have hE : some (Ctl.ret true) = some c1 := hM
      have hE := Option.some.inj hE
      subst hE
      have hE : some true = some r := hK1
      have hE := Option.some.inj hE
      subst hE
      exact pr R 9999 [.ln (a0.length), .as 9 true, .ix (encI v3), .as 17 true] [] [] [] (And.intro (lenm encI a0) (And.intro h2 (And.intro (gi_map encI h4) (And.intro h5 True.intro)))) (by kernel_rfl)
    · have hE : some (Ctl.next (w64 (s1 + 1))) = some c1 := hM
      have hE := Option.some.inj hE
      subst hE
      exact pc R 9999 [.ln (a0.length), .as 9 true, .ix (encI v3), .as 17 false] [.keep [0, 1, 5] []] (And.intro (lenm encI a0) (And.intro h2 (And.intro (gi_map encI h4) (And.intro h5 True.intro)))) (by kernel_rfl) (li (Sf := spec_l1Has_L1_S a0 a1) (M := Mk (spec_l1Has_L1 a0 a1) (spec_l1Has_L1_k) r) (k := [.blk 0, .code (cAt Try.f90 [1, 1])]) (Nat.lt_succ_self m1) hK1)
  · have hE : some (Ctl.brk ()) = some c1 := hM
    have hE := Option.some.inj hE
    subst hE
    exact pc R 5 [.ln (a0.length), .as 9 false] [.keep [] []] (And.intro (lenm encI a0) (And.intro h2 True.intro)) (by kernel_rfl) (K1 () hK1)

-- loop.example/g03014/spec.l3Runs
def spec_l3Runs (a0 : Network) (a1 : Int) (a2 : Int) : Option Bool :=
  (spec_l1In a1 0 (w64 ((a0.Legs.length : Int) - 1))).bind fun v1 =>
  bif v1 then
  (spec_l1In a2 0 60).bind fun v4 =>
  bif v4 then
  (gi a0.Legs a1).bind fun v7 =>
  (shrM v7.Days (Int.tmod a2 7)).bind fun v9 =>
  bif ((w64 ((BitVec.ofInt 64 v9 &&& BitVec.ofInt 64 1).toNat)) == 1) then
  (spec_l1Has a0.Off a2).bind fun v12 =>
  some (!v12)
  else
  some false
  else
  some false
  else
  some false
theorem spec_l3Runs_ok (a0 : Network) (a1 : Int) (a2 : Int) (r : Bool) (hM : spec_l3Runs a0 a1 a2 = some r) :
    Con Try.prog 67 [.agg [.rs 6 (a0.Legs.map Leg.enc), .rs 1 (a0.Off.map encI), .v (.int .i64 a0.Change)], .c (.v (.int .i64 a1)), .c (.v (.int .i64 a2))] [] (.o (.c (.v (.bool r)))) [] [] := by
  unfold spec_l3Runs at hM
  refine cn (N := 37) (pids := []) Try_mixed Try.func67 (by kernel_rfl) (by kernel_rfl) (by kernel_rfl) rfl fun ρ g w R => ?_
  obtain ⟨v1, h2, hM⟩ := bind_some hM
  rcases cond_cases hM with ⟨h3, hM⟩ | ⟨h3, hM⟩
  · obtain ⟨v4, h5, hM⟩ := bind_some hM
    rcases cond_cases hM with ⟨h6, hM⟩ | ⟨h6, hM⟩
    · obtain ⟨v7, h8, hM⟩ := bind_some hM
      obtain ⟨v9, h10, hM⟩ := bind_some hM
      rcases cond_cases hM with ⟨h11, hM⟩ | ⟨h11, hM⟩
      · obtain ⟨v12, h13, hM⟩ := bind_some hM
        have hE : some (!v12) = some r := hM
        have hE := Option.some.inj hE
        subst hE
        exact pr R 9999 [.new 0, .ln (a0.Legs.length), .call false [] (.o (.c (.v (.bool v1)))) [] [], .as 13 true, .call false [] (.o (.c (.v (.bool v4)))) [] [], .as 17 true, .ix (Leg.enc v7), .run 26 (.int .i64 v9), .as 30 true, .call false [] (.o (.c (.v (.bool v12)))) [] []] [] [] [] (And.intro (lenm Leg.enc a0.Legs) (And.intro (spec_l1In_ok a1 0 (w64 ((a0.Legs.length : Int) - 1)) v1 h2) (And.intro h3 (And.intro (spec_l1In_ok a2 0 60 v4 h5) (And.intro h6 (And.intro (gi_map Leg.enc h8) (And.intro (shrM_run (P := Try.prog) (t := 3) (x := .tmp 0) (y := .tmp 0) h10) (And.intro h11 (And.intro (spec_l1Has_ok a0.Off a2 v12 h13) True.intro))))))))) (by kernel_rfl)
      · have hE : some false = some r := hM
        have hE := Option.some.inj hE
        subst hE
        exact pr R 9999 [.new 0, .ln (a0.Legs.length), .call false [] (.o (.c (.v (.bool v1)))) [] [], .as 13 true, .call false [] (.o (.c (.v (.bool v4)))) [] [], .as 17 true, .ix (Leg.enc v7), .run 26 (.int .i64 v9), .as 30 false] [] [] [] (And.intro (lenm Leg.enc a0.Legs) (And.intro (spec_l1In_ok a1 0 (w64 ((a0.Legs.length : Int) - 1)) v1 h2) (And.intro h3 (And.intro (spec_l1In_ok a2 0 60 v4 h5) (And.intro h6 (And.intro (gi_map Leg.enc h8) (And.intro (shrM_run (P := Try.prog) (t := 3) (x := .tmp 0) (y := .tmp 0) h10) (And.intro h11 True.intro)))))))) (by kernel_rfl)
    · have hE : some false = some r := hM
      have hE := Option.some.inj hE
      subst hE
      exact pr R 9999 [.new 0, .ln (a0.Legs.length), .call false [] (.o (.c (.v (.bool v1)))) [] [], .as 13 true, .call false [] (.o (.c (.v (.bool v4)))) [] [], .as 17 false] [] [] [] (And.intro (lenm Leg.enc a0.Legs) (And.intro (spec_l1In_ok a1 0 (w64 ((a0.Legs.length : Int) - 1)) v1 h2) (And.intro h3 (And.intro (spec_l1In_ok a2 0 60 v4 h5) (And.intro h6 True.intro))))) (by kernel_rfl)
  · have hE : some false = some r := hM
    have hE := Option.some.inj hE
    subst hE
    exact pr R 9999 [.new 0, .ln (a0.Legs.length), .call false [] (.o (.c (.v (.bool v1)))) [] [], .as 13 false] [] [] [] (And.intro (lenm Leg.enc a0.Legs) (And.intro (spec_l1In_ok a1 0 (w64 ((a0.Legs.length : Int) - 1)) v1 h2) (And.intro h3 True.intro))) (by kernel_rfl)

-- loop.example/g03014/spec.l6Before
def spec_l6Before (a0 : Booking) (a1 : Booking) : Option Bool :=
  bif (a0.Trip.Day != a1.Trip.Day) then
  some (decide (a0.Trip.Day < a1.Trip.Day))
  else
  bif (a0.Trip.Leg != a1.Trip.Leg) then
  some (decide (a0.Trip.Leg < a1.Trip.Leg))
  else
  some (decide (a0.Thing < a1.Thing))
theorem spec_l6Before_ok (a0 : Booking) (a1 : Booking) (r : Bool) (hM : spec_l6Before a0 a1 = some r) :
    Con Try.prog 69 [.c (.v (.agg (Booking.enc a0).toArray)), .c (.v (.agg (Booking.enc a1).toArray))] [] (.o (.c (.v (.bool r)))) [] [] := by
  unfold spec_l6Before at hM
  refine cn (N := 40) (pids := []) Try_mixed Try.func69 (by kernel_rfl) (by kernel_rfl) (by kernel_rfl) rfl fun ρ g w R => ?_
  rcases cond_cases hM with ⟨h1, hM⟩ | ⟨h1, hM⟩
  · have hE : some (decide (a0.Trip.Day < a1.Trip.Day)) = some r := hM
    have hE := Option.some.inj hE
    subst hE
    exact pr R 9999 [.new 0, .new 1, .as 5 true] [] [] [] (And.intro h1 True.intro) (by kernel_rfl)
  · rcases cond_cases hM with ⟨h2, hM⟩ | ⟨h2, hM⟩
    · have hE : some (decide (a0.Trip.Leg < a1.Trip.Leg)) = some r := hM
      have hE := Option.some.inj hE
      subst hE
      exact pr R 9999 [.new 0, .new 1, .as 5 false, .as 20 true] [] [] [] (And.intro h1 (And.intro h2 True.intro)) (by kernel_rfl)
    · have hE : some (decide (a0.Thing < a1.Thing)) = some r := hM
      have hE := Option.some.inj hE
      subst hE
      exact pr R 9999 [.new 0, .new 1, .as 5 false, .as 20 false] [] [] [] (And.intro h1 (And.intro h2 True.intro)) (by kernel_rfl)

-- loop.example/g03014/spec.LoadOf
def spec_LoadOf_L1_b (a0 : (List Booking)) (a1 : Trip) (s1 : Int) (s2 : Int) : Option (Ctl (Int × Int) Int Int) :=
  bif (decide (s2 < (a0.length : Int))) then
  (gi a0 s2).bind fun v5 =>
  bif (decide (v5.Trip = a1)) then
  (gi a0 s2).bind fun v8 =>
  some (.next (w64 (s1 + v8.Weight), w64 (s2 + 1)))
  else
  some (.next (s1, w64 (s2 + 1)))
  else
  some (.brk s1)
def spec_LoadOf_L1 (a0 : (List Booking)) (a1 : Trip) (s : Int × Int) : Option (Ctl (Int × Int) Int Int) := spec_LoadOf_L1_b a0 a1 s.1 s.2
def spec_LoadOf_L1_s (a0 : (List Booking)) (a1 : Trip) (s1 : Int) (s2 : Int) : St := ⟨[(0, .o (.c (.rs 4 (a0.map Booking.enc)))), (3, .o (.c (.ptr 0 0))), (5, .o (.c (.v (.int .i64 s1)))), (6, .o (.c (.v (.int .i64 s2))))], [(0, .box 55 [.v (.int .i64 a1.Leg), .v (.int .i64 a1.Day)])]⟩
def spec_LoadOf_L1_S (a0 : (List Booking)) (a1 : Trip) (s : Int × Int) : St := spec_LoadOf_L1_s a0 a1 s.1 s.2
def spec_LoadOf_L1_a (s3 : Int) : Option Int :=
  some s3
def spec_LoadOf_L1_k (x : (Int) ⊕ (Int)) : Option Int := match x with
  | .inl t => spec_LoadOf_L1_a t
  | .inr y => some y
def spec_LoadOf (a0 : (List Booking)) (a1 : Trip) : Option Int :=
  (loopM (spec_LoadOf_L1 a0 a1) big (0, 0)).bind (spec_LoadOf_L1_k)
theorem spec_LoadOf_ok (a0 : (List Booking)) (a1 : Trip) (r : Int) (hM : spec_LoadOf a0 a1 = some r) :
    Con Try.prog 70 [.c (.rs 4 (a0.map Booking.enc)), .c (.v (.agg (Trip.enc a1).toArray))] [] (.o (.c (.v (.int .i64 r)))) [] [] := by
  unfold spec_LoadOf at hM
  refine cn (N := 28) (pids := []) Try_mixed Try.func70 (by kernel_rfl) (by kernel_rfl) (by kernel_rfl) rfl fun ρ g w R => ?_
  have K1 : ∀ (s3 : Int), spec_LoadOf_L1_a s3 = some r → Gr R [.code (cAt Try.f70 [1, 1, 1])] (⟨[(5, .o (.c (.v (.int .i64 s3))))], []⟩) := by
    intro s3 hM
    unfold spec_LoadOf_L1_a at hM
    have hE : some s3 = some r := hM
    have hE := Option.some.inj hE
    subst hE
    exact pr R 9999 [] [] [] [] True.intro (by kernel_rfl)
  refine pc R 9999 [.new 0] [.keep [0, 3, 5, 6] [0]] (k' := [.code (.loop (cAt Try.f70 [1, 1, 0, 1, 0, 0])), .blk 0, .code (cAt Try.f70 [1, 1, 1])]) (S' := spec_LoadOf_L1_S a0 a1 (0, 0)) True.intro (by kernel_rfl) ?_
  refine lq (spec_LoadOf_L1_S a0 a1) (body := spec_LoadOf_L1 a0 a1) (k := spec_LoadOf_L1_k) hM fun m1 s c1 hM hK1 => ?_
  obtain ⟨s1, s2⟩ := s
  have hM : spec_LoadOf_L1_b a0 a1 s1 s2 = some c1 := hM
  unfold spec_LoadOf_L1_b at hM
  rcases cond_cases hM with ⟨h4, hM⟩ | ⟨h4, hM⟩
  · obtain ⟨v5, h6, hM⟩ := bind_some hM
    rcases cond_cases hM with ⟨h7, hM⟩ | ⟨h7, hM⟩
    · obtain ⟨v8, h9, hM⟩ := bind_some hM
      have hE : some (Ctl.next (w64 (s1 + v8.Weight), w64 (s2 + 1))) = some c1 := hM
      have hE := Option.some.inj hE
      subst hE
      exact pc R 9999 [.ln (a0.length), .as 10 true, .ix (Booking.enc v5), .run 19 (.bool (decide (v5.Trip = a1))), .as 19 true, .ix (Booking.enc v8)] [.keep [0, 3, 5, 6] [0]] (And.intro (lenm Booking.enc a0) (And.intro h4 (And.intro (gi_map Booking.enc h6) (And.intro (Trip_eql55 v5.Trip a1) (And.intro h7 (And.intro (gi_map Booking.enc h9) True.intro)))))) (by kernel_rfl) (li (Sf := spec_LoadOf_L1_S a0 a1) (M := Mk (spec_LoadOf_L1 a0 a1) (spec_LoadOf_L1_k) r) (k := [.blk 0, .code (cAt Try.f70 [1, 1, 1])]) (Nat.lt_succ_self m1) hK1)
    · have hE : some (Ctl.next (s1, w64 (s2 + 1))) = some c1 := hM
      have hE := Option.some.inj hE
      subst hE
      exact pc R 9999 [.ln (a0.length), .as 10 true, .ix (Booking.enc v5), .run 19 (.bool (decide (v5.Trip = a1))), .as 19 false] [.keep [0, 3, 5, 6] [0]] (And.intro (lenm Booking.enc a0) (And.intro h4 (And.intro (gi_map Booking.enc h6) (And.intro (Trip_eql55 v5.Trip a1) (And.intro h7 True.intro))))) (by kernel_rfl) (li (Sf := spec_LoadOf_L1_S a0 a1) (M := Mk (spec_LoadOf_L1 a0 a1) (spec_LoadOf_L1_k) r) (k := [.blk 0, .code (cAt Try.f70 [1, 1, 1])]) (Nat.lt_succ_self m1) hK1)
  · have hE : some (Ctl.brk s1) = some c1 := hM
    have hE := Option.some.inj hE
    subst hE
    exact pc R 5 [.ln (a0.length), .as 10 false] [.keep [5] []] (And.intro (lenm Booking.enc a0) (And.intro h4 True.intro)) (by kernel_rfl) (K1 s1 hK1)

-- loop.example/g03014/spec.AreBookings
def spec_AreBookings_L2_b (a0 : Network) (a1 : (List Booking)) (s6 : Int) : Option (Ctl Int Unit Bool) :=
  bif (decide (s6 < (a1.length : Int))) then
  (gi a1 s6).bind fun v8 =>
  (spec_LoadOf a1 v8.Trip).bind fun v10 =>
  (gi a1 s6).bind fun v12 =>
  (gi a0.Legs v12.Trip.Leg).bind fun v14 =>
  bif (decide (v10 > v14.Room)) then
  some (.ret false)
  else
  some (.next (w64 (s6 + 1)))
  else
  some (.brk ())
def spec_AreBookings_L2 (a0 : Network) (a1 : (List Booking)) (s : Int) : Option (Ctl Int Unit Bool) := spec_AreBookings_L2_b a0 a1 s
def spec_AreBookings_L2_s (a0 : Network) (a1 : (List Booking)) (s6 : Int) : St := ⟨[(1, .o (.c (.rs 4 (a1.map Booking.enc)))), (2, .o (.c (.ptr 0 0))), (7, .o (.c (.v (.int .i64 s6))))], [(0, .box 36 [.rs 6 (a0.Legs.map Leg.enc), .rs 1 (a0.Off.map encI), .v (.int .i64 a0.Change)])]⟩
def spec_AreBookings_L2_S (a0 : Network) (a1 : (List Booking)) (s : Int) : St := spec_AreBookings_L2_s a0 a1 s
def spec_AreBookings_L2_a : Option Bool :=
  some true
def spec_AreBookings_L2_k (x : (Unit) ⊕ (Bool)) : Option Bool := match x with
  | .inl t => spec_AreBookings_L2_a
  | .inr y => some y
def spec_AreBookings_L1_b (a0 : Network) (a1 : (List Booking)) (s5 : Int) : Option (Ctl Int Unit Bool) :=
  bif (decide (s5 < (a1.length : Int))) then
  (gi a1 s5).bind fun v18 =>
  (spec_l3Runs a0 v18.Trip.Leg v18.Trip.Day).bind fun v20 =>
  bif (!v20) then
  some (.ret false)
  else
  (spec_l1In v18.Thing 1 9999).bind fun v23 =>
  bif (!v23) then
  some (.ret false)
  else
  (spec_l1In v18.Weight 1 1000000).bind fun v26 =>
  bif (!v26) then
  some (.ret false)
  else
  bif (decide (s5 > 0)) then
  (gi a1 (w64 (s5 - 1))).bind fun v30 =>
  (spec_l6Before v30 v18).bind fun v32 =>
  bif (!v32) then
  some (.ret false)
  else
  some (.next (w64 (s5 + 1)))
  else
  some (.next (w64 (s5 + 1)))
  else
  some (.brk ())
def spec_AreBookings_L1 (a0 : Network) (a1 : (List Booking)) (s : Int) : Option (Ctl Int Unit Bool) := spec_AreBookings_L1_b a0 a1 s
def spec_AreBookings_L1_s (a0 : Network) (a1 : (List Booking)) (s5 : Int) : St := ⟨[(1, .o (.c (.rs 4 (a1.map Booking.enc)))), (2, .o (.c (.ptr 0 0))), (5, .o (.c (.v (.int .i64 s5))))], [(0, .box 36 [.rs 6 (a0.Legs.map Leg.enc), .rs 1 (a0.Off.map encI), .v (.int .i64 a0.Change)])]⟩
def spec_AreBookings_L1_S (a0 : Network) (a1 : (List Booking)) (s : Int) : St := spec_AreBookings_L1_s a0 a1 s
def spec_AreBookings_L1_a (a0 : Network) (a1 : (List Booking)) : Option Bool :=
  (loopM (spec_AreBookings_L2 a0 a1) big 0).bind (spec_AreBookings_L2_k)
def spec_AreBookings_L1_k (a0 : Network) (a1 : (List Booking)) (x : (Unit) ⊕ (Bool)) : Option Bool := match x with
  | .inl t => spec_AreBookings_L1_a a0 a1
  | .inr y => some y
def spec_AreBookings (a0 : Network) (a1 : (List Booking)) : Option Bool :=
  (spec_IsNetwork a0).bind fun v1 =>
  bif (!v1) then
  some false
  else
  bif (decide ((a1.length : Int) > 120)) then
  some false
  else
  (loopM (spec_AreBookings_L1 a0 a1) big 0).bind (spec_AreBookings_L1_k a0 a1)
theorem spec_AreBookings_ok (a0 : Network) (a1 : (List Booking)) (r : Bool) (hM : spec_AreBookings a0 a1 = some r) :
    Con Try.prog 33 [.agg [.rs 6 (a0.Legs.map Leg.enc), .rs 1 (a0.Off.map encI), .v (.int .i64 a0.Change)], .c (.rs 4 (a1.map Booking.enc))] [] (.o (.c (.v (.bool r)))) [] [] := by
  unfold spec_AreBookings at hM
  refine cn (N := 86) (pids := []) Try_mixed Try.func33 (by kernel_rfl) (by kernel_rfl) (by kernel_rfl) rfl fun ρ g w R => ?_
  obtain ⟨v1, h2, hM⟩ := bind_some hM
  rcases cond_cases hM with ⟨h3, hM⟩ | ⟨h3, hM⟩
  · have hE : some false = some r := hM
    have hE := Option.some.inj hE
    subst hE
    exact pr R 9999 [.new 0, .call false [] (.o (.c (.v (.bool v1)))) [] [], .as 11 true] [] [] [] (And.intro (spec_IsNetwork_ok a0 v1 h2) (And.intro h3 True.intro)) (by kernel_rfl)
  · rcases cond_cases hM with ⟨h4, hM⟩ | ⟨h4, hM⟩
    · have hE : some false = some r := hM
      have hE := Option.some.inj hE
      subst hE
      exact pr R 9999 [.new 0, .call false [] (.o (.c (.v (.bool v1)))) [] [], .as 11 false, .ln (a1.length), .as 15 true] [] [] [] (And.intro (spec_IsNetwork_ok a0 v1 h2) (And.intro h3 (And.intro (lenm Booking.enc a1) (And.intro h4 True.intro)))) (by kernel_rfl)
    · have K1 : ∀ (_ : Unit), spec_AreBookings_L1_a a0 a1 = some r → Gr R [.code (cAt Try.f33 [1, 1, 1])] (⟨[(1, .o (.c (.rs 4 (a1.map Booking.enc)))), (2, .o (.c (.ptr 0 0)))], [(0, .box 36 [.rs 6 (a0.Legs.map Leg.enc), .rs 1 (a0.Off.map encI), .v (.int .i64 a0.Change)])]⟩) := by
        intro _ hM
        unfold spec_AreBookings_L1_a at hM
        have K2 : ∀ (_ : Unit), spec_AreBookings_L2_a = some r → Gr R [.code (cAt Try.f33 [1, 1, 1, 1])] (⟨[], []⟩) := by
          intro _ hM
          unfold spec_AreBookings_L2_a at hM
          have hE : some true = some r := hM
          have hE := Option.some.inj hE
          subst hE
          exact pr R 9999 [] [] [] [] True.intro (by kernel_rfl)
        refine pc R 9999 [] [.keep [1, 2, 7] [0]] (k' := [.code (.loop (cAt Try.f33 [1, 1, 1, 0, 1, 0, 0])), .blk 2, .code (cAt Try.f33 [1, 1, 1, 1])]) (S' := spec_AreBookings_L2_S a0 a1 0) True.intro (by kernel_rfl) ?_
        refine lq (spec_AreBookings_L2_S a0 a1) (body := spec_AreBookings_L2 a0 a1) (k := spec_AreBookings_L2_k) hM fun m2 s c2 hM hK2 => ?_
        obtain ⟨s6, hs⟩ : ∃ z, z = s := ⟨_, rfl⟩
        subst hs
        have hM : spec_AreBookings_L2_b a0 a1 s6 = some c2 := hM
        unfold spec_AreBookings_L2_b at hM
        rcases cond_cases hM with ⟨h7, hM⟩ | ⟨h7, hM⟩
        · obtain ⟨v8, h9, hM⟩ := bind_some hM
          obtain ⟨v10, h11, hM⟩ := bind_some hM
          obtain ⟨v12, h13, hM⟩ := bind_some hM
          obtain ⟨v14, h15, hM⟩ := bind_some hM
          rcases cond_cases hM with ⟨h16, hM⟩ | ⟨h16, hM⟩
          · have hE : some (Ctl.ret false) = some c2 := hM
            have hE := Option.some.inj hE
            subst hE
            have hE : some false = some r := hK2
            have hE := Option.some.inj hE
            subst hE
            exact pr R 9999 [.ln (a1.length), .as 64 true, .ix (Booking.enc v8), .call false [] (.o (.c (.v (.int .i64 v10)))) [] [], .ix (Booking.enc v12), .ix (Leg.enc v14), .as 85 true] [] [] [] (And.intro (lenm Booking.enc a1) (And.intro h7 (And.intro (gi_map Booking.enc h9) (And.intro (spec_LoadOf_ok a1 v8.Trip v10 h11) (And.intro (gi_map Booking.enc h13) (And.intro (gi_map Leg.enc h15) (And.intro h16 True.intro))))))) (by kernel_rfl)
          · have hE : some (Ctl.next (w64 (s6 + 1))) = some c2 := hM
            have hE := Option.some.inj hE
            subst hE
            exact pc R 9999 [.ln (a1.length), .as 64 true, .ix (Booking.enc v8), .call false [] (.o (.c (.v (.int .i64 v10)))) [] [], .ix (Booking.enc v12), .ix (Leg.enc v14), .as 85 false] [.keep [1, 2, 7] [0]] (And.intro (lenm Booking.enc a1) (And.intro h7 (And.intro (gi_map Booking.enc h9) (And.intro (spec_LoadOf_ok a1 v8.Trip v10 h11) (And.intro (gi_map Booking.enc h13) (And.intro (gi_map Leg.enc h15) (And.intro h16 True.intro))))))) (by kernel_rfl) (li (Sf := spec_AreBookings_L2_S a0 a1) (M := Mk (spec_AreBookings_L2 a0 a1) (spec_AreBookings_L2_k) r) (k := [.blk 2, .code (cAt Try.f33 [1, 1, 1, 1])]) (Nat.lt_succ_self m2) hK2)
        · have hE : some (Ctl.brk ()) = some c2 := hM
          have hE := Option.some.inj hE
          subst hE
          exact pc R 5 [.ln (a1.length), .as 64 false] [.keep [] []] (And.intro (lenm Booking.enc a1) (And.intro h7 True.intro)) (by kernel_rfl) (K2 () hK2)
      refine pc R 9999 [.new 0, .call false [] (.o (.c (.v (.bool v1)))) [] [], .as 11 false, .ln (a1.length), .as 15 false] [.keep [1, 2, 5] [0]] (k' := [.code (.loop (cAt Try.f33 [1, 1, 0, 1, 0, 0])), .blk 0, .code (cAt Try.f33 [1, 1, 1])]) (S' := spec_AreBookings_L1_S a0 a1 0) (And.intro (spec_IsNetwork_ok a0 v1 h2) (And.intro h3 (And.intro (lenm Booking.enc a1) (And.intro h4 True.intro)))) (by kernel_rfl) ?_
      refine lq (spec_AreBookings_L1_S a0 a1) (body := spec_AreBookings_L1 a0 a1) (k := spec_AreBookings_L1_k a0 a1) hM fun m1 s c1 hM hK1 => ?_
      obtain ⟨s5, hs⟩ : ∃ z, z = s := ⟨_, rfl⟩
      subst hs
      have hM : spec_AreBookings_L1_b a0 a1 s5 = some c1 := hM
      unfold spec_AreBookings_L1_b at hM
      rcases cond_cases hM with ⟨h17, hM⟩ | ⟨h17, hM⟩
      · obtain ⟨v18, h19, hM⟩ := bind_some hM
        obtain ⟨v20, h21, hM⟩ := bind_some hM
        rcases cond_cases hM with ⟨h22, hM⟩ | ⟨h22, hM⟩
        · have hE : some (Ctl.ret false) = some c1 := hM
          have hE := Option.some.inj hE
          subst hE
          have hE : some false = some r := hK1
          have hE := Option.some.inj hE
          subst hE
          exact pr R 9999 [.ln (a1.length), .as 19 true, .ix (Booking.enc v18), .new 1, .call false [] (.o (.c (.v (.bool v20)))) [] [], .as 35 true] [] [] [] (And.intro (lenm Booking.enc a1) (And.intro h17 (And.intro (gi_map Booking.enc h19) (And.intro (spec_l3Runs_ok a0 v18.Trip.Leg v18.Trip.Day v20 h21) (And.intro h22 True.intro))))) (by kernel_rfl)
        · obtain ⟨v23, h24, hM⟩ := bind_some hM
          rcases cond_cases hM with ⟨h25, hM⟩ | ⟨h25, hM⟩
          · have hE : some (Ctl.ret false) = some c1 := hM
            have hE := Option.some.inj hE
            subst hE
            have hE : some false = some r := hK1
            have hE := Option.some.inj hE
            subst hE
            exact pr R 9999 [.ln (a1.length), .as 19 true, .ix (Booking.enc v18), .new 1, .call false [] (.o (.c (.v (.bool v20)))) [] [], .as 35 false, .call false [] (.o (.c (.v (.bool v23)))) [] [], .as 41 true] [] [] [] (And.intro (lenm Booking.enc a1) (And.intro h17 (And.intro (gi_map Booking.enc h19) (And.intro (spec_l3Runs_ok a0 v18.Trip.Leg v18.Trip.Day v20 h21) (And.intro h22 (And.intro (spec_l1In_ok v18.Thing 1 9999 v23 h24) (And.intro h25 True.intro))))))) (by kernel_rfl)
          · obtain ⟨v26, h27, hM⟩ := bind_some hM
            rcases cond_cases hM with ⟨h28, hM⟩ | ⟨h28, hM⟩
            · have hE : some (Ctl.ret false) = some c1 := hM
              have hE := Option.some.inj hE
              subst hE
              have hE : some false = some r := hK1
              have hE := Option.some.inj hE
              subst hE
              exact pr R 9999 [.ln (a1.length), .as 19 true, .ix (Booking.enc v18), .new 1, .call false [] (.o (.c (.v (.bool v20)))) [] [], .as 35 false, .call false [] (.o (.c (.v (.bool v23)))) [] [], .as 41 false, .call false [] (.o (.c (.v (.bool v26)))) [] [], .as 47 true] [] [] [] (And.intro (lenm Booking.enc a1) (And.intro h17 (And.intro (gi_map Booking.enc h19) (And.intro (spec_l3Runs_ok a0 v18.Trip.Leg v18.Trip.Day v20 h21) (And.intro h22 (And.intro (spec_l1In_ok v18.Thing 1 9999 v23 h24) (And.intro h25 (And.intro (spec_l1In_ok v18.Weight 1 1000000 v26 h27) (And.intro h28 True.intro))))))))) (by kernel_rfl)
            · rcases cond_cases hM with ⟨h29, hM⟩ | ⟨h29, hM⟩
              · obtain ⟨v30, h31, hM⟩ := bind_some hM
                obtain ⟨v32, h33, hM⟩ := bind_some hM
                rcases cond_cases hM with ⟨h34, hM⟩ | ⟨h34, hM⟩
                · have hE : some (Ctl.ret false) = some c1 := hM
                  have hE := Option.some.inj hE
                  subst hE
                  have hE : some false = some r := hK1
                  have hE := Option.some.inj hE
                  subst hE
                  exact pr R 9999 [.ln (a1.length), .as 19 true, .ix (Booking.enc v18), .new 1, .call false [] (.o (.c (.v (.bool v20)))) [] [], .as 35 false, .call false [] (.o (.c (.v (.bool v23)))) [] [], .as 41 false, .call false [] (.o (.c (.v (.bool v26)))) [] [], .as 47 false, .as 50 true, .ix (Booking.enc v30), .call false [] (.o (.c (.v (.bool v32)))) [] [], .as 60 true] [] [] [] (And.intro (lenm Booking.enc a1) (And.intro h17 (And.intro (gi_map Booking.enc h19) (And.intro (spec_l3Runs_ok a0 v18.Trip.Leg v18.Trip.Day v20 h21) (And.intro h22 (And.intro (spec_l1In_ok v18.Thing 1 9999 v23 h24) (And.intro h25 (And.intro (spec_l1In_ok v18.Weight 1 1000000 v26 h27) (And.intro h28 (And.intro h29 (And.intro (gi_map Booking.enc h31) (And.intro (spec_l6Before_ok v30 v18 v32 h33) (And.intro h34 True.intro))))))))))))) (by kernel_rfl)
                · have hE : some (Ctl.next (w64 (s5 + 1))) = some c1 := hM
                  have hE := Option.some.inj hE
                  subst hE
                  exact pc R 9999 [.ln (a1.length), .as 19 true, .ix (Booking.enc v18), .new 1, .call false [] (.o (.c (.v (.bool v20)))) [] [], .as 35 false, .call false [] (.o (.c (.v (.bool v23)))) [] [], .as 41 false, .call false [] (.o (.c (.v (.bool v26)))) [] [], .as 47 false, .as 50 true, .ix (Booking.enc v30), .call false [] (.o (.c (.v (.bool v32)))) [] [], .as 60 false] [.keep [1, 2, 5] [0]] (And.intro (lenm Booking.enc a1) (And.intro h17 (And.intro (gi_map Booking.enc h19) (And.intro (spec_l3Runs_ok a0 v18.Trip.Leg v18.Trip.Day v20 h21) (And.intro h22 (And.intro (spec_l1In_ok v18.Thing 1 9999 v23 h24) (And.intro h25 (And.intro (spec_l1In_ok v18.Weight 1 1000000 v26 h27) (And.intro h28 (And.intro h29 (And.intro (gi_map Booking.enc h31) (And.intro (spec_l6Before_ok v30 v18 v32 h33) (And.intro h34 True.intro))))))))))))) (by kernel_rfl) (li (Sf := spec_AreBookings_L1_S a0 a1) (M := Mk (spec_AreBookings_L1 a0 a1) (spec_AreBookings_L1_k a0 a1) r) (k := [.blk 0, .code (cAt Try.f33 [1, 1, 1])]) (Nat.lt_succ_self m1) hK1)
              · have hE : some (Ctl.next (w64 (s5 + 1))) = some c1 := hM
                have hE := Option.some.inj hE
                subst hE
                exact pc R 9999 [.ln (a1.length), .as 19 true, .ix (Booking.enc v18), .new 1, .call false [] (.o (.c (.v (.bool v20)))) [] [], .as 35 false, .call false [] (.o (.c (.v (.bool v23)))) [] [], .as 41 false, .call false [] (.o (.c (.v (.bool v26)))) [] [], .as 47 false, .as 50 false] [.keep [1, 2, 5] [0]] (And.intro (lenm Booking.enc a1) (And.intro h17 (And.intro (gi_map Booking.enc h19) (And.intro (spec_l3Runs_ok a0 v18.Trip.Leg v18.Trip.Day v20 h21) (And.intro h22 (And.intro (spec_l1In_ok v18.Thing 1 9999 v23 h24) (And.intro h25 (And.intro (spec_l1In_ok v18.Weight 1 1000000 v26 h27) (And.intro h28 (And.intro h29 True.intro)))))))))) (by kernel_rfl) (li (Sf := spec_AreBookings_L1_S a0 a1) (M := Mk (spec_AreBookings_L1 a0 a1) (spec_AreBookings_L1_k a0 a1) r) (k := [.blk 0, .code (cAt Try.f33 [1, 1, 1])]) (Nat.lt_succ_self m1) hK1)
      · have hE : some (Ctl.brk ()) = some c1 := hM
        have hE := Option.some.inj hE
        subst hE
        exact pc R 5 [.ln (a1.length), .as 19 false] [.keep [1, 2] [0]] (And.intro (lenm Booking.enc a1) (And.intro h17 True.intro)) (by kernel_rfl) (K1 () hK1)

-- loop.example/g03014/spec.l6Add
def spec_l6Add_x1 (v11 : (List Booking)) : St := ⟨[(4, .o (.c (.sl 4)))], [(4, .row 57 4 (v11.map Booking.enc))]⟩
def spec_l6Add_L1_b (a0 : (List Booking)) (a1 : Booking) (s1 : Int) : Option (Ctl Int Int (List Booking)) :=
  bif (decide (s1 < (a0.length : Int))) then
  (gi a0 s1).bind fun v14 =>
  (spec_l6Before v14 a1).bind fun v16 =>
  bif v16 then
  some (.next (w64 (s1 + 1)))
  else
  some (.brk s1)
  else
  some (.brk s1)
def spec_l6Add_L1 (a0 : (List Booking)) (a1 : Booking) (s : Int) : Option (Ctl Int Int (List Booking)) := spec_l6Add_L1_b a0 a1 s
def spec_l6Add_L1_s (a0 : (List Booking)) (a1 : Booking) (s1 : Int) : St := ⟨[(0, .o (.c (.rs 4 (a0.map Booking.enc)))), (3, .o (.c (.ptr 0 0))), (5, .o (.c (.v (.int .i64 s1))))], [(0, .box 57 [.v (.int .i64 a1.Thing), .v (.int .i64 a1.Trip.Leg), .v (.int .i64 a1.Trip.Day), .v (.int .i64 a1.Weight)])]⟩
def spec_l6Add_L1_S (a0 : (List Booking)) (a1 : Booking) (s : Int) : St := spec_l6Add_L1_s a0 a1 s
def spec_l6Add_L1_a (a0 : (List Booking)) (a1 : Booking) (s2 : Int) : Option (List Booking) :=
  (slM a0 0 s2).bind fun v3 =>
  (spec_l6Copy v3).bind fun v5 =>
  (ap 32 v5 ([a1] : List Booking)).bind fun v7 =>
  (slM a0 s2 a0.length).bind fun v9 =>
  (ap 32 v7 v9).bind fun v11 =>
  some v11
def spec_l6Add_L1_k (a0 : (List Booking)) (a1 : Booking) (x : (Int) ⊕ ((List Booking))) : Option (List Booking) := match x with
  | .inl t => spec_l6Add_L1_a a0 a1 t
  | .inr y => some y
def spec_l6Add (a0 : (List Booking)) (a1 : Booking) : Option (List Booking) :=
  (loopM (spec_l6Add_L1 a0 a1) big 0).bind (spec_l6Add_L1_k a0 a1)
theorem spec_l6Add_ok (a0 : (List Booking)) (a1 : Booking) (r : (List Booking)) (hM : spec_l6Add a0 a1 = some r) :
    Con Try.prog 34 [.c (.rs 4 (a0.map Booking.enc)), .c (.v (.agg (Booking.enc a1).toArray))] [] (.o (.c (.sl 1000))) [] [(1000, .row 57 4 (r.map Booking.enc))] := by
  unfold spec_l6Add at hM
  refine cn (N := 31) (pids := []) Try_mixed Try.func34 (by kernel_rfl) (by kernel_rfl) (by kernel_rfl) rfl fun ρ g w R => ?_
  have K1 : ∀ (s2 : Int), spec_l6Add_L1_a a0 a1 s2 = some r → Gr R [.code (cAt Try.f34 [1, 1, 1])] (⟨[(0, .o (.c (.rs 4 (a0.map Booking.enc)))), (3, .o (.c (.ptr 0 0))), (5, .o (.c (.v (.int .i64 s2))))], [(0, .box 57 [.v (.int .i64 a1.Thing), .v (.int .i64 a1.Trip.Leg), .v (.int .i64 a1.Trip.Day), .v (.int .i64 a1.Weight)])]⟩) := by
    intro s2 hM
    unfold spec_l6Add_L1_a at hM
    obtain ⟨v3, h4, hM⟩ := bind_some hM
    obtain ⟨v5, h6, hM⟩ := bind_some hM
    obtain ⟨v7, h8, hM⟩ := bind_some hM
    obtain ⟨v9, h10, hM⟩ := bind_some hM
    obtain ⟨v11, h12, hM⟩ := bind_some hM
    have hE : some v11 = some r := hM
    have hE := Option.some.inj hE
    subst hE
    exact pr R 9999 [.xo [[], [], [.nm (v3.map Booking.enc)], [.call false [] (.o (.c (.sl 1))) [] [(1, .row 57 4 (v5.map Booking.enc))]], [], [.new 2], [.new 3, .nm (v7.map Booking.enc)], [], [], [.nm (v9.map Booking.enc)], [.new 4, .nm (v11.map Booking.enc)], []] [.keep [4] [4]] (spec_l6Add_x1 v11)] [.sw 4 1000] [] [1000] (And.intro (slM_ok Booking.enc h4) (And.intro (slM_okL Booking.enc h10) (And.intro (And.intro (con_sw 1000 1 (spec_l6Copy_ok v3 v5 h6)) (rfl : ([] : List Nat) = [])) (And.intro (ap_ok Booking.enc h8) (And.intro (ap_ok Booking.enc h12) (And.intro (rfl : (spec_l6Add_x1 v11) = (spec_l6Add_x1 v11)) (And.intro (And.intro (con_sw 1000 1 (spec_l6Copy_ok v3 v5 h6)) (rfl : ([] : List Nat) = [])) (And.intro (ap_ok Booking.enc h8) (And.intro (ap_ok Booking.enc h12) (And.intro (rfl : (spec_l6Add_x1 v11) = (spec_l6Add_x1 v11)) (And.intro (And.intro (con_sw 1000 1 (spec_l6Copy_ok v3 v5 h6)) (rfl : ([] : List Nat) = [])) (And.intro (ap_ok Booking.enc h8) (And.intro (ap_ok Booking.enc h12) (And.intro (rfl : (spec_l6Add_x1 v11) = (spec_l6Add_x1 v11)) True.intro)))))))))))))) (by kernel_rfl)
  refine pc R 9999 [.new 0] [.keep [0, 3, 5] [0]] (k' := [.code (.loop (cAt Try.f34 [1, 1, 0, 0, 0])), .blk 0, .code (cAt Try.f34 [1, 1, 1])]) (S' := spec_l6Add_L1_S a0 a1 0) True.intro (by kernel_rfl) ?_
  refine lq (spec_l6Add_L1_S a0 a1) (body := spec_l6Add_L1 a0 a1) (k := spec_l6Add_L1_k a0 a1) hM fun m1 s c1 hM hK1 => ?_
  obtain ⟨s1, hs⟩ : ∃ z, z = s := ⟨_, rfl⟩
  subst hs
  have hM : spec_l6Add_L1_b a0 a1 s1 = some c1 := hM
  unfold spec_l6Add_L1_b at hM
  rcases cond_cases hM with ⟨h13, hM⟩ | ⟨h13, hM⟩
  · obtain ⟨v14, h15, hM⟩ := bind_some hM
    obtain ⟨v16, h17, hM⟩ := bind_some hM
    rcases cond_cases hM with ⟨h18, hM⟩ | ⟨h18, hM⟩
    · have hE : some (Ctl.next (w64 (s1 + 1))) = some c1 := hM
      have hE := Option.some.inj hE
      subst hE
      exact pc R 9999 [.ln (a0.length), .as 10 true, .ix (Booking.enc v14), .call false [] (.o (.c (.v (.bool v16)))) [] [], .as 17 true] [.keep [0, 3, 5] [0]] (And.intro (lenm Booking.enc a0) (And.intro h13 (And.intro (gi_map Booking.enc h15) (And.intro (spec_l6Before_ok v14 a1 v16 h17) (And.intro h18 True.intro))))) (by kernel_rfl) (li (Sf := spec_l6Add_L1_S a0 a1) (M := Mk (spec_l6Add_L1 a0 a1) (spec_l6Add_L1_k a0 a1) r) (k := [.blk 0, .code (cAt Try.f34 [1, 1, 1])]) (Nat.lt_succ_self m1) hK1)
    · have hE : some (Ctl.brk s1) = some c1 := hM
      have hE := Option.some.inj hE
      subst hE
      exact pc R 5 [.ln (a0.length), .as 10 true, .ix (Booking.enc v14), .call false [] (.o (.c (.v (.bool v16)))) [] [], .as 17 false] [.keep [0, 3, 5] [0]] (And.intro (lenm Booking.enc a0) (And.intro h13 (And.intro (gi_map Booking.enc h15) (And.intro (spec_l6Before_ok v14 a1 v16 h17) (And.intro h18 True.intro))))) (by kernel_rfl) (K1 s1 hK1)
  · have hE : some (Ctl.brk s1) = some c1 := hM
    have hE := Option.some.inj hE
    subst hE
    exact pc R 5 [.ln (a0.length), .as 10 false] [.keep [0, 3, 5] [0]] (And.intro (lenm Booking.enc a0) (And.intro h13 True.intro)) (by kernel_rfl) (K1 s1 hK1)

-- loop.example/g03014/spec.BookWay
def spec_BookWay_L1_b (a2 : Int) (a3 : Int) (a4 : (List Trip)) (s7 : (List Booking)) (s8 : Int) : Option (Ctl ((List Booking) × Int) (List Booking) ((List Booking) × Bool)) :=
  bif (decide (s8 < (a4.length : Int))) then
  (gi a4 s8).bind fun v16 =>
  (spec_l6Add s7 (Booking.mk a2 v16 a3)).bind fun v18 =>
  some (.next (v18, w64 (s8 + 1)))
  else
  some (.brk s7)
def spec_BookWay_L1 (a2 : Int) (a3 : Int) (a4 : (List Trip)) (s : (List Booking) × Int) : Option (Ctl ((List Booking) × Int) (List Booking) ((List Booking) × Bool)) := spec_BookWay_L1_b a2 a3 a4 s.1 s.2
def spec_BookWay_L1_s (a0 : Network) (a1 : (List Booking)) (a2 : Int) (a3 : Int) (a4 : (List Trip)) (s7 : (List Booking)) (s8 : Int) : St := ⟨[(1, .o (.c (.rs 4 (a1.map Booking.enc)))), (2, .o (.c (.v (.int .i64 a2)))), (3, .o (.c (.v (.int .i64 a3)))), (4, .o (.c (.rs 2 (a4.map Trip.enc)))), (5, .o (.c (.ptr 0 0))), (12, .o (.c (.sl 1))), (13, .o (.c (.v (.int .i64 s8))))], [(0, .box 36 [.rs 6 (a0.Legs.map Leg.enc), .rs 1 (a0.Off.map encI), .v (.int .i64 a0.Change)]), (1, .row 57 4 (s7.map Booking.enc))]⟩
def spec_BookWay_L1_S (a0 : Network) (a1 : (List Booking)) (a2 : Int) (a3 : Int) (a4 : (List Trip)) (s : (List Booking) × Int) : St := spec_BookWay_L1_s a0 a1 a2 a3 a4 s.1 s.2
def spec_BookWay_L1_a (a0 : Network) (a1 : (List Booking)) (s9 : (List Booking)) : Option ((List Booking) × Bool) :=
  (spec_AreBookings a0 s9).bind fun v10 =>
  bif (!v10) then
  (spec_l6Copy a1).bind fun v13 =>
  some (v13, false)
  else
  some (s9, true)
def spec_BookWay_L1_k (a0 : Network) (a1 : (List Booking)) (x : ((List Booking)) ⊕ ((List Booking) × Bool)) : Option ((List Booking) × Bool) := match x with
  | .inl t => spec_BookWay_L1_a a0 a1 t
  | .inr y => some y
def spec_BookWay (a0 : Network) (a1 : (List Booking)) (a2 : Int) (a3 : Int) (a4 : (List Trip)) : Option ((List Booking) × Bool) :=
  (spec_l6Copy a1).bind fun v1 =>
  (spec_AreBookings a0 a1).bind fun v3 =>
  bif (!v3) then
  some (v1, false)
  else
  bif (decide ((a4.length : Int) > 20)) then
  some (v1, false)
  else
  (loopM (spec_BookWay_L1 a2 a3 a4) big (v1, 0)).bind (spec_BookWay_L1_k a0 a1)
theorem spec_BookWay_ok (a0 : Network) (a1 : (List Booking)) (a2 : Int) (a3 : Int) (a4 : (List Trip)) (r : (List Booking) × Bool) (hM : spec_BookWay a0 a1 a2 a3 a4 = some r) :
    Con Try.prog 9 [.agg [.rs 6 (a0.Legs.map Leg.enc), .rs 1 (a0.Off.map encI), .v (.int .i64 a0.Change)], .c (.rs 4 (a1.map Booking.enc)), .c (.v (.int .i64 a2)), .c (.v (.int .i64 a3)), .c (.rs 2 (a4.map Trip.enc))] [] (.tup [.c (.sl 1000), .c (.v (.bool r.2))]) [] [(1000, .row 57 4 (r.1.map Booking.enc))] := by
  unfold spec_BookWay at hM
  refine cn (N := 48) (pids := []) Try_mixed Try.func9 (by kernel_rfl) (by kernel_rfl) (by kernel_rfl) rfl fun ρ g w R => ?_
  obtain ⟨v1, h2, hM⟩ := bind_some hM
  obtain ⟨v3, h4, hM⟩ := bind_some hM
  rcases cond_cases hM with ⟨h5, hM⟩ | ⟨h5, hM⟩
  · have hE : some (v1, false) = some r := hM
    have hE := Option.some.inj hE
    subst hE
    exact pr R 9999 [.new 0, .call false [] (.o (.c (.sl 1))) [] [(1, .row 57 4 (v1.map Booking.enc))], .call false [] (.o (.c (.v (.bool v3)))) [] [], .as 20 true] [.sw 1 1000] [] [1000] (And.intro (And.intro (con_sw 1000 1 (spec_l6Copy_ok a1 v1 h2)) (rfl : ([] : List Nat) = [])) (And.intro (spec_AreBookings_ok a0 a1 v3 h4) (And.intro h5 True.intro))) (by kernel_rfl)
  · rcases cond_cases hM with ⟨h6, hM⟩ | ⟨h6, hM⟩
    · have hE : some (v1, false) = some r := hM
      have hE := Option.some.inj hE
      subst hE
      exact pr R 9999 [.new 0, .call false [] (.o (.c (.sl 1))) [] [(1, .row 57 4 (v1.map Booking.enc))], .call false [] (.o (.c (.v (.bool v3)))) [] [], .as 20 false, .ln (a4.length), .as 24 true] [.sw 1 1000] [] [1000] (And.intro (And.intro (con_sw 1000 1 (spec_l6Copy_ok a1 v1 h2)) (rfl : ([] : List Nat) = [])) (And.intro (spec_AreBookings_ok a0 a1 v3 h4) (And.intro h5 (And.intro (lenm Trip.enc a4) (And.intro h6 True.intro))))) (by kernel_rfl)
    · have K1 : ∀ (s9 : (List Booking)), spec_BookWay_L1_a a0 a1 s9 = some r → Gr R [.code (cAt Try.f9 [1, 1, 1, 1])] (⟨[(1, .o (.c (.rs 4 (a1.map Booking.enc)))), (5, .o (.c (.ptr 0 0))), (12, .o (.c (.sl 1)))], [(0, .box 36 [.rs 6 (a0.Legs.map Leg.enc), .rs 1 (a0.Off.map encI), .v (.int .i64 a0.Change)]), (1, .row 57 4 (s9.map Booking.enc))]⟩) := by
        intro s9 hM
        unfold spec_BookWay_L1_a at hM
        obtain ⟨v10, h11, hM⟩ := bind_some hM
        rcases cond_cases hM with ⟨h12, hM⟩ | ⟨h12, hM⟩
        · obtain ⟨v13, h14, hM⟩ := bind_some hM
          have hE : some (v13, false) = some r := hM
          have hE := Option.some.inj hE
          subst hE
          exact pr R 9999 [.call false [] (.o (.c (.v (.bool v10)))) [] [], .as 44 true, .call false [] (.o (.c (.sl 2))) [] [(2, .row 57 4 (v13.map Booking.enc))]] [.sw 2 1000] [] [1000] (And.intro (spec_AreBookings_ok a0 s9 v10 h11) (And.intro h12 (And.intro (And.intro (con_sw 1000 2 (spec_l6Copy_ok a1 v13 h14)) (rfl : ([] : List Nat) = [])) True.intro))) (by kernel_rfl)
        · have hE : some (s9, true) = some r := hM
          have hE := Option.some.inj hE
          subst hE
          exact pr R 9999 [.call false [] (.o (.c (.v (.bool v10)))) [] [], .as 44 false] [.sw 1 1000] [] [1000] (And.intro (spec_AreBookings_ok a0 s9 v10 h11) (And.intro h12 True.intro)) (by kernel_rfl)
      refine pc R 9999 [.new 0, .call false [] (.o (.c (.sl 1))) [] [(1, .row 57 4 (v1.map Booking.enc))], .call false [] (.o (.c (.v (.bool v3)))) [] [], .as 20 false, .ln (a4.length), .as 24 false] [.keep [1, 2, 3, 4, 5, 12, 13] [0, 1]] (k' := [.code (.loop (cAt Try.f9 [1, 1, 1, 0, 1, 0, 0])), .blk 0, .code (cAt Try.f9 [1, 1, 1, 1])]) (S' := spec_BookWay_L1_S a0 a1 a2 a3 a4 (v1, 0)) (And.intro (And.intro (con_sw 1000 1 (spec_l6Copy_ok a1 v1 h2)) (rfl : ([] : List Nat) = [])) (And.intro (spec_AreBookings_ok a0 a1 v3 h4) (And.intro h5 (And.intro (lenm Trip.enc a4) (And.intro h6 True.intro))))) (by kernel_rfl) ?_
      refine lq (spec_BookWay_L1_S a0 a1 a2 a3 a4) (body := spec_BookWay_L1 a2 a3 a4) (k := spec_BookWay_L1_k a0 a1) hM fun m1 s c1 hM hK1 => ?_
      obtain ⟨s7, s8⟩ := s
      have hM : spec_BookWay_L1_b a2 a3 a4 s7 s8 = some c1 := hM
      unfold spec_BookWay_L1_b at hM
      rcases cond_cases hM with ⟨h15, hM⟩ | ⟨h15, hM⟩
      · obtain ⟨v16, h17, hM⟩ := bind_some hM
        obtain ⟨v18, h19, hM⟩ := bind_some hM
        have hE : some (Ctl.next (v18, w64 (s8 + 1))) = some c1 := hM
        have hE := Option.some.inj hE
        subst hE
        exact pc R 9999 [.ln (a4.length), .as 29 true, .ix (Trip.enc v16), .call false [] (.o (.c (.sl 3))) [] [(3, .row 57 4 (v18.map Booking.enc))]] [.sw 3 1, .keep [1, 2, 3, 4, 5, 12, 13] [0, 1]] (And.intro (lenm Trip.enc a4) (And.intro h15 (And.intro (gi_map Trip.enc h17) (And.intro (And.intro (con_sw 1000 3 (spec_l6Add_ok s7 (Booking.mk a2 v16 a3) v18 h19)) (rfl : ([] : List Nat) = [])) True.intro)))) (by kernel_rfl) (li (Sf := spec_BookWay_L1_S a0 a1 a2 a3 a4) (M := Mk (spec_BookWay_L1 a2 a3 a4) (spec_BookWay_L1_k a0 a1) r) (k := [.blk 0, .code (cAt Try.f9 [1, 1, 1, 1])]) (Nat.lt_succ_self m1) hK1)
      · have hE : some (Ctl.brk s7) = some c1 := hM
        have hE := Option.some.inj hE
        subst hE
        exact pc R 5 [.ln (a4.length), .as 29 false] [.keep [1, 5, 12] [0, 1]] (And.intro (lenm Trip.enc a4) (And.intro h15 True.intro)) (by kernel_rfl) (K1 s7 hK1)

-- loop.example/g03014/impl.IsPlace
def impl_IsPlace_L1_b (a0 : ByteArray) (s1 : Int) : Option (Ctl Int Unit Bool) :=
  bif (decide (s1 < (a0.size : Int))) then
  (siM a0 s1).bind fun v3 =>
  bif (decide (v3 < 65)) then
  some (.ret false)
  else
  (siM a0 s1).bind fun v6 =>
  bif (decide (v6 > 90)) then
  some (.ret false)
  else
  some (.next (w64 (s1 + 1)))
  else
  some (.brk ())
def impl_IsPlace_L1 (a0 : ByteArray) (s : Int) : Option (Ctl Int Unit Bool) := impl_IsPlace_L1_b a0 s
def impl_IsPlace_L1_s (a0 : ByteArray) (s1 : Int) : St := ⟨[(0, .o (.c (.v (.string a0)))), (3, .o (.c (.v (.int .i64 s1))))], []⟩
def impl_IsPlace_L1_S (a0 : ByteArray) (s : Int) : St := impl_IsPlace_L1_s a0 s
def impl_IsPlace_L1_a (a0 : ByteArray) : Option Bool :=
  some ((a0.size : Int) == 3)
def impl_IsPlace_L1_k (a0 : ByteArray) (x : (Unit) ⊕ (Bool)) : Option Bool := match x with
  | .inl t => impl_IsPlace_L1_a a0
  | .inr y => some y
def impl_IsPlace (a0 : ByteArray) : Option Bool :=
  (loopM (impl_IsPlace_L1 a0) big 0).bind (impl_IsPlace_L1_k a0)
theorem impl_IsPlace_ok (a0 : ByteArray) (r : Bool) (hM : impl_IsPlace a0 = some r) :
    Con Try.prog 111 [.c (.v (.string a0))] [] (.o (.c (.v (.bool r)))) [] [] := by
  unfold impl_IsPlace at hM
  refine cn (N := 23) (pids := []) Try_mixed Try.func111 (by kernel_rfl) (by kernel_rfl) (by kernel_rfl) rfl fun ρ g w R => ?_
  have K1 : ∀ (_ : Unit), impl_IsPlace_L1_a a0 = some r → Gr R [.code (cAt Try.f111 [1, 1])] (⟨[(0, .o (.c (.v (.string a0))))], []⟩) := by
    intro _ hM
    unfold impl_IsPlace_L1_a at hM
    have hE : some ((a0.size : Int) == 3) = some r := hM
    have hE := Option.some.inj hE
    subst hE
    exact pr R 9999 [] [] [] [] True.intro (by kernel_rfl)
  refine pc R 9999 [] [.keep [0, 3] []] (k' := [.code (.loop (cAt Try.f111 [1, 0, 1, 0, 0])), .blk 0, .code (cAt Try.f111 [1, 1])]) (S' := impl_IsPlace_L1_S a0 0) True.intro (by kernel_rfl) ?_
  refine lq (impl_IsPlace_L1_S a0) (body := impl_IsPlace_L1 a0) (k := impl_IsPlace_L1_k a0) hM fun m1 s c1 hM hK1 => ?_
  obtain ⟨s1, hs⟩ : ∃ z, z = s := ⟨_, rfl⟩
  subst hs
  have hM : impl_IsPlace_L1_b a0 s1 = some c1 := hM
  unfold impl_IsPlace_L1_b at hM
  rcases cond_cases hM with ⟨h2, hM⟩ | ⟨h2, hM⟩
  · obtain ⟨v3, h4, hM⟩ := bind_some hM
    rcases cond_cases hM with ⟨h5, hM⟩ | ⟨h5, hM⟩
    · have hE : some (Ctl.ret false) = some c1 := hM
      have hE := Option.some.inj hE
      subst hE
      have hE : some false = some r := hK1
      have hE := Option.some.inj hE
      subst hE
      exact pr R 9999 [.as 7 true, .ix [.int .u8 v3], .as 14 true] [] [] [] (And.intro h2 (And.intro (siM_ok h4) (And.intro h5 True.intro))) (by kernel_rfl)
    · obtain ⟨v6, h7, hM⟩ := bind_some hM
      rcases cond_cases hM with ⟨h8, hM⟩ | ⟨h8, hM⟩
      · have hE : some (Ctl.ret false) = some c1 := hM
        have hE := Option.some.inj hE
        subst hE
        have hE : some false = some r := hK1
        have hE := Option.some.inj hE
        subst hE
        exact pr R 9999 [.as 7 true, .ix [.int .u8 v3], .as 14 false, .ix [.int .u8 v6], .as 19 true] [] [] [] (And.intro h2 (And.intro (siM_ok h4) (And.intro h5 (And.intro (siM_ok h7) (And.intro h8 True.intro))))) (by kernel_rfl)
      · have hE : some (Ctl.next (w64 (s1 + 1))) = some c1 := hM
        have hE := Option.some.inj hE
        subst hE
        exact pc R 9999 [.as 7 true, .ix [.int .u8 v3], .as 14 false, .ix [.int .u8 v6], .as 19 false] [.keep [0, 3] []] (And.intro h2 (And.intro (siM_ok h4) (And.intro h5 (And.intro (siM_ok h7) (And.intro h8 True.intro))))) (by kernel_rfl) (li (Sf := impl_IsPlace_L1_S a0) (M := Mk (impl_IsPlace_L1 a0) (impl_IsPlace_L1_k a0) r) (k := [.blk 0, .code (cAt Try.f111 [1, 1])]) (Nat.lt_succ_self m1) hK1)
  · have hE : some (Ctl.brk ()) = some c1 := hM
    have hE := Option.some.inj hE
    subst hE
    exact pc R 5 [.as 7 false] [.keep [0] []] (And.intro h2 True.intro) (by kernel_rfl) (K1 () hK1)

-- loop.example/g03014/impl.within
def impl_within (a0 : Int) (a1 : Int) (a2 : Int) : Option Bool :=
  bif (decide (a1 ≤ a0)) then
  some (decide (a0 ≤ a2))
  else
  some false
theorem impl_within_ok (a0 : Int) (a1 : Int) (a2 : Int) (r : Bool) (hM : impl_within a0 a1 a2 = some r) :
    Con Try.prog 64 [.c (.v (.int .i64 a0)), .c (.v (.int .i64 a1)), .c (.v (.int .i64 a2))] [] (.o (.c (.v (.bool r)))) [] [] := by
  unfold impl_within at hM
  refine cn (N := 15) (pids := []) Try_mixed Try.func64 (by kernel_rfl) (by kernel_rfl) (by kernel_rfl) rfl fun ρ g w R => ?_
  rcases cond_cases hM with ⟨h1, hM⟩ | ⟨h1, hM⟩
  · have hE : some (decide (a0 ≤ a2)) = some r := hM
    have hE := Option.some.inj hE
    subst hE
    exact pr R 9999 [.as 10 true] [] [] [] (And.intro h1 True.intro) (by kernel_rfl)
  · have hE : some false = some r := hM
    have hE := Option.some.inj hE
    subst hE
    exact pr R 9999 [.as 10 false] [] [] [] (And.intro h1 True.intro) (by kernel_rfl)

-- loop.example/g03014/impl.IsLeg
def impl_IsLeg (a0 : Leg) : Option Bool :=
  (impl_IsPlace a0.From).bind fun v1 =>
  bif v1 then
  (impl_IsPlace a0.To).bind fun v4 =>
  bif v4 then
  bif (!(a0.From.toList == a0.To.toList)) then
  (impl_within a0.Start 0 1439).bind fun v8 =>
  bif v8 then
  (impl_within a0.Takes 1 4320).bind fun v11 =>
  bif v11 then
  (impl_within a0.Days 1 127).bind fun v14 =>
  bif v14 then
  (impl_within a0.Room 0 1000000).bind fun v17 =>
  some v17
  else
  some false
  else
  some false
  else
  some false
  else
  some false
  else
  some false
  else
  some false
theorem impl_IsLeg_ok (a0 : Leg) (r : Bool) (hM : impl_IsLeg a0 = some r) :
    Con Try.prog 88 [.c (.v (.agg (Leg.enc a0).toArray))] [] (.o (.c (.v (.bool r)))) [] [] := by
  unfold impl_IsLeg at hM
  refine cn (N := 38) (pids := []) Try_mixed Try.func88 (by kernel_rfl) (by kernel_rfl) (by kernel_rfl) rfl fun ρ g w R => ?_
  obtain ⟨v1, h2, hM⟩ := bind_some hM
  rcases cond_cases hM with ⟨h3, hM⟩ | ⟨h3, hM⟩
  · obtain ⟨v4, h5, hM⟩ := bind_some hM
    rcases cond_cases hM with ⟨h6, hM⟩ | ⟨h6, hM⟩
    · rcases cond_cases hM with ⟨h7, hM⟩ | ⟨h7, hM⟩
      · obtain ⟨v8, h9, hM⟩ := bind_some hM
        rcases cond_cases hM with ⟨h10, hM⟩ | ⟨h10, hM⟩
        · obtain ⟨v11, h12, hM⟩ := bind_some hM
          rcases cond_cases hM with ⟨h13, hM⟩ | ⟨h13, hM⟩
          · obtain ⟨v14, h15, hM⟩ := bind_some hM
            rcases cond_cases hM with ⟨h16, hM⟩ | ⟨h16, hM⟩
            · obtain ⟨v17, h18, hM⟩ := bind_some hM
              have hE : some v17 = some r := hM
              have hE := Option.some.inj hE
              subst hE
              exact pr R 9999 [.new 0, .call false [] (.o (.c (.v (.bool v1)))) [] [], .as 6 true, .call false [] (.o (.c (.v (.bool v4)))) [] [], .as 11 true, .as 18 true, .call false [] (.o (.c (.v (.bool v8)))) [] [], .as 23 true, .call false [] (.o (.c (.v (.bool v11)))) [] [], .as 28 true, .call false [] (.o (.c (.v (.bool v14)))) [] [], .as 33 true, .call false [] (.o (.c (.v (.bool v17)))) [] []] [] [] [] (And.intro (impl_IsPlace_ok a0.From v1 h2) (And.intro h3 (And.intro (impl_IsPlace_ok a0.To v4 h5) (And.intro h6 (And.intro h7 (And.intro (impl_within_ok a0.Start 0 1439 v8 h9) (And.intro h10 (And.intro (impl_within_ok a0.Takes 1 4320 v11 h12) (And.intro h13 (And.intro (impl_within_ok a0.Days 1 127 v14 h15) (And.intro h16 (And.intro (impl_within_ok a0.Room 0 1000000 v17 h18) True.intro)))))))))))) (by kernel_rfl)
            · have hE : some false = some r := hM
              have hE := Option.some.inj hE
              subst hE
              exact pr R 9999 [.new 0, .call false [] (.o (.c (.v (.bool v1)))) [] [], .as 6 true, .call false [] (.o (.c (.v (.bool v4)))) [] [], .as 11 true, .as 18 true, .call false [] (.o (.c (.v (.bool v8)))) [] [], .as 23 true, .call false [] (.o (.c (.v (.bool v11)))) [] [], .as 28 true, .call false [] (.o (.c (.v (.bool v14)))) [] [], .as 33 false] [] [] [] (And.intro (impl_IsPlace_ok a0.From v1 h2) (And.intro h3 (And.intro (impl_IsPlace_ok a0.To v4 h5) (And.intro h6 (And.intro h7 (And.intro (impl_within_ok a0.Start 0 1439 v8 h9) (And.intro h10 (And.intro (impl_within_ok a0.Takes 1 4320 v11 h12) (And.intro h13 (And.intro (impl_within_ok a0.Days 1 127 v14 h15) (And.intro h16 True.intro))))))))))) (by kernel_rfl)
          · have hE : some false = some r := hM
            have hE := Option.some.inj hE
            subst hE
            exact pr R 9999 [.new 0, .call false [] (.o (.c (.v (.bool v1)))) [] [], .as 6 true, .call false [] (.o (.c (.v (.bool v4)))) [] [], .as 11 true, .as 18 true, .call false [] (.o (.c (.v (.bool v8)))) [] [], .as 23 true, .call false [] (.o (.c (.v (.bool v11)))) [] [], .as 28 false] [] [] [] (And.intro (impl_IsPlace_ok a0.From v1 h2) (And.intro h3 (And.intro (impl_IsPlace_ok a0.To v4 h5) (And.intro h6 (And.intro h7 (And.intro (impl_within_ok a0.Start 0 1439 v8 h9) (And.intro h10 (And.intro (impl_within_ok a0.Takes 1 4320 v11 h12) (And.intro h13 True.intro))))))))) (by kernel_rfl)
        · have hE : some false = some r := hM
          have hE := Option.some.inj hE
          subst hE
          exact pr R 9999 [.new 0, .call false [] (.o (.c (.v (.bool v1)))) [] [], .as 6 true, .call false [] (.o (.c (.v (.bool v4)))) [] [], .as 11 true, .as 18 true, .call false [] (.o (.c (.v (.bool v8)))) [] [], .as 23 false] [] [] [] (And.intro (impl_IsPlace_ok a0.From v1 h2) (And.intro h3 (And.intro (impl_IsPlace_ok a0.To v4 h5) (And.intro h6 (And.intro h7 (And.intro (impl_within_ok a0.Start 0 1439 v8 h9) (And.intro h10 True.intro))))))) (by kernel_rfl)
      · have hE : some false = some r := hM
        have hE := Option.some.inj hE
        subst hE
        exact pr R 9999 [.new 0, .call false [] (.o (.c (.v (.bool v1)))) [] [], .as 6 true, .call false [] (.o (.c (.v (.bool v4)))) [] [], .as 11 true, .as 18 false] [] [] [] (And.intro (impl_IsPlace_ok a0.From v1 h2) (And.intro h3 (And.intro (impl_IsPlace_ok a0.To v4 h5) (And.intro h6 (And.intro h7 True.intro))))) (by kernel_rfl)
    · have hE : some false = some r := hM
      have hE := Option.some.inj hE
      subst hE
      exact pr R 9999 [.new 0, .call false [] (.o (.c (.v (.bool v1)))) [] [], .as 6 true, .call false [] (.o (.c (.v (.bool v4)))) [] [], .as 11 false] [] [] [] (And.intro (impl_IsPlace_ok a0.From v1 h2) (And.intro h3 (And.intro (impl_IsPlace_ok a0.To v4 h5) (And.intro h6 True.intro)))) (by kernel_rfl)
  · have hE : some false = some r := hM
    have hE := Option.some.inj hE
    subst hE
    exact pr R 9999 [.new 0, .call false [] (.o (.c (.v (.bool v1)))) [] [], .as 6 false] [] [] [] (And.intro (impl_IsPlace_ok a0.From v1 h2) (And.intro h3 True.intro)) (by kernel_rfl)

-- loop.example/g03014/impl.IsNetwork
def impl_IsNetwork_L2_b (a0 : Network) (s2 : Int) : Option (Ctl Int Unit Bool) :=
  bif (decide (s2 < (a0.Off.length : Int))) then
  (gi a0.Off s2).bind fun v8 =>
  (impl_within v8 0 60).bind fun v10 =>
  bif (!v10) then
  some (.ret false)
  else
  bif (decide (s2 > 0)) then
  (gi a0.Off (w64 (s2 - 1))).bind fun v14 =>
  bif (decide (v14 ≥ v8)) then
  some (.ret false)
  else
  some (.next (w64 (s2 + 1)))
  else
  some (.next (w64 (s2 + 1)))
  else
  some (.brk ())
def impl_IsNetwork_L2 (a0 : Network) (s : Int) : Option (Ctl Int Unit Bool) := impl_IsNetwork_L2_b a0 s
def impl_IsNetwork_L2_s (a0 : Network) (s2 : Int) : St := ⟨[(1, .o (.c (.ptr 0 0))), (19, .o (.c (.rs 1 (a0.Off.map encI)))), (20, .o (.c (.v (.int .i64 (a0.Off.length : Int))))), (21, .o (.c (.v (.int .i64 s2))))], [(0, .box 36 [.rs 6 (a0.Legs.map Leg.enc), .rs 1 (a0.Off.map encI), .v (.int .i64 a0.Change)])]⟩
def impl_IsNetwork_L2_S (a0 : Network) (s : Int) : St := impl_IsNetwork_L2_s a0 s
def impl_IsNetwork_L2_a (a0 : Network) : Option Bool :=
  bif (decide ((a0.Legs.length : Int) ≤ 20)) then
  bif (decide ((a0.Off.length : Int) ≤ 10)) then
  (impl_within a0.Change 0 240).bind fun v5 =>
  some v5
  else
  some false
  else
  some false
def impl_IsNetwork_L2_k (a0 : Network) (x : (Unit) ⊕ (Bool)) : Option Bool := match x with
  | .inl t => impl_IsNetwork_L2_a a0
  | .inr y => some y
def impl_IsNetwork_L1_b (a0 : Network) (s1 : Int) : Option (Ctl Int Unit Bool) :=
  bif (decide (s1 < (a0.Legs.length : Int))) then
  (gi a0.Legs s1).bind fun v18 =>
  (impl_IsLeg v18).bind fun v20 =>
  bif (!v20) then
  some (.ret false)
  else
  some (.next (w64 (s1 + 1)))
  else
  some (.brk ())
def impl_IsNetwork_L1 (a0 : Network) (s : Int) : Option (Ctl Int Unit Bool) := impl_IsNetwork_L1_b a0 s
def impl_IsNetwork_L1_s (a0 : Network) (s1 : Int) : St := ⟨[(1, .o (.c (.ptr 0 0))), (8, .o (.c (.rs 6 (a0.Legs.map Leg.enc)))), (9, .o (.c (.v (.int .i64 (a0.Legs.length : Int))))), (10, .o (.c (.v (.int .i64 s1))))], [(0, .box 36 [.rs 6 (a0.Legs.map Leg.enc), .rs 1 (a0.Off.map encI), .v (.int .i64 a0.Change)])]⟩
def impl_IsNetwork_L1_S (a0 : Network) (s : Int) : St := impl_IsNetwork_L1_s a0 s
def impl_IsNetwork_L1_a (a0 : Network) : Option Bool :=
  (loopM (impl_IsNetwork_L2 a0) big 0).bind (impl_IsNetwork_L2_k a0)
def impl_IsNetwork_L1_k (a0 : Network) (x : (Unit) ⊕ (Bool)) : Option Bool := match x with
  | .inl t => impl_IsNetwork_L1_a a0
  | .inr y => some y
def impl_IsNetwork (a0 : Network) : Option Bool :=
  (loopM (impl_IsNetwork_L1 a0) big 0).bind (impl_IsNetwork_L1_k a0)
theorem impl_IsNetwork_ok (a0 : Network) (r : Bool) (hM : impl_IsNetwork a0 = some r) :
    Con Try.prog 63 [.agg [.rs 6 (a0.Legs.map Leg.enc), .rs 1 (a0.Off.map encI), .v (.int .i64 a0.Change)]] [] (.o (.c (.v (.bool r)))) [] [] := by
  unfold impl_IsNetwork at hM
  refine cn (N := 59) (pids := []) Try_mixed Try.func63 (by kernel_rfl) (by kernel_rfl) (by kernel_rfl) rfl fun ρ g w R => ?_
  have K1 : ∀ (_ : Unit), impl_IsNetwork_L1_a a0 = some r → Gr R [.code (cAt Try.f63 [1, 1])] (⟨[(1, .o (.c (.ptr 0 0)))], [(0, .box 36 [.rs 6 (a0.Legs.map Leg.enc), .rs 1 (a0.Off.map encI), .v (.int .i64 a0.Change)])]⟩) := by
    intro _ hM
    unfold impl_IsNetwork_L1_a at hM
    have K2 : ∀ (_ : Unit), impl_IsNetwork_L2_a a0 = some r → Gr R [.code (cAt Try.f63 [1, 1, 1])] (⟨[(1, .o (.c (.ptr 0 0)))], [(0, .box 36 [.rs 6 (a0.Legs.map Leg.enc), .rs 1 (a0.Off.map encI), .v (.int .i64 a0.Change)])]⟩) := by
      intro _ hM
      unfold impl_IsNetwork_L2_a at hM
      rcases cond_cases hM with ⟨h3, hM⟩ | ⟨h3, hM⟩
      · rcases cond_cases hM with ⟨h4, hM⟩ | ⟨h4, hM⟩
        · obtain ⟨v5, h6, hM⟩ := bind_some hM
          have hE : some v5 = some r := hM
          have hE := Option.some.inj hE
          subst hE
          exact pr R 9999 [.ln (a0.Legs.length), .as 48 true, .ln (a0.Off.length), .as 54 true, .call false [] (.o (.c (.v (.bool v5)))) [] []] [] [] [] (And.intro (lenm Leg.enc a0.Legs) (And.intro h3 (And.intro (lenm encI a0.Off) (And.intro h4 (And.intro (impl_within_ok a0.Change 0 240 v5 h6) True.intro))))) (by kernel_rfl)
        · have hE : some false = some r := hM
          have hE := Option.some.inj hE
          subst hE
          exact pr R 9999 [.ln (a0.Legs.length), .as 48 true, .ln (a0.Off.length), .as 54 false] [] [] [] (And.intro (lenm Leg.enc a0.Legs) (And.intro h3 (And.intro (lenm encI a0.Off) (And.intro h4 True.intro)))) (by kernel_rfl)
      · have hE : some false = some r := hM
        have hE := Option.some.inj hE
        subst hE
        exact pr R 9999 [.ln (a0.Legs.length), .as 48 false] [] [] [] (And.intro (lenm Leg.enc a0.Legs) (And.intro h3 True.intro)) (by kernel_rfl)
    refine pc R 9999 [.ln (a0.Off.length)] [.keep [1, 19, 20, 21] [0]] (k' := [.code (.loop (cAt Try.f63 [1, 1, 0, 1, 0, 0])), .blk 2, .code (cAt Try.f63 [1, 1, 1])]) (S' := impl_IsNetwork_L2_S a0 0) (And.intro (lenm encI a0.Off) True.intro) (by kernel_rfl) ?_
    refine lq (impl_IsNetwork_L2_S a0) (body := impl_IsNetwork_L2 a0) (k := impl_IsNetwork_L2_k a0) hM fun m2 s c2 hM hK2 => ?_
    obtain ⟨s2, hs⟩ : ∃ z, z = s := ⟨_, rfl⟩
    subst hs
    have hM : impl_IsNetwork_L2_b a0 s2 = some c2 := hM
    unfold impl_IsNetwork_L2_b at hM
    rcases cond_cases hM with ⟨h7, hM⟩ | ⟨h7, hM⟩
    · obtain ⟨v8, h9, hM⟩ := bind_some hM
      obtain ⟨v10, h11, hM⟩ := bind_some hM
      rcases cond_cases hM with ⟨h12, hM⟩ | ⟨h12, hM⟩
      · have hE : some (Ctl.ret false) = some c2 := hM
        have hE := Option.some.inj hE
        subst hE
        have hE : some false = some r := hK2
        have hE := Option.some.inj hE
        subst hE
        exact pr R 9999 [.as 22 true, .ix (encI v8), .call false [] (.o (.c (.v (.bool v10)))) [] [], .as 29 true] [] [] [] (And.intro h7 (And.intro (gi_map encI h9) (And.intro (impl_within_ok v8 0 60 v10 h11) (And.intro h12 True.intro)))) (by kernel_rfl)
      · rcases cond_cases hM with ⟨h13, hM⟩ | ⟨h13, hM⟩
        · obtain ⟨v14, h15, hM⟩ := bind_some hM
          rcases cond_cases hM with ⟨h16, hM⟩ | ⟨h16, hM⟩
          · have hE : some (Ctl.ret false) = some c2 := hM
            have hE := Option.some.inj hE
            subst hE
            have hE : some false = some r := hK2
            have hE := Option.some.inj hE
            subst hE
            exact pr R 9999 [.as 22 true, .ix (encI v8), .call false [] (.o (.c (.v (.bool v10)))) [] [], .as 29 false, .as 32 true, .ix (encI v14), .as 42 true] [] [] [] (And.intro h7 (And.intro (gi_map encI h9) (And.intro (impl_within_ok v8 0 60 v10 h11) (And.intro h12 (And.intro h13 (And.intro (gi_map encI h15) (And.intro h16 True.intro))))))) (by kernel_rfl)
          · have hE : some (Ctl.next (w64 (s2 + 1))) = some c2 := hM
            have hE := Option.some.inj hE
            subst hE
            exact pc R 9999 [.as 22 true, .ix (encI v8), .call false [] (.o (.c (.v (.bool v10)))) [] [], .as 29 false, .as 32 true, .ix (encI v14), .as 42 false] [.keep [1, 19, 20, 21] [0]] (And.intro h7 (And.intro (gi_map encI h9) (And.intro (impl_within_ok v8 0 60 v10 h11) (And.intro h12 (And.intro h13 (And.intro (gi_map encI h15) (And.intro h16 True.intro))))))) (by kernel_rfl) (li (Sf := impl_IsNetwork_L2_S a0) (M := Mk (impl_IsNetwork_L2 a0) (impl_IsNetwork_L2_k a0) r) (k := [.blk 2, .code (cAt Try.f63 [1, 1, 1])]) (Nat.lt_succ_self m2) hK2)
        · have hE : some (Ctl.next (w64 (s2 + 1))) = some c2 := hM
          have hE := Option.some.inj hE
          subst hE
          exact pc R 9999 [.as 22 true, .ix (encI v8), .call false [] (.o (.c (.v (.bool v10)))) [] [], .as 29 false, .as 32 false] [.keep [1, 19, 20, 21] [0]] (And.intro h7 (And.intro (gi_map encI h9) (And.intro (impl_within_ok v8 0 60 v10 h11) (And.intro h12 (And.intro h13 True.intro))))) (by kernel_rfl) (li (Sf := impl_IsNetwork_L2_S a0) (M := Mk (impl_IsNetwork_L2 a0) (impl_IsNetwork_L2_k a0) r) (k := [.blk 2, .code (cAt Try.f63 [1, 1, 1])]) (Nat.lt_succ_self m2) hK2)
    · have hE : some (Ctl.brk ()) = some c2 := hM
      have hE := Option.some.inj hE
      subst hE
      exact pc R 5 [.as 22 false] [.keep [1] [0]] (And.intro h7 True.intro) (by kernel_rfl) (K2 () hK2)
  refine pc R 9999 [.new 0, .ln (a0.Legs.length)] [.keep [1, 8, 9, 10] [0]] (k' := [.code (.loop (cAt Try.f63 [1, 0, 1, 0, 0])), .blk 0, .code (cAt Try.f63 [1, 1])]) (S' := impl_IsNetwork_L1_S a0 0) (And.intro (lenm Leg.enc a0.Legs) True.intro) (by kernel_rfl) ?_
  refine lq (impl_IsNetwork_L1_S a0) (body := impl_IsNetwork_L1 a0) (k := impl_IsNetwork_L1_k a0) hM fun m1 s c1 hM hK1 => ?_
  obtain ⟨s1, hs⟩ : ∃ z, z = s := ⟨_, rfl⟩
  subst hs
  have hM : impl_IsNetwork_L1_b a0 s1 = some c1 := hM
  unfold impl_IsNetwork_L1_b at hM
  rcases cond_cases hM with ⟨h17, hM⟩ | ⟨h17, hM⟩
  · obtain ⟨v18, h19, hM⟩ := bind_some hM
    obtain ⟨v20, h21, hM⟩ := bind_some hM
    rcases cond_cases hM with ⟨h22, hM⟩ | ⟨h22, hM⟩
    · have hE : some (Ctl.ret false) = some c1 := hM
      have hE := Option.some.inj hE
      subst hE
      have hE : some false = some r := hK1
      have hE := Option.some.inj hE
      subst hE
      exact pr R 9999 [.as 11 true, .ix (Leg.enc v18), .new 1, .call false [] (.o (.c (.v (.bool v20)))) [] [], .as 16 true] [] [] [] (And.intro h17 (And.intro (gi_map Leg.enc h19) (And.intro (impl_IsLeg_ok v18 v20 h21) (And.intro h22 True.intro)))) (by kernel_rfl)
    · have hE : some (Ctl.next (w64 (s1 + 1))) = some c1 := hM
      have hE := Option.some.inj hE
      subst hE
      exact pc R 9999 [.as 11 true, .ix (Leg.enc v18), .new 1, .call false [] (.o (.c (.v (.bool v20)))) [] [], .as 16 false] [.keep [1, 8, 9, 10] [0]] (And.intro h17 (And.intro (gi_map Leg.enc h19) (And.intro (impl_IsLeg_ok v18 v20 h21) (And.intro h22 True.intro)))) (by kernel_rfl) (li (Sf := impl_IsNetwork_L1_S a0) (M := Mk (impl_IsNetwork_L1 a0) (impl_IsNetwork_L1_k a0) r) (k := [.blk 0, .code (cAt Try.f63 [1, 1])]) (Nat.lt_succ_self m1) hK1)
  · have hE : some (Ctl.brk ()) = some c1 := hM
    have hE := Option.some.inj hE
    subst hE
    exact pc R 5 [.as 11 false] [.keep [1] [0]] (And.intro h17 True.intro) (by kernel_rfl) (K1 () hK1)

-- loop.example/g03014/impl.compareInts
def impl_compareInts (a0 : Int) (a1 : Int) : Option Int :=
  bif (decide (a0 < a1)) then
  some (-1)
  else
  bif (decide (a0 > a1)) then
  some 1
  else
  some 0
theorem impl_compareInts_ok (a0 : Int) (a1 : Int) (r : Int) (hM : impl_compareInts a0 a1 = some r) :
    Con Try.prog 77 [.c (.v (.int .i64 a0)), .c (.v (.int .i64 a1))] [] (.o (.c (.v (.int .i64 r)))) [] [] := by
  unfold impl_compareInts at hM
  refine cn (N := 13) (pids := []) Try_mixed Try.func77 (by kernel_rfl) (by kernel_rfl) (by kernel_rfl) rfl fun ρ g w R => ?_
  rcases cond_cases hM with ⟨h1, hM⟩ | ⟨h1, hM⟩
  · have hE : some (-1) = some r := hM
    have hE := Option.some.inj hE
    subst hE
    exact pr R 9999 [.as 5 true] [] [] [] (And.intro h1 True.intro) (by kernel_rfl)
  · rcases cond_cases hM with ⟨h2, hM⟩ | ⟨h2, hM⟩
    · have hE : some 1 = some r := hM
      have hE := Option.some.inj hE
      subst hE
      exact pr R 9999 [.as 5 false, .as 9 true] [] [] [] (And.intro h1 (And.intro h2 True.intro)) (by kernel_rfl)
    · have hE : some 0 = some r := hM
      have hE := Option.some.inj hE
      subst hE
      exact pr R 9999 [.as 5 false, .as 9 false] [] [] [] (And.intro h1 (And.intro h2 True.intro)) (by kernel_rfl)

-- loop.example/g03014/impl.first
def impl_first_L1_b (a0 : (List Int)) (s1 : Int) : Option (Ctl Int Unit Int) :=
  bif (decide (s1 < (a0.length : Int))) then
  (gi a0 s1).bind fun v3 =>
  bif (v3 != 0) then
  some (.ret v3)
  else
  some (.next (w64 (s1 + 1)))
  else
  some (.brk ())
def impl_first_L1 (a0 : (List Int)) (s : Int) : Option (Ctl Int Unit Int) := impl_first_L1_b a0 s
def impl_first_L1_s (a0 : (List Int)) (s1 : Int) : St := ⟨[(5, .o (.c (.rs 1 (a0.map encI)))), (6, .o (.c (.v (.int .i64 (a0.length : Int))))), (7, .o (.c (.v (.int .i64 s1))))], []⟩
def impl_first_L1_S (a0 : (List Int)) (s : Int) : St := impl_first_L1_s a0 s
def impl_first_L1_a : Option Int :=
  some 0
def impl_first_L1_k (x : (Unit) ⊕ (Int)) : Option Int := match x with
  | .inl t => impl_first_L1_a
  | .inr y => some y
def impl_first (a0 : (List Int)) : Option Int :=
  (loopM (impl_first_L1 a0) big 0).bind (impl_first_L1_k)
theorem impl_first_ok (a0 : (List Int)) (r : Int) (hM : impl_first a0 = some r) :
    Con Try.prog 76 [.c (.rs 1 (a0.map encI))] [] (.o (.c (.v (.int .i64 r)))) [] [] := by
  unfold impl_first at hM
  refine cn (N := 15) (pids := []) Try_mixed Try.func76 (by kernel_rfl) (by kernel_rfl) (by kernel_rfl) rfl fun ρ g w R => ?_
  have K1 : ∀ (_ : Unit), impl_first_L1_a = some r → Gr R [.code (cAt Try.f76 [1, 1])] (⟨[], []⟩) := by
    intro _ hM
    unfold impl_first_L1_a at hM
    have hE : some 0 = some r := hM
    have hE := Option.some.inj hE
    subst hE
    exact pr R 9999 [] [] [] [] True.intro (by kernel_rfl)
  refine pc R 9999 [.ln (a0.length)] [.keep [5, 6, 7] []] (k' := [.code (.loop (cAt Try.f76 [1, 0, 1, 0, 0])), .blk 0, .code (cAt Try.f76 [1, 1])]) (S' := impl_first_L1_S a0 0) (And.intro (lenm encI a0) True.intro) (by kernel_rfl) ?_
  refine lq (impl_first_L1_S a0) (body := impl_first_L1 a0) (k := impl_first_L1_k) hM fun m1 s c1 hM hK1 => ?_
  obtain ⟨s1, hs⟩ : ∃ z, z = s := ⟨_, rfl⟩
  subst hs
  have hM : impl_first_L1_b a0 s1 = some c1 := hM
  unfold impl_first_L1_b at hM
  rcases cond_cases hM with ⟨h2, hM⟩ | ⟨h2, hM⟩
  · obtain ⟨v3, h4, hM⟩ := bind_some hM
    rcases cond_cases hM with ⟨h5, hM⟩ | ⟨h5, hM⟩
    · have hE : some (Ctl.ret v3) = some c1 := hM
      have hE := Option.some.inj hE
      subst hE
      have hE : some v3 = some r := hK1
      have hE := Option.some.inj hE
      subst hE
      exact pr R 9999 [.as 8 true, .ix (encI v3), .as 12 true] [] [] [] (And.intro h2 (And.intro (gi_map encI h4) (And.intro h5 True.intro))) (by kernel_rfl)
    · have hE : some (Ctl.next (w64 (s1 + 1))) = some c1 := hM
      have hE := Option.some.inj hE
      subst hE
      exact pc R 9999 [.as 8 true, .ix (encI v3), .as 12 false] [.keep [5, 6, 7] []] (And.intro h2 (And.intro (gi_map encI h4) (And.intro h5 True.intro))) (by kernel_rfl) (li (Sf := impl_first_L1_S a0) (M := Mk (impl_first_L1 a0) (impl_first_L1_k) r) (k := [.blk 0, .code (cAt Try.f76 [1, 1])]) (Nat.lt_succ_self m1) hK1)
  · have hE : some (Ctl.brk ()) = some c1 := hM
    have hE := Option.some.inj hE
    subst hE
    exact pc R 5 [.as 8 false] [.keep [] []] (And.intro h2 True.intro) (by kernel_rfl) (K1 () hK1)

-- loop.example/g03014/impl.compareBookings
def impl_compareBookings (a0 : Booking) (a1 : Booking) : Option Int :=
  (impl_compareInts a0.Trip.Day a1.Trip.Day).bind fun v1 =>
  (impl_compareInts a0.Trip.Leg a1.Trip.Leg).bind fun v3 =>
  (impl_compareInts a0.Thing a1.Thing).bind fun v5 =>
  (impl_first ([v1, v3, v5] : List Int)).bind fun v7 =>
  some v7
theorem impl_compareBookings_ok (a0 : Booking) (a1 : Booking) (r : Int) (hM : impl_compareBookings a0 a1 = some r) :
    Con Try.prog 42 [.c (.v (.agg (Booking.enc a0).toArray)), .c (.v (.agg (Booking.enc a1).toArray))] [] (.o (.c (.v (.int .i64 r)))) [] [] := by
  unfold impl_compareBookings at hM
  refine cn (N := 26) (pids := []) Try_mixed Try.func42 (by kernel_rfl) (by kernel_rfl) (by kernel_rfl) rfl fun ρ g w R => ?_
  obtain ⟨v1, h2, hM⟩ := bind_some hM
  obtain ⟨v3, h4, hM⟩ := bind_some hM
  obtain ⟨v5, h6, hM⟩ := bind_some hM
  obtain ⟨v7, h8, hM⟩ := bind_some hM
  have hE : some v7 = some r := hM
  have hE := Option.some.inj hE
  subst hE
  exact pr R 9999 [.new 0, .new 1, .call false [] (.o (.c (.v (.int .i64 v1)))) [] [], .call false [] (.o (.c (.v (.int .i64 v3)))) [] [], .call false [] (.o (.c (.v (.int .i64 v5)))) [] [], .new 2, .call false [] (.o (.c (.v (.int .i64 v7)))) [] []] [] [] [] (And.intro (impl_compareInts_ok a0.Trip.Day a1.Trip.Day v1 h2) (And.intro (impl_compareInts_ok a0.Trip.Leg a1.Trip.Leg v3 h4) (And.intro (impl_compareInts_ok a0.Thing a1.Thing v5 h6) (And.intro (impl_first_ok ([v1, v3, v5] : List Int) v7 h8) True.intro)))) (by kernel_rfl)

-- loop.example/g03014/impl.runs
def impl_runs_L1_b (a0 : Network) (a2 : Int) (s11 : Int) : Option (Ctl Int Unit Bool) :=
  bif (decide (s11 < (a0.Off.length : Int))) then
  (gi a0.Off s11).bind fun v13 =>
  bif (v13 == a2) then
  some (.ret false)
  else
  some (.next (w64 (s11 + 1)))
  else
  some (.brk ())
def impl_runs_L1 (a0 : Network) (a2 : Int) (s : Int) : Option (Ctl Int Unit Bool) := impl_runs_L1_b a0 a2 s
def impl_runs_L1_s (a0 : Network) (a2 : Int) (s11 : Int) : St := ⟨[(2, .o (.c (.v (.int .i64 a2)))), (37, .o (.c (.rs 1 (a0.Off.map encI)))), (38, .o (.c (.v (.int .i64 (a0.Off.length : Int))))), (39, .o (.c (.v (.int .i64 s11))))], []⟩
def impl_runs_L1_S (a0 : Network) (a2 : Int) (s : Int) : St := impl_runs_L1_s a0 a2 s
def impl_runs_L1_a : Option Bool :=
  some true
def impl_runs_L1_k (x : (Unit) ⊕ (Bool)) : Option Bool := match x with
  | .inl t => impl_runs_L1_a
  | .inr y => some y
def impl_runs (a0 : Network) (a1 : Int) (a2 : Int) : Option Bool :=
  bif (decide (a1 < 0)) then
  some false
  else
  bif (decide (a1 ≥ (a0.Legs.length : Int))) then
  some false
  else
  (impl_within a2 0 60).bind fun v3 =>
  bif (!v3) then
  some false
  else
  (gi a0.Legs a1).bind fun v6 =>
  (shrM v6.Days (Int.tmod a2 7)).bind fun v8 =>
  bif ((w64 ((BitVec.ofInt 64 v8 &&& BitVec.ofInt 64 1).toNat)) == 0) then
  some false
  else
  (loopM (impl_runs_L1 a0 a2) big 0).bind (impl_runs_L1_k)
theorem impl_runs_ok (a0 : Network) (a1 : Int) (a2 : Int) (r : Bool) (hM : impl_runs a0 a1 a2 = some r) :
    Con Try.prog 110 [.agg [.rs 6 (a0.Legs.map Leg.enc), .rs 1 (a0.Off.map encI), .v (.int .i64 a0.Change)], .c (.v (.int .i64 a1)), .c (.v (.int .i64 a2))] [] (.o (.c (.v (.bool r)))) [] [] := by
  unfold impl_runs at hM
  refine cn (N := 47) (pids := []) Try_mixed Try.func110 (by kernel_rfl) (by kernel_rfl) (by kernel_rfl) rfl fun ρ g w R => ?_
  rcases cond_cases hM with ⟨h1, hM⟩ | ⟨h1, hM⟩
  · have hE : some false = some r := hM
    have hE := Option.some.inj hE
    subst hE
    exact pr R 9999 [.new 0, .as 11 true] [] [] [] (And.intro h1 True.intro) (by kernel_rfl)
  · rcases cond_cases hM with ⟨h2, hM⟩ | ⟨h2, hM⟩
    · have hE : some false = some r := hM
      have hE := Option.some.inj hE
      subst hE
      exact pr R 9999 [.new 0, .as 11 false, .ln (a0.Legs.length), .as 18 true] [] [] [] (And.intro h1 (And.intro (lenm Leg.enc a0.Legs) (And.intro h2 True.intro))) (by kernel_rfl)
    · obtain ⟨v3, h4, hM⟩ := bind_some hM
      rcases cond_cases hM with ⟨h5, hM⟩ | ⟨h5, hM⟩
      · have hE : some false = some r := hM
        have hE := Option.some.inj hE
        subst hE
        exact pr R 9999 [.new 0, .as 11 false, .ln (a0.Legs.length), .as 18 false, .call false [] (.o (.c (.v (.bool v3)))) [] [], .as 23 true] [] [] [] (And.intro h1 (And.intro (lenm Leg.enc a0.Legs) (And.intro h2 (And.intro (impl_within_ok a2 0 60 v3 h4) (And.intro h5 True.intro))))) (by kernel_rfl)
      · obtain ⟨v6, h7, hM⟩ := bind_some hM
        obtain ⟨v8, h9, hM⟩ := bind_some hM
        rcases cond_cases hM with ⟨h10, hM⟩ | ⟨h10, hM⟩
        · have hE : some false = some r := hM
          have hE := Option.some.inj hE
          subst hE
          exact pr R 9999 [.new 0, .as 11 false, .ln (a0.Legs.length), .as 18 false, .call false [] (.o (.c (.v (.bool v3)))) [] [], .as 23 false, .ix (Leg.enc v6), .run 32 (.int .i64 v8), .as 35 true] [] [] [] (And.intro h1 (And.intro (lenm Leg.enc a0.Legs) (And.intro h2 (And.intro (impl_within_ok a2 0 60 v3 h4) (And.intro h5 (And.intro (gi_map Leg.enc h7) (And.intro (shrM_run (P := Try.prog) (t := 3) (x := .tmp 0) (y := .tmp 0) h9) (And.intro h10 True.intro)))))))) (by kernel_rfl)
        · have K1 : ∀ (_ : Unit), impl_runs_L1_a = some r → Gr R [.code (cAt Try.f110 [1, 1, 1])] (⟨[], []⟩) := by
            intro _ hM
            unfold impl_runs_L1_a at hM
            have hE : some true = some r := hM
            have hE := Option.some.inj hE
            subst hE
            exact pr R 9999 [] [] [] [] True.intro (by kernel_rfl)
          refine pc R 9999 [.new 0, .as 11 false, .ln (a0.Legs.length), .as 18 false, .call false [] (.o (.c (.v (.bool v3)))) [] [], .as 23 false, .ix (Leg.enc v6), .run 32 (.int .i64 v8), .as 35 false, .ln (a0.Off.length)] [.keep [2, 37, 38, 39] []] (k' := [.code (.loop (cAt Try.f110 [1, 1, 0, 1, 0, 0])), .blk 0, .code (cAt Try.f110 [1, 1, 1])]) (S' := impl_runs_L1_S a0 a2 0) (And.intro h1 (And.intro (lenm Leg.enc a0.Legs) (And.intro h2 (And.intro (impl_within_ok a2 0 60 v3 h4) (And.intro h5 (And.intro (gi_map Leg.enc h7) (And.intro (shrM_run (P := Try.prog) (t := 3) (x := .tmp 0) (y := .tmp 0) h9) (And.intro h10 (And.intro (lenm encI a0.Off) True.intro))))))))) (by kernel_rfl) ?_
          refine lq (impl_runs_L1_S a0 a2) (body := impl_runs_L1 a0 a2) (k := impl_runs_L1_k) hM fun m1 s c1 hM hK1 => ?_
          obtain ⟨s11, hs⟩ : ∃ z, z = s := ⟨_, rfl⟩
          subst hs
          have hM : impl_runs_L1_b a0 a2 s11 = some c1 := hM
          unfold impl_runs_L1_b at hM
          rcases cond_cases hM with ⟨h12, hM⟩ | ⟨h12, hM⟩
          · obtain ⟨v13, h14, hM⟩ := bind_some hM
            rcases cond_cases hM with ⟨h15, hM⟩ | ⟨h15, hM⟩
            · have hE : some (Ctl.ret false) = some c1 := hM
              have hE := Option.some.inj hE
              subst hE
              have hE : some false = some r := hK1
              have hE := Option.some.inj hE
              subst hE
              exact pr R 9999 [.as 40 true, .ix (encI v13), .as 45 true] [] [] [] (And.intro h12 (And.intro (gi_map encI h14) (And.intro h15 True.intro))) (by kernel_rfl)
            · have hE : some (Ctl.next (w64 (s11 + 1))) = some c1 := hM
              have hE := Option.some.inj hE
              subst hE
              exact pc R 9999 [.as 40 true, .ix (encI v13), .as 45 false] [.keep [2, 37, 38, 39] []] (And.intro h12 (And.intro (gi_map encI h14) (And.intro h15 True.intro))) (by kernel_rfl) (li (Sf := impl_runs_L1_S a0 a2) (M := Mk (impl_runs_L1 a0 a2) (impl_runs_L1_k) r) (k := [.blk 0, .code (cAt Try.f110 [1, 1, 1])]) (Nat.lt_succ_self m1) hK1)
          · have hE : some (Ctl.brk ()) = some c1 := hM
            have hE := Option.some.inj hE
            subst hE
            exact pc R 5 [.as 40 false] [.keep [] []] (And.intro h12 True.intro) (by kernel_rfl) (K1 () hK1)

-- loop.example/g03014/impl.RunsOn
def impl_RunsOn (a0 : Network) (a1 : Int) (a2 : Int) : Option Bool :=
  (impl_IsNetwork a0).bind fun v1 =>
  bif v1 then
  (impl_runs a0 a1 a2).bind fun v4 =>
  some v4
  else
  some false
theorem impl_RunsOn_ok (a0 : Network) (a1 : Int) (a2 : Int) (r : Bool) (hM : impl_RunsOn a0 a1 a2 = some r) :
    Con Try.prog 87 [.agg [.rs 6 (a0.Legs.map Leg.enc), .rs 1 (a0.Off.map encI), .v (.int .i64 a0.Change)], .c (.v (.int .i64 a1)), .c (.v (.int .i64 a2))] [] (.o (.c (.v (.bool r)))) [] [] := by
  unfold impl_RunsOn at hM
  refine cn (N := 15) (pids := []) Try_mixed Try.func87 (by kernel_rfl) (by kernel_rfl) (by kernel_rfl) rfl fun ρ g w R => ?_
  obtain ⟨v1, h2, hM⟩ := bind_some hM
  rcases cond_cases hM with ⟨h3, hM⟩ | ⟨h3, hM⟩
  · obtain ⟨v4, h5, hM⟩ := bind_some hM
    have hE : some v4 = some r := hM
    have hE := Option.some.inj hE
    subst hE
    exact pr R 9999 [.new 0, .call false [] (.o (.c (.v (.bool v1)))) [] [], .as 9 true, .call false [] (.o (.c (.v (.bool v4)))) [] []] [] [] [] (And.intro (impl_IsNetwork_ok a0 v1 h2) (And.intro h3 (And.intro (impl_runs_ok a0 a1 a2 v4 h5) True.intro))) (by kernel_rfl)
  · have hE : some false = some r := hM
    have hE := Option.some.inj hE
    subst hE
    exact pr R 9999 [.new 0, .call false [] (.o (.c (.v (.bool v1)))) [] [], .as 9 false] [] [] [] (And.intro (impl_IsNetwork_ok a0 v1 h2) (And.intro h3 True.intro)) (by kernel_rfl)

-- loop.example/g03014/impl.IsTrip
def impl_IsTrip (a0 : Network) (a1 : Trip) : Option Bool :=
  (impl_RunsOn a0 a1.Leg a1.Day).bind fun v1 =>
  some v1
theorem impl_IsTrip_ok (a0 : Network) (a1 : Trip) (r : Bool) (hM : impl_IsTrip a0 a1 = some r) :
    Con Try.prog 61 [.agg [.rs 6 (a0.Legs.map Leg.enc), .rs 1 (a0.Off.map encI), .v (.int .i64 a0.Change)], .c (.v (.agg (Trip.enc a1).toArray))] [] (.o (.c (.v (.bool r)))) [] [] := by
  unfold impl_IsTrip at hM
  refine cn (N := 11) (pids := []) Try_mixed Try.func61 (by kernel_rfl) (by kernel_rfl) (by kernel_rfl) rfl fun ρ g w R => ?_
  obtain ⟨v1, h2, hM⟩ := bind_some hM
  have hE : some v1 = some r := hM
  have hE := Option.some.inj hE
  subst hE
  exact pr R 9999 [.new 0, .new 1, .call false [] (.o (.c (.v (.bool v1)))) [] []] [] [] [] (And.intro (impl_RunsOn_ok a0 a1.Leg a1.Day v1 h2) True.intro) (by kernel_rfl)

-- loop.example/g03014/impl.LoadOf
def impl_LoadOf_L1_b (a0 : (List Booking)) (a1 : Trip) (s1 : Int) (s2 : Int) : Option (Ctl (Int × Int) Int Int) :=
  bif (decide (s2 < (a0.length : Int))) then
  (gi a0 s2).bind fun v5 =>
  bif (decide (v5.Trip = a1)) then
  some (.next (w64 (s1 + v5.Weight), w64 (s2 + 1)))
  else
  some (.next (s1, w64 (s2 + 1)))
  else
  some (.brk s1)
def impl_LoadOf_L1 (a0 : (List Booking)) (a1 : Trip) (s : Int × Int) : Option (Ctl (Int × Int) Int Int) := impl_LoadOf_L1_b a0 a1 s.1 s.2
def impl_LoadOf_L1_s (a0 : (List Booking)) (a1 : Trip) (s1 : Int) (s2 : Int) : St := ⟨[(3, .o (.c (.ptr 0 0))), (5, .o (.c (.v (.int .i64 s1)))), (8, .o (.c (.rs 4 (a0.map Booking.enc)))), (9, .o (.c (.v (.int .i64 (a0.length : Int))))), (10, .o (.c (.v (.int .i64 s2))))], [(0, .box 55 [.v (.int .i64 a1.Leg), .v (.int .i64 a1.Day)])]⟩
def impl_LoadOf_L1_S (a0 : (List Booking)) (a1 : Trip) (s : Int × Int) : St := impl_LoadOf_L1_s a0 a1 s.1 s.2
def impl_LoadOf_L1_a (s3 : Int) : Option Int :=
  some s3
def impl_LoadOf_L1_k (x : (Int) ⊕ (Int)) : Option Int := match x with
  | .inl t => impl_LoadOf_L1_a t
  | .inr y => some y
def impl_LoadOf (a0 : (List Booking)) (a1 : Trip) : Option Int :=
  (loopM (impl_LoadOf_L1 a0 a1) big (0, 0)).bind (impl_LoadOf_L1_k)
theorem impl_LoadOf_ok (a0 : (List Booking)) (a1 : Trip) (r : Int) (hM : impl_LoadOf a0 a1 = some r) :
    Con Try.prog 62 [.c (.rs 4 (a0.map Booking.enc)), .c (.v (.agg (Trip.enc a1).toArray))] [] (.o (.c (.v (.int .i64 r)))) [] [] := by
  unfold impl_LoadOf at hM
  refine cn (N := 24) (pids := []) Try_mixed Try.func62 (by kernel_rfl) (by kernel_rfl) (by kernel_rfl) rfl fun ρ g w R => ?_
  have K1 : ∀ (s3 : Int), impl_LoadOf_L1_a s3 = some r → Gr R [.code (cAt Try.f62 [1, 1, 1])] (⟨[(5, .o (.c (.v (.int .i64 s3))))], []⟩) := by
    intro s3 hM
    unfold impl_LoadOf_L1_a at hM
    have hE : some s3 = some r := hM
    have hE := Option.some.inj hE
    subst hE
    exact pr R 9999 [] [] [] [] True.intro (by kernel_rfl)
  refine pc R 9999 [.new 0, .ln (a0.length)] [.keep [3, 5, 8, 9, 10] [0]] (k' := [.code (.loop (cAt Try.f62 [1, 1, 0, 1, 0, 0])), .blk 0, .code (cAt Try.f62 [1, 1, 1])]) (S' := impl_LoadOf_L1_S a0 a1 (0, 0)) (And.intro (lenm Booking.enc a0) True.intro) (by kernel_rfl) ?_
  refine lq (impl_LoadOf_L1_S a0 a1) (body := impl_LoadOf_L1 a0 a1) (k := impl_LoadOf_L1_k) hM fun m1 s c1 hM hK1 => ?_
  obtain ⟨s1, s2⟩ := s
  have hM : impl_LoadOf_L1_b a0 a1 s1 s2 = some c1 := hM
  unfold impl_LoadOf_L1_b at hM
  rcases cond_cases hM with ⟨h4, hM⟩ | ⟨h4, hM⟩
  · obtain ⟨v5, h6, hM⟩ := bind_some hM
    rcases cond_cases hM with ⟨h7, hM⟩ | ⟨h7, hM⟩
    · have hE : some (Ctl.next (w64 (s1 + v5.Weight), w64 (s2 + 1))) = some c1 := hM
      have hE := Option.some.inj hE
      subst hE
      exact pc R 9999 [.as 11 true, .ix (Booking.enc v5), .new 1, .run 17 (.bool (decide (v5.Trip = a1))), .as 17 true] [.keep [3, 5, 8, 9, 10] [0]] (And.intro h4 (And.intro (gi_map Booking.enc h6) (And.intro (Trip_eql55 v5.Trip a1) (And.intro h7 True.intro)))) (by kernel_rfl) (li (Sf := impl_LoadOf_L1_S a0 a1) (M := Mk (impl_LoadOf_L1 a0 a1) (impl_LoadOf_L1_k) r) (k := [.blk 0, .code (cAt Try.f62 [1, 1, 1])]) (Nat.lt_succ_self m1) hK1)
    · have hE : some (Ctl.next (s1, w64 (s2 + 1))) = some c1 := hM
      have hE := Option.some.inj hE
      subst hE
      exact pc R 9999 [.as 11 true, .ix (Booking.enc v5), .new 1, .run 17 (.bool (decide (v5.Trip = a1))), .as 17 false] [.keep [3, 5, 8, 9, 10] [0]] (And.intro h4 (And.intro (gi_map Booking.enc h6) (And.intro (Trip_eql55 v5.Trip a1) (And.intro h7 True.intro)))) (by kernel_rfl) (li (Sf := impl_LoadOf_L1_S a0 a1) (M := Mk (impl_LoadOf_L1 a0 a1) (impl_LoadOf_L1_k) r) (k := [.blk 0, .code (cAt Try.f62 [1, 1, 1])]) (Nat.lt_succ_self m1) hK1)
  · have hE : some (Ctl.brk s1) = some c1 := hM
    have hE := Option.some.inj hE
    subst hE
    exact pc R 5 [.as 11 false] [.keep [5] []] (And.intro h4 True.intro) (by kernel_rfl) (K1 s1 hK1)

-- loop.example/g03014/impl.AreBookings
def impl_AreBookings_L1_b (a0 : Network) (a1 : (List Booking)) (s5 : Int) : Option (Ctl Int Unit Bool) :=
  bif (decide (s5 < (a1.length : Int))) then
  (gi a1 s5).bind fun v7 =>
  bif (decide (s5 > 0)) then
  (gi a1 (w64 (s5 - 1))).bind fun v10 =>
  (impl_compareBookings v10 v7).bind fun v12 =>
  bif (decide (v12 ≥ 0)) then
  some (.ret false)
  else
  (impl_IsTrip a0 v7.Trip).bind fun v15 =>
  bif (!v15) then
  some (.ret false)
  else
  (impl_within v7.Thing 1 9999).bind fun v18 =>
  bif (!v18) then
  some (.ret false)
  else
  (impl_within v7.Weight 1 1000000).bind fun v21 =>
  bif (!v21) then
  some (.ret false)
  else
  (impl_LoadOf a1 v7.Trip).bind fun v24 =>
  (gi a0.Legs v7.Trip.Leg).bind fun v26 =>
  bif (decide (v24 > v26.Room)) then
  some (.ret false)
  else
  some (.next (w64 (s5 + 1)))
  else
  (impl_IsTrip a0 v7.Trip).bind fun v29 =>
  bif (!v29) then
  some (.ret false)
  else
  (impl_within v7.Thing 1 9999).bind fun v32 =>
  bif (!v32) then
  some (.ret false)
  else
  (impl_within v7.Weight 1 1000000).bind fun v35 =>
  bif (!v35) then
  some (.ret false)
  else
  (impl_LoadOf a1 v7.Trip).bind fun v38 =>
  (gi a0.Legs v7.Trip.Leg).bind fun v40 =>
  bif (decide (v38 > v40.Room)) then
  some (.ret false)
  else
  some (.next (w64 (s5 + 1)))
  else
  some (.brk ())
def impl_AreBookings_L1 (a0 : Network) (a1 : (List Booking)) (s : Int) : Option (Ctl Int Unit Bool) := impl_AreBookings_L1_b a0 a1 s
def impl_AreBookings_L1_s (a0 : Network) (a1 : (List Booking)) (s5 : Int) : St := ⟨[(1, .o (.c (.rs 4 (a1.map Booking.enc)))), (2, .o (.c (.ptr 0 0))), (15, .o (.c (.rs 4 (a1.map Booking.enc)))), (16, .o (.c (.v (.int .i64 (a1.length : Int))))), (17, .o (.c (.v (.int .i64 s5))))], [(0, .box 36 [.rs 6 (a0.Legs.map Leg.enc), .rs 1 (a0.Off.map encI), .v (.int .i64 a0.Change)])]⟩
def impl_AreBookings_L1_S (a0 : Network) (a1 : (List Booking)) (s : Int) : St := impl_AreBookings_L1_s a0 a1 s
def impl_AreBookings_L1_a : Option Bool :=
  some true
def impl_AreBookings_L1_k (x : (Unit) ⊕ (Bool)) : Option Bool := match x with
  | .inl t => impl_AreBookings_L1_a
  | .inr y => some y
def impl_AreBookings (a0 : Network) (a1 : (List Booking)) : Option Bool :=
  (impl_IsNetwork a0).bind fun v1 =>
  bif (!v1) then
  some false
  else
  bif (decide ((a1.length : Int) > 120)) then
  some false
  else
  (loopM (impl_AreBookings_L1 a0 a1) big 0).bind (impl_AreBookings_L1_k)
theorem impl_AreBookings_ok (a0 : Network) (a1 : (List Booking)) (r : Bool) (hM : impl_AreBookings a0 a1 = some r) :
    Con Try.prog 29 [.agg [.rs 6 (a0.Legs.map Leg.enc), .rs 1 (a0.Off.map encI), .v (.int .i64 a0.Change)], .c (.rs 4 (a1.map Booking.enc))] [] (.o (.c (.v (.bool r)))) [] [] := by
  unfold impl_AreBookings at hM
  refine cn (N := 69) (pids := []) Try_mixed Try.func29 (by kernel_rfl) (by kernel_rfl) (by kernel_rfl) rfl fun ρ g w R => ?_
  obtain ⟨v1, h2, hM⟩ := bind_some hM
  rcases cond_cases hM with ⟨h3, hM⟩ | ⟨h3, hM⟩
  · have hE : some false = some r := hM
    have hE := Option.some.inj hE
    subst hE
    exact pr R 9999 [.new 0, .call false [] (.o (.c (.v (.bool v1)))) [] [], .as 10 true] [] [] [] (And.intro (impl_IsNetwork_ok a0 v1 h2) (And.intro h3 True.intro)) (by kernel_rfl)
  · rcases cond_cases hM with ⟨h4, hM⟩ | ⟨h4, hM⟩
    · have hE : some false = some r := hM
      have hE := Option.some.inj hE
      subst hE
      exact pr R 9999 [.new 0, .call false [] (.o (.c (.v (.bool v1)))) [] [], .as 10 false, .ln (a1.length), .as 14 true] [] [] [] (And.intro (impl_IsNetwork_ok a0 v1 h2) (And.intro h3 (And.intro (lenm Booking.enc a1) (And.intro h4 True.intro)))) (by kernel_rfl)
    · have K1 : ∀ (_ : Unit), impl_AreBookings_L1_a = some r → Gr R [.code (cAt Try.f29 [1, 1, 1])] (⟨[], []⟩) := by
        intro _ hM
        unfold impl_AreBookings_L1_a at hM
        have hE : some true = some r := hM
        have hE := Option.some.inj hE
        subst hE
        exact pr R 9999 [] [] [] [] True.intro (by kernel_rfl)
      refine pc R 9999 [.new 0, .call false [] (.o (.c (.v (.bool v1)))) [] [], .as 10 false, .ln (a1.length), .as 14 false, .ln (a1.length)] [.keep [1, 2, 15, 16, 17] [0]] (k' := [.code (.loop (cAt Try.f29 [1, 1, 0, 1, 0, 0])), .blk 0, .code (cAt Try.f29 [1, 1, 1])]) (S' := impl_AreBookings_L1_S a0 a1 0) (And.intro (impl_IsNetwork_ok a0 v1 h2) (And.intro h3 (And.intro (lenm Booking.enc a1) (And.intro h4 (And.intro (lenm Booking.enc a1) True.intro))))) (by kernel_rfl) ?_
      refine lq (impl_AreBookings_L1_S a0 a1) (body := impl_AreBookings_L1 a0 a1) (k := impl_AreBookings_L1_k) hM fun m1 s c1 hM hK1 => ?_
      obtain ⟨s5, hs⟩ : ∃ z, z = s := ⟨_, rfl⟩
      subst hs
      have hM : impl_AreBookings_L1_b a0 a1 s5 = some c1 := hM
      unfold impl_AreBookings_L1_b at hM
      rcases cond_cases hM with ⟨h6, hM⟩ | ⟨h6, hM⟩
      · obtain ⟨v7, h8, hM⟩ := bind_some hM
        rcases cond_cases hM with ⟨h9, hM⟩ | ⟨h9, hM⟩
        · obtain ⟨v10, h11, hM⟩ := bind_some hM
          obtain ⟨v12, h13, hM⟩ := bind_some hM
          rcases cond_cases hM with ⟨h14, hM⟩ | ⟨h14, hM⟩
          · have hE : some (Ctl.ret false) = some c1 := hM
            have hE := Option.some.inj hE
            subst hE
            have hE : some false = some r := hK1
            have hE := Option.some.inj hE
            subst hE
            exact pr R 9999 [.as 18 true, .ix (Booking.enc v7), .new 1, .as 24 true, .ix (Booking.enc v10), .call false [] (.o (.c (.v (.int .i64 v12)))) [] [], .as 34 true] [] [] [] (And.intro h6 (And.intro (gi_map Booking.enc h8) (And.intro h9 (And.intro (gi_map Booking.enc h11) (And.intro (impl_compareBookings_ok v10 v7 v12 h13) (And.intro h14 True.intro)))))) (by kernel_rfl)
          · obtain ⟨v15, h16, hM⟩ := bind_some hM
            rcases cond_cases hM with ⟨h17, hM⟩ | ⟨h17, hM⟩
            · have hE : some (Ctl.ret false) = some c1 := hM
              have hE := Option.some.inj hE
              subst hE
              have hE : some false = some r := hK1
              have hE := Option.some.inj hE
              subst hE
              exact pr R 9999 [.as 18 true, .ix (Booking.enc v7), .new 1, .as 24 true, .ix (Booking.enc v10), .call false [] (.o (.c (.v (.int .i64 v12)))) [] [], .as 34 false, .call false [] (.o (.c (.v (.bool v15)))) [] [], .as 41 true] [] [] [] (And.intro h6 (And.intro (gi_map Booking.enc h8) (And.intro h9 (And.intro (gi_map Booking.enc h11) (And.intro (impl_compareBookings_ok v10 v7 v12 h13) (And.intro h14 (And.intro (impl_IsTrip_ok a0 v7.Trip v15 h16) (And.intro h17 True.intro)))))))) (by kernel_rfl)
            · obtain ⟨v18, h19, hM⟩ := bind_some hM
              rcases cond_cases hM with ⟨h20, hM⟩ | ⟨h20, hM⟩
              · have hE : some (Ctl.ret false) = some c1 := hM
                have hE := Option.some.inj hE
                subst hE
                have hE : some false = some r := hK1
                have hE := Option.some.inj hE
                subst hE
                exact pr R 9999 [.as 18 true, .ix (Booking.enc v7), .new 1, .as 24 true, .ix (Booking.enc v10), .call false [] (.o (.c (.v (.int .i64 v12)))) [] [], .as 34 false, .call false [] (.o (.c (.v (.bool v15)))) [] [], .as 41 false, .call false [] (.o (.c (.v (.bool v18)))) [] [], .as 47 true] [] [] [] (And.intro h6 (And.intro (gi_map Booking.enc h8) (And.intro h9 (And.intro (gi_map Booking.enc h11) (And.intro (impl_compareBookings_ok v10 v7 v12 h13) (And.intro h14 (And.intro (impl_IsTrip_ok a0 v7.Trip v15 h16) (And.intro h17 (And.intro (impl_within_ok v7.Thing 1 9999 v18 h19) (And.intro h20 True.intro)))))))))) (by kernel_rfl)
              · obtain ⟨v21, h22, hM⟩ := bind_some hM
                rcases cond_cases hM with ⟨h23, hM⟩ | ⟨h23, hM⟩
                · have hE : some (Ctl.ret false) = some c1 := hM
                  have hE := Option.some.inj hE
                  subst hE
                  have hE : some false = some r := hK1
                  have hE := Option.some.inj hE
                  subst hE
                  exact pr R 9999 [.as 18 true, .ix (Booking.enc v7), .new 1, .as 24 true, .ix (Booking.enc v10), .call false [] (.o (.c (.v (.int .i64 v12)))) [] [], .as 34 false, .call false [] (.o (.c (.v (.bool v15)))) [] [], .as 41 false, .call false [] (.o (.c (.v (.bool v18)))) [] [], .as 47 false, .call false [] (.o (.c (.v (.bool v21)))) [] [], .as 53 true] [] [] [] (And.intro h6 (And.intro (gi_map Booking.enc h8) (And.intro h9 (And.intro (gi_map Booking.enc h11) (And.intro (impl_compareBookings_ok v10 v7 v12 h13) (And.intro h14 (And.intro (impl_IsTrip_ok a0 v7.Trip v15 h16) (And.intro h17 (And.intro (impl_within_ok v7.Thing 1 9999 v18 h19) (And.intro h20 (And.intro (impl_within_ok v7.Weight 1 1000000 v21 h22) (And.intro h23 True.intro)))))))))))) (by kernel_rfl)
                · obtain ⟨v24, h25, hM⟩ := bind_some hM
                  obtain ⟨v26, h27, hM⟩ := bind_some hM
                  rcases cond_cases hM with ⟨h28, hM⟩ | ⟨h28, hM⟩
                  · have hE : some (Ctl.ret false) = some c1 := hM
                    have hE := Option.some.inj hE
                    subst hE
                    have hE : some false = some r := hK1
                    have hE := Option.some.inj hE
                    subst hE
                    exact pr R 9999 [.as 18 true, .ix (Booking.enc v7), .new 1, .as 24 true, .ix (Booking.enc v10), .call false [] (.o (.c (.v (.int .i64 v12)))) [] [], .as 34 false, .call false [] (.o (.c (.v (.bool v15)))) [] [], .as 41 false, .call false [] (.o (.c (.v (.bool v18)))) [] [], .as 47 false, .call false [] (.o (.c (.v (.bool v21)))) [] [], .as 53 false, .call false [] (.o (.c (.v (.int .i64 v24)))) [] [], .ix (Leg.enc v26), .as 67 true] [] [] [] (And.intro h6 (And.intro (gi_map Booking.enc h8) (And.intro h9 (And.intro (gi_map Booking.enc h11) (And.intro (impl_compareBookings_ok v10 v7 v12 h13) (And.intro h14 (And.intro (impl_IsTrip_ok a0 v7.Trip v15 h16) (And.intro h17 (And.intro (impl_within_ok v7.Thing 1 9999 v18 h19) (And.intro h20 (And.intro (impl_within_ok v7.Weight 1 1000000 v21 h22) (And.intro h23 (And.intro (impl_LoadOf_ok a1 v7.Trip v24 h25) (And.intro (gi_map Leg.enc h27) (And.intro h28 True.intro))))))))))))))) (by kernel_rfl)
                  · have hE : some (Ctl.next (w64 (s5 + 1))) = some c1 := hM
                    have hE := Option.some.inj hE
                    subst hE
                    exact pc R 9999 [.as 18 true, .ix (Booking.enc v7), .new 1, .as 24 true, .ix (Booking.enc v10), .call false [] (.o (.c (.v (.int .i64 v12)))) [] [], .as 34 false, .call false [] (.o (.c (.v (.bool v15)))) [] [], .as 41 false, .call false [] (.o (.c (.v (.bool v18)))) [] [], .as 47 false, .call false [] (.o (.c (.v (.bool v21)))) [] [], .as 53 false, .call false [] (.o (.c (.v (.int .i64 v24)))) [] [], .ix (Leg.enc v26), .as 67 false] [.keep [1, 2, 15, 16, 17] [0]] (And.intro h6 (And.intro (gi_map Booking.enc h8) (And.intro h9 (And.intro (gi_map Booking.enc h11) (And.intro (impl_compareBookings_ok v10 v7 v12 h13) (And.intro h14 (And.intro (impl_IsTrip_ok a0 v7.Trip v15 h16) (And.intro h17 (And.intro (impl_within_ok v7.Thing 1 9999 v18 h19) (And.intro h20 (And.intro (impl_within_ok v7.Weight 1 1000000 v21 h22) (And.intro h23 (And.intro (impl_LoadOf_ok a1 v7.Trip v24 h25) (And.intro (gi_map Leg.enc h27) (And.intro h28 True.intro))))))))))))))) (by kernel_rfl) (li (Sf := impl_AreBookings_L1_S a0 a1) (M := Mk (impl_AreBookings_L1 a0 a1) (impl_AreBookings_L1_k) r) (k := [.blk 0, .code (cAt Try.f29 [1, 1, 1])]) (Nat.lt_succ_self m1) hK1)
        · obtain ⟨v29, h30, hM⟩ := bind_some hM
          rcases cond_cases hM with ⟨h31, hM⟩ | ⟨h31, hM⟩
          · have hE : some (Ctl.ret false) = some c1 := hM
            have hE := Option.some.inj hE
            subst hE
            have hE : some false = some r := hK1
            have hE := Option.some.inj hE
            subst hE
            exact pr R 9999 [.as 18 true, .ix (Booking.enc v7), .new 1, .as 24 false, .call false [] (.o (.c (.v (.bool v29)))) [] [], .as 41 true] [] [] [] (And.intro h6 (And.intro (gi_map Booking.enc h8) (And.intro h9 (And.intro (impl_IsTrip_ok a0 v7.Trip v29 h30) (And.intro h31 True.intro))))) (by kernel_rfl)
          · obtain ⟨v32, h33, hM⟩ := bind_some hM
            rcases cond_cases hM with ⟨h34, hM⟩ | ⟨h34, hM⟩
            · have hE : some (Ctl.ret false) = some c1 := hM
              have hE := Option.some.inj hE
              subst hE
              have hE : some false = some r := hK1
              have hE := Option.some.inj hE
              subst hE
              exact pr R 9999 [.as 18 true, .ix (Booking.enc v7), .new 1, .as 24 false, .call false [] (.o (.c (.v (.bool v29)))) [] [], .as 41 false, .call false [] (.o (.c (.v (.bool v32)))) [] [], .as 47 true] [] [] [] (And.intro h6 (And.intro (gi_map Booking.enc h8) (And.intro h9 (And.intro (impl_IsTrip_ok a0 v7.Trip v29 h30) (And.intro h31 (And.intro (impl_within_ok v7.Thing 1 9999 v32 h33) (And.intro h34 True.intro))))))) (by kernel_rfl)
            · obtain ⟨v35, h36, hM⟩ := bind_some hM
              rcases cond_cases hM with ⟨h37, hM⟩ | ⟨h37, hM⟩
              · have hE : some (Ctl.ret false) = some c1 := hM
                have hE := Option.some.inj hE
                subst hE
                have hE : some false = some r := hK1
                have hE := Option.some.inj hE
                subst hE
                exact pr R 9999 [.as 18 true, .ix (Booking.enc v7), .new 1, .as 24 false, .call false [] (.o (.c (.v (.bool v29)))) [] [], .as 41 false, .call false [] (.o (.c (.v (.bool v32)))) [] [], .as 47 false, .call false [] (.o (.c (.v (.bool v35)))) [] [], .as 53 true] [] [] [] (And.intro h6 (And.intro (gi_map Booking.enc h8) (And.intro h9 (And.intro (impl_IsTrip_ok a0 v7.Trip v29 h30) (And.intro h31 (And.intro (impl_within_ok v7.Thing 1 9999 v32 h33) (And.intro h34 (And.intro (impl_within_ok v7.Weight 1 1000000 v35 h36) (And.intro h37 True.intro))))))))) (by kernel_rfl)
              · obtain ⟨v38, h39, hM⟩ := bind_some hM
                obtain ⟨v40, h41, hM⟩ := bind_some hM
                rcases cond_cases hM with ⟨h42, hM⟩ | ⟨h42, hM⟩
                · have hE : some (Ctl.ret false) = some c1 := hM
                  have hE := Option.some.inj hE
                  subst hE
                  have hE : some false = some r := hK1
                  have hE := Option.some.inj hE
                  subst hE
                  exact pr R 9999 [.as 18 true, .ix (Booking.enc v7), .new 1, .as 24 false, .call false [] (.o (.c (.v (.bool v29)))) [] [], .as 41 false, .call false [] (.o (.c (.v (.bool v32)))) [] [], .as 47 false, .call false [] (.o (.c (.v (.bool v35)))) [] [], .as 53 false, .call false [] (.o (.c (.v (.int .i64 v38)))) [] [], .ix (Leg.enc v40), .as 67 true] [] [] [] (And.intro h6 (And.intro (gi_map Booking.enc h8) (And.intro h9 (And.intro (impl_IsTrip_ok a0 v7.Trip v29 h30) (And.intro h31 (And.intro (impl_within_ok v7.Thing 1 9999 v32 h33) (And.intro h34 (And.intro (impl_within_ok v7.Weight 1 1000000 v35 h36) (And.intro h37 (And.intro (impl_LoadOf_ok a1 v7.Trip v38 h39) (And.intro (gi_map Leg.enc h41) (And.intro h42 True.intro)))))))))))) (by kernel_rfl)
                · have hE : some (Ctl.next (w64 (s5 + 1))) = some c1 := hM
                  have hE := Option.some.inj hE
                  subst hE
                  exact pc R 9999 [.as 18 true, .ix (Booking.enc v7), .new 1, .as 24 false, .call false [] (.o (.c (.v (.bool v29)))) [] [], .as 41 false, .call false [] (.o (.c (.v (.bool v32)))) [] [], .as 47 false, .call false [] (.o (.c (.v (.bool v35)))) [] [], .as 53 false, .call false [] (.o (.c (.v (.int .i64 v38)))) [] [], .ix (Leg.enc v40), .as 67 false] [.keep [1, 2, 15, 16, 17] [0]] (And.intro h6 (And.intro (gi_map Booking.enc h8) (And.intro h9 (And.intro (impl_IsTrip_ok a0 v7.Trip v29 h30) (And.intro h31 (And.intro (impl_within_ok v7.Thing 1 9999 v32 h33) (And.intro h34 (And.intro (impl_within_ok v7.Weight 1 1000000 v35 h36) (And.intro h37 (And.intro (impl_LoadOf_ok a1 v7.Trip v38 h39) (And.intro (gi_map Leg.enc h41) (And.intro h42 True.intro)))))))))))) (by kernel_rfl) (li (Sf := impl_AreBookings_L1_S a0 a1) (M := Mk (impl_AreBookings_L1 a0 a1) (impl_AreBookings_L1_k) r) (k := [.blk 0, .code (cAt Try.f29 [1, 1, 1])]) (Nat.lt_succ_self m1) hK1)
      · have hE : some (Ctl.brk ()) = some c1 := hM
        have hE := Option.some.inj hE
        subst hE
        exact pc R 5 [.as 18 false] [.keep [] []] (And.intro h6 True.intro) (by kernel_rfl) (K1 () hK1)

-- loop.example/g03014/impl.copyBookings
def impl_copyBookings (a0 : (List Booking)) : Option (List Booking) :=
  (ap 32 ([] : List Booking) a0).bind fun v1 =>
  some v1
theorem impl_copyBookings_ok (a0 : (List Booking)) (r : (List Booking)) (hM : impl_copyBookings a0 = some r) :
    Con Try.prog 39 [.c (.rs 4 (a0.map Booking.enc))] [] (.o (.c (.sl 1000))) [] [(1000, .row 57 4 (r.map Booking.enc))] := by
  unfold impl_copyBookings at hM
  refine cn (N := 6) (pids := []) Try_mixed Try.func39 (by kernel_rfl) (by kernel_rfl) (by kernel_rfl) rfl fun ρ g w R => ?_
  obtain ⟨v1, h2, hM⟩ := bind_some hM
  have hE : some v1 = some r := hM
  have hE := Option.some.inj hE
  subst hE
  exact pr R 9999 [.new 0, .new 1, .nm (v1.map Booking.enc)] [.sw 1 1000] [] [1000] (And.intro (ap_ok Booking.enc h2) True.intro) (by kernel_rfl)

-- internal/reflectlite.Swapper$9
noncomputable def sw_ie57 : TypeInfo := (Try.prog.info? 57).get (by kernel_rfl)
theorem sw_hi57 : Try.prog.info? 57 = some sw_ie57 := by kernel_rfl
theorem sw_F57 (s : Value) : (fun s => .func (.func 99) #[] #[s, .pointer (some ⟨0, 57, none⟩)] : Value → Value) s = .func (.func 99) #[] #[s, typeHandle Try.prog 57] := by kernel_rfl
theorem sw_ok57 : SwOk Try.prog (fun s => .func (.func 99) #[] #[s, .pointer (some ⟨0, 57, none⟩)]) 4 :=
  ⟨99, 57, sw_ie57, false, true, sw_F57, fun args W => run_callFunc_extern Try.func99 (by kernel_rfl) (by kernel_rfl) (by kernel_rfl) (e := Extern.ReflectliteSwapper.swap false) (by kernel_rfl) args W, sw_hi57, by kernel_rfl, by kernel_rfl, fun h => by cases h⟩

-- loop.example/g03014/impl.BookWay$1
def impl_BookWay_c1 (a0 : Int) (a1 : Int) (a2 : (List Booking)) : Option Bool :=
  (gi a2 a0).bind fun v1 =>
  (gi a2 a1).bind fun v3 =>
  (impl_compareBookings v1 v3).bind fun v5 =>
  some (decide (v5 < 0))
theorem impl_BookWay_c1_ok (a0 : Int) (a1 : Int) (a2 : (List Booking)) (r : Bool) (hM : impl_BookWay_c1 a0 a1 a2 = some r) :
    Con Try.prog 41 [.c (.v (.int .i64 a0)), .c (.v (.int .i64 a1)), .c (.ptr 902 0)] [(902, .box 31 [.sl 922]), (922, .row 57 4 (a2.map Booking.enc))] (.o (.c (.v (.bool r)))) [(902, .box 31 [.sl 922]), (922, .row 57 4 (a2.map Booking.enc))] [] := by
  unfold impl_BookWay_c1 at hM
  refine cn (N := 16) (pids := [902, 922]) Try_mixed Try.func41 (by kernel_rfl) (by kernel_rfl) (by kernel_rfl) rfl fun ρ g w R => ?_
  obtain ⟨v1, h2, hM⟩ := bind_some hM
  obtain ⟨v3, h4, hM⟩ := bind_some hM
  obtain ⟨v5, h6, hM⟩ := bind_some hM
  have hE : some (decide (v5 < 0)) = some r := hM
  have hE := Option.some.inj hE
  subst hE
  exact pr R 9999 [.ix (Booking.enc v1), .ix (Booking.enc v3), .call false [] (.o (.c (.v (.int .i64 v5)))) [] []] [] [902, 922] [] (And.intro (gi_lt Booking.enc h2) (And.intro ((gi_map Booking.enc h2).2) (And.intro (gi_lt Booking.enc h4) (And.intro ((gi_map Booking.enc h4).2) (And.intro (impl_compareBookings_ok v1 v3 v5 h6) True.intro))))) (by kernel_rfl)

-- sort.insertionSort_func
def sort_insertionSort_func_at0ls41_L2_b (a1 : Int) (s5 : (List Booking)) (s6 : Int) : Option (Ctl ((List Booking) × Int) (List Booking) (List Booking)) :=
  bif (decide (s6 > a1)) then
  (impl_BookWay_c1 s6 (w64 (s6 - 1)) s5).bind fun v9 =>
  bif v9 then
  (gi s5 s6).bind fun v12 =>
  (gi s5 (w64 (s6 - 1))).bind fun v14 =>
  some (.next (List.set (List.set s5 (Int.toNat s6) v14) (Int.toNat (w64 (s6 - 1))) v12, w64 (s6 - 1)))
  else
  some (.brk s5)
  else
  some (.brk s5)
def sort_insertionSort_func_at0ls41_L2 (a1 : Int) (s : (List Booking) × Int) : Option (Ctl ((List Booking) × Int) (List Booking) (List Booking)) := sort_insertionSort_func_at0ls41_L2_b a1 s.1 s.2
def sort_insertionSort_func_at0ls41_L2_s (a1 : Int) (a2 : Int) (s2 : Int) (s5 : (List Booking)) (s6 : Int) : St := ⟨[(0, .o (.agg [.fn 41 [900], .of (fun s => .func (.func 99) #[] #[s, .pointer (some ⟨0, 57, none⟩)]) 920])), (1, .o (.c (.v (.int .i64 a1)))), (2, .o (.c (.v (.int .i64 a2)))), (3, .o (.c (.ptr 0 0))), (6, .o (.c (.v (.int .i64 s2)))), (7, .o (.c (.v (.int .i64 s6))))], [(900, .box 31 [.sl 920]), (920, .row 57 4 (s5.map Booking.enc)), (0, .box 112 [.fn 41 [900], .of (fun s => .func (.func 99) #[] #[s, .pointer (some ⟨0, 57, none⟩)]) 920])]⟩
def sort_insertionSort_func_at0ls41_L2_S (a1 : Int) (a2 : Int) (s2 : Int) (s : (List Booking) × Int) : St := sort_insertionSort_func_at0ls41_L2_s a1 a2 s2 s.1 s.2
def sort_insertionSort_func_at0ls41_L2_a (s2 : Int) (s7 : (List Booking)) : Option (Ctl ((List Booking) × Int) (List Booking) (List Booking)) :=
  some (.next (s7, w64 (s2 + 1)))
def sort_insertionSort_func_at0ls41_L2_k (s2 : Int) (x : ((List Booking)) ⊕ ((List Booking))) : Option (Ctl ((List Booking) × Int) (List Booking) (List Booking)) := match x with
  | .inl t => sort_insertionSort_func_at0ls41_L2_a s2 t
  | .inr y => some (.ret y)
def sort_insertionSort_func_at0ls41_L1_b (a1 : Int) (a2 : Int) (s1 : (List Booking)) (s2 : Int) : Option (Ctl ((List Booking) × Int) (List Booking) (List Booking)) :=
  bif (decide (s2 < a2)) then
  (loopM (sort_insertionSort_func_at0ls41_L2 a1) big (s1, s2)).bind (sort_insertionSort_func_at0ls41_L2_k s2)
  else
  some (.brk s1)
def sort_insertionSort_func_at0ls41_L1 (a1 : Int) (a2 : Int) (s : (List Booking) × Int) : Option (Ctl ((List Booking) × Int) (List Booking) (List Booking)) := sort_insertionSort_func_at0ls41_L1_b a1 a2 s.1 s.2
def sort_insertionSort_func_at0ls41_L1_s (a1 : Int) (a2 : Int) (s1 : (List Booking)) (s2 : Int) : St := ⟨[(0, .o (.agg [.fn 41 [900], .of (fun s => .func (.func 99) #[] #[s, .pointer (some ⟨0, 57, none⟩)]) 920])), (1, .o (.c (.v (.int .i64 a1)))), (2, .o (.c (.v (.int .i64 a2)))), (3, .o (.c (.ptr 0 0))), (6, .o (.c (.v (.int .i64 s2))))], [(900, .box 31 [.sl 920]), (920, .row 57 4 (s1.map Booking.enc)), (0, .box 112 [.fn 41 [900], .of (fun s => .func (.func 99) #[] #[s, .pointer (some ⟨0, 57, none⟩)]) 920])]⟩
def sort_insertionSort_func_at0ls41_L1_S (a1 : Int) (a2 : Int) (s : (List Booking) × Int) : St := sort_insertionSort_func_at0ls41_L1_s a1 a2 s.1 s.2
def sort_insertionSort_func_at0ls41_L1_a (s3 : (List Booking)) : Option (List Booking) :=
  some s3
def sort_insertionSort_func_at0ls41_L1_k (x : ((List Booking)) ⊕ ((List Booking))) : Option (List Booking) := match x with
  | .inl t => sort_insertionSort_func_at0ls41_L1_a t
  | .inr y => some y
def sort_insertionSort_func_at0ls41 (a0 : ((List Booking))) (a1 : Int) (a2 : Int) : Option (List Booking) :=
  (loopM (sort_insertionSort_func_at0ls41_L1 a1 a2) big (a0, w64 (a1 + 1))).bind (sort_insertionSort_func_at0ls41_L1_k)
theorem sort_insertionSort_func_at0ls41_ok (a0 : ((List Booking))) (a1 : Int) (a2 : Int) (r : (List Booking)) (hM : sort_insertionSort_func_at0ls41 a0 a1 a2 = some r) :
    Con Try.prog 100 [.agg [.fn 41 [900], .of (fun s => .func (.func 99) #[] #[s, .pointer (some ⟨0, 57, none⟩)]) 920], .c (.v (.int .i64 a1)), .c (.v (.int .i64 a2))] [(900, .box 31 [.sl 920]), (920, .row 57 4 (a0.map Booking.enc))] (.tup []) [(900, .box 31 [.sl 920]), (920, .row 57 4 (r.map Booking.enc))] [] := by
  unfold sort_insertionSort_func_at0ls41 at hM
  refine cn (N := 35) (pids := [900, 920]) Try_mixed Try.func100 (by kernel_rfl) (by kernel_rfl) (by kernel_rfl) rfl fun ρ g w R => ?_
  have K1 : ∀ (s3 : (List Booking)), sort_insertionSort_func_at0ls41_L1_a s3 = some r → Gr R [] (⟨[(0, .o (.agg [.fn 41 [900], .of (fun s => .func (.func 99) #[] #[s, .pointer (some ⟨0, 57, none⟩)]) 920]))], [(900, .box 31 [.sl 920]), (920, .row 57 4 (s3.map Booking.enc))]⟩) := by
    intro s3 hM
    unfold sort_insertionSort_func_at0ls41_L1_a at hM
    have hE : some s3 = some r := hM
    have hE := Option.some.inj hE
    subst hE
    exact pr R 9999 [] [] [900, 920] [] True.intro (by kernel_rfl)
  refine pc R 9999 [.new 0] [.keep [0, 1, 2, 3, 6] [900, 920, 0]] (k' := [.code (.loop (cAt Try.f100 [1, 1, 0, 0])), .blk 0]) (S' := sort_insertionSort_func_at0ls41_L1_S a1 a2 (a0, w64 (a1 + 1))) True.intro (by kernel_rfl) ?_
  refine lq (sort_insertionSort_func_at0ls41_L1_S a1 a2) (body := sort_insertionSort_func_at0ls41_L1 a1 a2) (k := sort_insertionSort_func_at0ls41_L1_k) hM fun m1 s c1 hM hK1 => ?_
  obtain ⟨s1, s2⟩ := s
  have hM : sort_insertionSort_func_at0ls41_L1_b a1 a2 s1 s2 = some c1 := hM
  unfold sort_insertionSort_func_at0ls41_L1_b at hM
  rcases cond_cases hM with ⟨h4, hM⟩ | ⟨h4, hM⟩
  · have K2 : ∀ (s7 : (List Booking)), sort_insertionSort_func_at0ls41_L2_a s2 s7 = some c1 → Gr R [.blk 1, .code (cAt Try.f100 [1, 1, 0, 0, 1, 1]), .inv (Jr R (sort_insertionSort_func_at0ls41_L1_S a1 a2) (Mk (sort_insertionSort_func_at0ls41_L1 a1 a2) (sort_insertionSort_func_at0ls41_L1_k) r) (m1 + 1)), .blk 0] (⟨[(0, .o (.agg [.fn 41 [900], .of (fun s => .func (.func 99) #[] #[s, .pointer (some ⟨0, 57, none⟩)]) 920])), (1, .o (.c (.v (.int .i64 a1)))), (2, .o (.c (.v (.int .i64 a2)))), (3, .o (.c (.ptr 0 0))), (6, .o (.c (.v (.int .i64 s2))))], [(900, .box 31 [.sl 920]), (920, .row 57 4 (s7.map Booking.enc)), (0, .box 112 [.fn 41 [900], .of (fun s => .func (.func 99) #[] #[s, .pointer (some ⟨0, 57, none⟩)]) 920])]⟩) := by
      intro s7 hM
      unfold sort_insertionSort_func_at0ls41_L2_a at hM
      have hE : some (Ctl.next (s7, w64 (s2 + 1))) = some c1 := hM
      have hE := Option.some.inj hE
      subst hE
      exact pc R 9999 [] [.keep [0, 1, 2, 3, 6] [900, 920, 0]] True.intro (by kernel_rfl) (li (Sf := sort_insertionSort_func_at0ls41_L1_S a1 a2) (M := Mk (sort_insertionSort_func_at0ls41_L1 a1 a2) (sort_insertionSort_func_at0ls41_L1_k) r) (k := [.blk 0]) (Nat.lt_succ_self m1) hK1)
    refine pc R 9999 [.as 12 true] [.keep [0, 1, 2, 3, 6, 7] [900, 920, 0]] (k' := [.code (.loop (cAt Try.f100 [1, 1, 0, 0, 1, 0, 0, 1, 0, 0])), .blk 2, .blk 1, .code (cAt Try.f100 [1, 1, 0, 0, 1, 1]), .inv (Jr R (sort_insertionSort_func_at0ls41_L1_S a1 a2) (Mk (sort_insertionSort_func_at0ls41_L1 a1 a2) (sort_insertionSort_func_at0ls41_L1_k) r) (m1 + 1)), .blk 0]) (S' := sort_insertionSort_func_at0ls41_L2_S a1 a2 s2 (s1, s2)) (And.intro h4 True.intro) (by kernel_rfl) ?_
    refine lq (sort_insertionSort_func_at0ls41_L2_S a1 a2 s2) (body := sort_insertionSort_func_at0ls41_L2 a1) (k := sort_insertionSort_func_at0ls41_L2_k s2) hM fun m2 s c2 hM hK2 => ?_
    obtain ⟨s5, s6⟩ := s
    have hM : sort_insertionSort_func_at0ls41_L2_b a1 s5 s6 = some c2 := hM
    unfold sort_insertionSort_func_at0ls41_L2_b at hM
    rcases cond_cases hM with ⟨h8, hM⟩ | ⟨h8, hM⟩
    · obtain ⟨v9, h10, hM⟩ := bind_some hM
      rcases cond_cases hM with ⟨h11, hM⟩ | ⟨h11, hM⟩
      · obtain ⟨v12, h13, hM⟩ := bind_some hM
        obtain ⟨v14, h15, hM⟩ := bind_some hM
        have hE : some (Ctl.next (List.set (List.set s5 (Int.toNat s6) v14) (Int.toNat (w64 (s6 - 1))) v12, w64 (s6 - 1))) = some c2 := hM
        have hE := Option.some.inj hE
        subst hE
        exact pc R 9999 [.as 19 true, .ad (.keep [0, 1, 2, 3, 6, 7, 16, 17, 18, 19, 20, 21, 22, 23, 24] [900, 920, 0]), .call true [900, 920] (.o (.c (.v (.bool v9)))) [(900, .box 31 [.sl 920]), (920, .row 57 4 (s5.map Booking.enc))] [], .as 26 true, .ix (Booking.enc v12), .ix (Booking.enc v14), .nm ((List.set (List.set s5 (Int.toNat s6) v14) (Int.toNat (w64 (s6 - 1))) v12).map Booking.enc)] [.keep [0, 1, 2, 3, 6, 7] [900, 920, 0]] (And.intro h8 (And.intro (And.intro (con_sw 922 920 (con_sw 902 900 (impl_BookWay_c1_ok s6 (w64 (s6 - 1)) s5 v9 h10))) (rfl : ([900, 920] : List Nat) = [900, 920])) (And.intro h11 (And.intro (swap_cond Booking.enc sw_ok57 h13 h15) True.intro)))) (by kernel_rfl) (li (Sf := sort_insertionSort_func_at0ls41_L2_S a1 a2 s2) (M := Mk (sort_insertionSort_func_at0ls41_L2 a1) (sort_insertionSort_func_at0ls41_L2_k s2) c1) (k := [.blk 2, .blk 1, .code (cAt Try.f100 [1, 1, 0, 0, 1, 1]), .inv (Jr R (sort_insertionSort_func_at0ls41_L1_S a1 a2) (Mk (sort_insertionSort_func_at0ls41_L1 a1 a2) (sort_insertionSort_func_at0ls41_L1_k) r) (m1 + 1)), .blk 0]) (Nat.lt_succ_self m2) hK2)
      · have hE : some (Ctl.brk s5) = some c2 := hM
        have hE := Option.some.inj hE
        subst hE
        exact pc R 5 [.as 19 true, .ad (.keep [0, 1, 2, 3, 6, 7, 16, 17, 18, 19, 20, 21, 22, 23, 24] [900, 920, 0]), .call true [900, 920] (.o (.c (.v (.bool v9)))) [(900, .box 31 [.sl 920]), (920, .row 57 4 (s5.map Booking.enc))] [], .as 26 false] [.keep [0, 1, 2, 3, 6] [900, 920, 0]] (And.intro h8 (And.intro (And.intro (con_sw 922 920 (con_sw 902 900 (impl_BookWay_c1_ok s6 (w64 (s6 - 1)) s5 v9 h10))) (rfl : ([900, 920] : List Nat) = [900, 920])) (And.intro h11 True.intro))) (by kernel_rfl) (K2 s5 hK2)
    · have hE : some (Ctl.brk s5) = some c2 := hM
      have hE := Option.some.inj hE
      subst hE
      exact pc R 5 [.as 19 false] [.keep [0, 1, 2, 3, 6] [900, 920, 0]] (And.intro h8 True.intro) (by kernel_rfl) (K2 s5 hK2)
  · have hE : some (Ctl.brk s1) = some c1 := hM
    have hE := Option.some.inj hE
    subst hE
    exact pc R 5 [.as 12 false] [.keep [0] [900, 920]] (And.intro h4 True.intro) (by kernel_rfl) (K1 s1 hK1)

-- sort.swapRange_func
def sort_swapRange_func_at0ls41_L1_b (a1 : Int) (a2 : Int) (a3 : Int) (s1 : (List Booking)) (s2 : Int) : Option (Ctl ((List Booking) × Int) (List Booking) (List Booking)) :=
  bif (decide (s2 < a3)) then
  (gi s1 (w64 (a1 + s2))).bind fun v5 =>
  (gi s1 (w64 (a2 + s2))).bind fun v7 =>
  some (.next (List.set (List.set s1 (Int.toNat (w64 (a1 + s2))) v7) (Int.toNat (w64 (a2 + s2))) v5, w64 (s2 + 1)))
  else
  some (.brk s1)
def sort_swapRange_func_at0ls41_L1 (a1 : Int) (a2 : Int) (a3 : Int) (s : (List Booking) × Int) : Option (Ctl ((List Booking) × Int) (List Booking) (List Booking)) := sort_swapRange_func_at0ls41_L1_b a1 a2 a3 s.1 s.2
def sort_swapRange_func_at0ls41_L1_s (a1 : Int) (a2 : Int) (a3 : Int) (s1 : (List Booking)) (s2 : Int) : St := ⟨[(0, .o (.agg [.fn 41 [900], .of (fun s => .func (.func 99) #[] #[s, .pointer (some ⟨0, 57, none⟩)]) 920])), (1, .o (.c (.v (.int .i64 a1)))), (2, .o (.c (.v (.int .i64 a2)))), (3, .o (.c (.v (.int .i64 a3)))), (4, .o (.c (.ptr 0 0))), (8, .o (.c (.v (.int .i64 s2))))], [(900, .box 31 [.sl 920]), (920, .row 57 4 (s1.map Booking.enc)), (0, .box 112 [.fn 41 [900], .of (fun s => .func (.func 99) #[] #[s, .pointer (some ⟨0, 57, none⟩)]) 920])]⟩
def sort_swapRange_func_at0ls41_L1_S (a1 : Int) (a2 : Int) (a3 : Int) (s : (List Booking) × Int) : St := sort_swapRange_func_at0ls41_L1_s a1 a2 a3 s.1 s.2
def sort_swapRange_func_at0ls41_L1_a (s3 : (List Booking)) : Option (List Booking) :=
  some s3
def sort_swapRange_func_at0ls41_L1_k (x : ((List Booking)) ⊕ ((List Booking))) : Option (List Booking) := match x with
  | .inl t => sort_swapRange_func_at0ls41_L1_a t
  | .inr y => some y
def sort_swapRange_func_at0ls41 (a0 : ((List Booking))) (a1 : Int) (a2 : Int) (a3 : Int) : Option (List Booking) :=
  (loopM (sort_swapRange_func_at0ls41_L1 a1 a2 a3) big (a0, 0)).bind (sort_swapRange_func_at0ls41_L1_k)
theorem sort_swapRange_func_at0ls41_ok (a0 : ((List Booking))) (a1 : Int) (a2 : Int) (a3 : Int) (r : (List Booking)) (hM : sort_swapRange_func_at0ls41 a0 a1 a2 a3 = some r) :
    Con Try.prog 121 [.agg [.fn 41 [900], .of (fun s => .func (.func 99) #[] #[s, .pointer (some ⟨0, 57, none⟩)]) 920], .c (.v (.int .i64 a1)), .c (.v (.int .i64 a2)), .c (.v (.int .i64 a3))] [(900, .box 31 [.sl 920]), (920, .row 57 4 (a0.map Booking.enc))] (.tup []) [(900, .box 31 [.sl 920]), (920, .row 57 4 (r.map Booking.enc))] [] := by
  unfold sort_swapRange_func_at0ls41 at hM
  refine cn (N := 23) (pids := [900, 920]) Try_mixed Try.func121 (by kernel_rfl) (by kernel_rfl) (by kernel_rfl) rfl fun ρ g w R => ?_
  have K1 : ∀ (s3 : (List Booking)), sort_swapRange_func_at0ls41_L1_a s3 = some r → Gr R [] (⟨[(0, .o (.agg [.fn 41 [900], .of (fun s => .func (.func 99) #[] #[s, .pointer (some ⟨0, 57, none⟩)]) 920]))], [(900, .box 31 [.sl 920]), (920, .row 57 4 (s3.map Booking.enc))]⟩) := by
    intro s3 hM
    unfold sort_swapRange_func_at0ls41_L1_a at hM
    have hE : some s3 = some r := hM
    have hE := Option.some.inj hE
    subst hE
    exact pr R 9999 [] [] [900, 920] [] True.intro (by kernel_rfl)
  refine pc R 9999 [.new 0] [.keep [0, 1, 2, 3, 4, 8] [900, 920, 0]] (k' := [.code (.loop (cAt Try.f121 [1, 1, 0, 0])), .blk 0]) (S' := sort_swapRange_func_at0ls41_L1_S a1 a2 a3 (a0, 0)) True.intro (by kernel_rfl) ?_
  refine lq (sort_swapRange_func_at0ls41_L1_S a1 a2 a3) (body := sort_swapRange_func_at0ls41_L1 a1 a2 a3) (k := sort_swapRange_func_at0ls41_L1_k) hM fun m1 s c1 hM hK1 => ?_
  obtain ⟨s1, s2⟩ := s
  have hM : sort_swapRange_func_at0ls41_L1_b a1 a2 a3 s1 s2 = some c1 := hM
  unfold sort_swapRange_func_at0ls41_L1_b at hM
  rcases cond_cases hM with ⟨h4, hM⟩ | ⟨h4, hM⟩
  · obtain ⟨v5, h6, hM⟩ := bind_some hM
    obtain ⟨v7, h8, hM⟩ := bind_some hM
    have hE : some (Ctl.next (List.set (List.set s1 (Int.toNat (w64 (a1 + s2))) v7) (Int.toNat (w64 (a2 + s2))) v5, w64 (s2 + 1))) = some c1 := hM
    have hE := Option.some.inj hE
    subst hE
    exact pc R 9999 [.as 11 true, .ix (Booking.enc v5), .ix (Booking.enc v7), .nm ((List.set (List.set s1 (Int.toNat (w64 (a1 + s2))) v7) (Int.toNat (w64 (a2 + s2))) v5).map Booking.enc)] [.keep [0, 1, 2, 3, 4, 8] [900, 920, 0]] (And.intro h4 (And.intro (swap_cond Booking.enc sw_ok57 h6 h8) True.intro)) (by kernel_rfl) (li (Sf := sort_swapRange_func_at0ls41_L1_S a1 a2 a3) (M := Mk (sort_swapRange_func_at0ls41_L1 a1 a2 a3) (sort_swapRange_func_at0ls41_L1_k) r) (k := [.blk 0]) (Nat.lt_succ_self m1) hK1)
  · have hE : some (Ctl.brk s1) = some c1 := hM
    have hE := Option.some.inj hE
    subst hE
    exact pc R 5 [.as 11 false] [.keep [0] [900, 920]] (And.intro h4 True.intro) (by kernel_rfl) (K1 s1 hK1)

-- sort.rotate_func
def sort_rotate_func_at0ls41_L1_b (a2 : Int) (s1 : (List Booking)) (s2 : Int) (s3 : Int) : Option (Ctl ((List Booking) × Int × Int) ((List Booking) × Int) (List Booking)) :=
  bif (s2 != s3) then
  bif (decide (s2 > s3)) then
  (sort_swapRange_func_at0ls41 s1 (w64 (a2 - s2)) a2 s3).bind fun v10 =>
  some (.next (v10, w64 (s2 - s3), s3))
  else
  (sort_swapRange_func_at0ls41 s1 (w64 (a2 - s2)) (w64 ((w64 (a2 + s3)) - s2)) s2).bind fun v12 =>
  some (.next (v12, s2, w64 (s3 - s2)))
  else
  some (.brk (s1, s2))
def sort_rotate_func_at0ls41_L1 (a2 : Int) (s : (List Booking) × Int × Int) : Option (Ctl ((List Booking) × Int × Int) ((List Booking) × Int) (List Booking)) := sort_rotate_func_at0ls41_L1_b a2 s.1 s.2.1 s.2.2
def sort_rotate_func_at0ls41_L1_s (a2 : Int) (s1 : (List Booking)) (s2 : Int) (s3 : Int) : St := ⟨[(0, .o (.agg [.fn 41 [900], .of (fun s => .func (.func 99) #[] #[s, .pointer (some ⟨0, 57, none⟩)]) 920])), (2, .o (.c (.v (.int .i64 a2)))), (4, .o (.c (.ptr 0 0))), (8, .o (.c (.v (.int .i64 s2)))), (9, .o (.c (.v (.int .i64 s3))))], [(900, .box 31 [.sl 920]), (920, .row 57 4 (s1.map Booking.enc)), (0, .box 112 [.fn 41 [900], .of (fun s => .func (.func 99) #[] #[s, .pointer (some ⟨0, 57, none⟩)]) 920])]⟩
def sort_rotate_func_at0ls41_L1_S (a2 : Int) (s : (List Booking) × Int × Int) : St := sort_rotate_func_at0ls41_L1_s a2 s.1 s.2.1 s.2.2
def sort_rotate_func_at0ls41_L1_a (a2 : Int) (s4 : (List Booking)) (s5 : Int) : Option (List Booking) :=
  (sort_swapRange_func_at0ls41 s4 (w64 (a2 - s5)) a2 s5).bind fun v6 =>
  some v6
def sort_rotate_func_at0ls41_L1_k (a2 : Int) (x : ((List Booking) × Int) ⊕ ((List Booking))) : Option (List Booking) := match x with
  | .inl t => sort_rotate_func_at0ls41_L1_a a2 t.1 t.2
  | .inr y => some y
def sort_rotate_func_at0ls41 (a0 : ((List Booking))) (a1 : Int) (a2 : Int) (a3 : Int) : Option (List Booking) :=
  (loopM (sort_rotate_func_at0ls41_L1 a2) big (a0, w64 (a2 - a1), w64 (a3 - a2))).bind (sort_rotate_func_at0ls41_L1_k a2)
theorem sort_rotate_func_at0ls41_ok (a0 : ((List Booking))) (a1 : Int) (a2 : Int) (a3 : Int) (r : (List Booking)) (hM : sort_rotate_func_at0ls41 a0 a1 a2 a3 = some r) :
    Con Try.prog 113 [.agg [.fn 41 [900], .of (fun s => .func (.func 99) #[] #[s, .pointer (some ⟨0, 57, none⟩)]) 920], .c (.v (.int .i64 a1)), .c (.v (.int .i64 a2)), .c (.v (.int .i64 a3))] [(900, .box 31 [.sl 920]), (920, .row 57 4 (a0.map Booking.enc))] (.tup []) [(900, .box 31 [.sl 920]), (920, .row 57 4 (r.map Booking.enc))] [] := by
  unfold sort_rotate_func_at0ls41 at hM
  refine cn (N := 53) (pids := [900, 920]) Try_mixed Try.func113 (by kernel_rfl) (by kernel_rfl) (by kernel_rfl) rfl fun ρ g w R => ?_
  have K1 : ∀ (s4 : (List Booking)) (s5 : Int), sort_rotate_func_at0ls41_L1_a a2 s4 s5 = some r → Gr R [.code (cAt Try.f113 [1, 1, 1, 1])] (⟨[(0, .o (.agg [.fn 41 [900], .of (fun s => .func (.func 99) #[] #[s, .pointer (some ⟨0, 57, none⟩)]) 920])), (2, .o (.c (.v (.int .i64 a2)))), (4, .o (.c (.ptr 0 0))), (8, .o (.c (.v (.int .i64 s5))))], [(900, .box 31 [.sl 920]), (920, .row 57 4 (s4.map Booking.enc)), (0, .box 112 [.fn 41 [900], .of (fun s => .func (.func 99) #[] #[s, .pointer (some ⟨0, 57, none⟩)]) 920])]⟩) := by
    intro s4 s5 hM
    unfold sort_rotate_func_at0ls41_L1_a at hM
    obtain ⟨v6, h7, hM⟩ := bind_some hM
    have hE : some v6 = some r := hM
    have hE := Option.some.inj hE
    subst hE
    exact pr R 9999 [.ad (.keep [0, 2, 4, 8, 46, 47, 48, 49, 50, 51] [900, 920, 0]), .call true [900, 920] (.tup []) [(900, .box 31 [.sl 920]), (920, .row 57 4 (v6.map Booking.enc))] []] [] [900, 920] [] (And.intro (And.intro (con_sw 920 920 (con_sw 900 900 (sort_swapRange_func_at0ls41_ok s4 (w64 (a2 - s5)) a2 s5 v6 h7))) (rfl : ([900, 920] : List Nat) = [900, 920])) True.intro) (by kernel_rfl)
  refine pc R 9999 [.new 0] [.keep [0, 2, 4, 8, 9] [900, 920, 0]] (k' := [.code (.loop (cAt Try.f113 [1, 1, 1, 0, 0, 0])), .blk 0, .code (cAt Try.f113 [1, 1, 1, 1])]) (S' := sort_rotate_func_at0ls41_L1_S a2 (a0, w64 (a2 - a1), w64 (a3 - a2))) True.intro (by kernel_rfl) ?_
  refine lq (sort_rotate_func_at0ls41_L1_S a2) (body := sort_rotate_func_at0ls41_L1 a2) (k := sort_rotate_func_at0ls41_L1_k a2) hM fun m1 s c1 hM hK1 => ?_
  obtain ⟨s1, s2, s3⟩ := s
  have hM : sort_rotate_func_at0ls41_L1_b a2 s1 s2 s3 = some c1 := hM
  unfold sort_rotate_func_at0ls41_L1_b at hM
  rcases cond_cases hM with ⟨h8, hM⟩ | ⟨h8, hM⟩
  · rcases cond_cases hM with ⟨h9, hM⟩ | ⟨h9, hM⟩
    · obtain ⟨v10, h11, hM⟩ := bind_some hM
      have hE : some (Ctl.next (v10, w64 (s2 - s3), s3)) = some c1 := hM
      have hE := Option.some.inj hE
      subst hE
      exact pc R 9999 [.as 18 true, .as 21 true, .ad (.keep [0, 2, 4, 8, 9, 16, 17, 18, 19, 20, 21, 22, 23, 24, 25, 26, 27] [900, 920, 0]), .call true [900, 920] (.tup []) [(900, .box 31 [.sl 920]), (920, .row 57 4 (v10.map Booking.enc))] []] [.keep [0, 2, 4, 8, 9] [900, 920, 0]] (And.intro h8 (And.intro h9 (And.intro (And.intro (con_sw 920 920 (con_sw 900 900 (sort_swapRange_func_at0ls41_ok s1 (w64 (a2 - s2)) a2 s3 v10 h11))) (rfl : ([900, 920] : List Nat) = [900, 920])) True.intro))) (by kernel_rfl) (li (Sf := sort_rotate_func_at0ls41_L1_S a2) (M := Mk (sort_rotate_func_at0ls41_L1 a2) (sort_rotate_func_at0ls41_L1_k a2) r) (k := [.blk 0, .code (cAt Try.f113 [1, 1, 1, 1])]) (Nat.lt_succ_self m1) hK1)
    · obtain ⟨v12, h13, hM⟩ := bind_some hM
      have hE : some (Ctl.next (v12, s2, w64 (s3 - s2))) = some c1 := hM
      have hE := Option.some.inj hE
      subst hE
      exact pc R 9999 [.as 18 true, .as 21 false, .ad (.keep [0, 2, 4, 8, 9, 16, 17, 18, 19, 20, 21, 32, 33, 34, 35, 36, 37, 38, 39, 40, 41] [900, 920, 0]), .call true [900, 920] (.tup []) [(900, .box 31 [.sl 920]), (920, .row 57 4 (v12.map Booking.enc))] []] [.keep [0, 2, 4, 8, 9] [900, 920, 0]] (And.intro h8 (And.intro h9 (And.intro (And.intro (con_sw 920 920 (con_sw 900 900 (sort_swapRange_func_at0ls41_ok s1 (w64 (a2 - s2)) (w64 ((w64 (a2 + s3)) - s2)) s2 v12 h13))) (rfl : ([900, 920] : List Nat) = [900, 920])) True.intro))) (by kernel_rfl) (li (Sf := sort_rotate_func_at0ls41_L1_S a2) (M := Mk (sort_rotate_func_at0ls41_L1 a2) (sort_rotate_func_at0ls41_L1_k a2) r) (k := [.blk 0, .code (cAt Try.f113 [1, 1, 1, 1])]) (Nat.lt_succ_self m1) hK1)
  · have hE : some (Ctl.brk (s1, s2)) = some c1 := hM
    have hE := Option.some.inj hE
    subst hE
    exact pc R 5 [.as 18 false] [.keep [0, 2, 4, 8] [900, 920, 0]] (And.intro h8 True.intro) (by kernel_rfl) (K1 s1 s2 hK1)

-- sort.symMerge_func
def sort_symMerge_func_at0ls41_L2_b (s4 : Int) (s5 : (List Booking)) (s6 : Int) : Option (Ctl ((List Booking) × Int) (List Booking) (List Booking)) :=
  bif (decide (s6 < (w64 (s4 - 1)))) then
  (gi s5 s6).bind fun v9 =>
  (gi s5 (w64 (s6 + 1))).bind fun v11 =>
  some (.next (List.set (List.set s5 (Int.toNat s6) v11) (Int.toNat (w64 (s6 + 1))) v9, w64 (s6 + 1)))
  else
  some (.brk s5)
def sort_symMerge_func_at0ls41_L2 (s4 : Int) (s : (List Booking) × Int) : Option (Ctl ((List Booking) × Int) (List Booking) (List Booking)) := sort_symMerge_func_at0ls41_L2_b s4 s.1 s.2
def sort_symMerge_func_at0ls41_L2_s (s4 : Int) (s5 : (List Booking)) (s6 : Int) : St := ⟨[(0, .o (.agg [.fn 41 [900], .of (fun s => .func (.func 99) #[] #[s, .pointer (some ⟨0, 57, none⟩)]) 920])), (4, .o (.c (.ptr 0 0))), (8, .o (.c (.v (.int .i64 s4)))), (11, .o (.c (.v (.int .i64 s6))))], [(900, .box 31 [.sl 920]), (920, .row 57 4 (s5.map Booking.enc)), (0, .box 112 [.fn 41 [900], .of (fun s => .func (.func 99) #[] #[s, .pointer (some ⟨0, 57, none⟩)]) 920])]⟩
def sort_symMerge_func_at0ls41_L2_S (s4 : Int) (s : (List Booking) × Int) : St := sort_symMerge_func_at0ls41_L2_s s4 s.1 s.2
def sort_symMerge_func_at0ls41_L2_a (s7 : (List Booking)) : Option (List Booking) :=
  some s7
def sort_symMerge_func_at0ls41_L2_k (x : ((List Booking)) ⊕ ((List Booking))) : Option (List Booking) := match x with
  | .inl t => sort_symMerge_func_at0ls41_L2_a t
  | .inr y => some y
def sort_symMerge_func_at0ls41_L1_b (a0 : ((List Booking))) (a1 : Int) (s2 : Int) (s3 : Int) : Option (Ctl (Int × Int) Int (List Booking)) :=
  bif (decide (s2 < s3)) then
  (impl_BookWay_c1 (w64 (Int.fdiv (IntKind.u64.wrap (w64 (s2 + s3))) (2 ^ 1))) a1 a0).bind fun v14 =>
  bif v14 then
  some (.next (w64 ((w64 (Int.fdiv (IntKind.u64.wrap (w64 (s2 + s3))) (2 ^ 1))) + 1), s3))
  else
  some (.next (s2, w64 (Int.fdiv (IntKind.u64.wrap (w64 (s2 + s3))) (2 ^ 1))))
  else
  some (.brk s2)
def sort_symMerge_func_at0ls41_L1 (a0 : ((List Booking))) (a1 : Int) (s : Int × Int) : Option (Ctl (Int × Int) Int (List Booking)) := sort_symMerge_func_at0ls41_L1_b a0 a1 s.1 s.2
def sort_symMerge_func_at0ls41_L1_s (a0 : ((List Booking))) (a1 : Int) (s2 : Int) (s3 : Int) : St := ⟨[(0, .o (.agg [.fn 41 [900], .of (fun s => .func (.func 99) #[] #[s, .pointer (some ⟨0, 57, none⟩)]) 920])), (1, .o (.c (.v (.int .i64 a1)))), (4, .o (.c (.ptr 0 0))), (8, .o (.c (.v (.int .i64 s2)))), (9, .o (.c (.v (.int .i64 s3))))], [(900, .box 31 [.sl 920]), (920, .row 57 4 (a0.map Booking.enc)), (0, .box 112 [.fn 41 [900], .of (fun s => .func (.func 99) #[] #[s, .pointer (some ⟨0, 57, none⟩)]) 920])]⟩
def sort_symMerge_func_at0ls41_L1_S (a0 : ((List Booking))) (a1 : Int) (s : Int × Int) : St := sort_symMerge_func_at0ls41_L1_s a0 a1 s.1 s.2
def sort_symMerge_func_at0ls41_L1_a (a0 : ((List Booking))) (a1 : Int) (s4 : Int) : Option (List Booking) :=
  (loopM (sort_symMerge_func_at0ls41_L2 s4) big (a0, a1)).bind (sort_symMerge_func_at0ls41_L2_k)
def sort_symMerge_func_at0ls41_L1_k (a0 : ((List Booking))) (a1 : Int) (x : (Int) ⊕ ((List Booking))) : Option (List Booking) := match x with
  | .inl t => sort_symMerge_func_at0ls41_L1_a a0 a1 t
  | .inr y => some y
def sort_symMerge_func_at0ls41_L4_b (s20 : Int) (s21 : (List Booking)) (s22 : Int) : Option (Ctl ((List Booking) × Int) (List Booking) (List Booking)) :=
  bif (decide (s22 > s20)) then
  (gi s21 s22).bind fun v25 =>
  (gi s21 (w64 (s22 - 1))).bind fun v27 =>
  some (.next (List.set (List.set s21 (Int.toNat s22) v27) (Int.toNat (w64 (s22 - 1))) v25, w64 (s22 - 1)))
  else
  some (.brk s21)
def sort_symMerge_func_at0ls41_L4 (s20 : Int) (s : (List Booking) × Int) : Option (Ctl ((List Booking) × Int) (List Booking) (List Booking)) := sort_symMerge_func_at0ls41_L4_b s20 s.1 s.2
def sort_symMerge_func_at0ls41_L4_s (s20 : Int) (s21 : (List Booking)) (s22 : Int) : St := ⟨[(0, .o (.agg [.fn 41 [900], .of (fun s => .func (.func 99) #[] #[s, .pointer (some ⟨0, 57, none⟩)]) 920])), (4, .o (.c (.ptr 0 0))), (12, .o (.c (.v (.int .i64 s20)))), (15, .o (.c (.v (.int .i64 s22))))], [(900, .box 31 [.sl 920]), (920, .row 57 4 (s21.map Booking.enc)), (0, .box 112 [.fn 41 [900], .of (fun s => .func (.func 99) #[] #[s, .pointer (some ⟨0, 57, none⟩)]) 920])]⟩
def sort_symMerge_func_at0ls41_L4_S (s20 : Int) (s : (List Booking) × Int) : St := sort_symMerge_func_at0ls41_L4_s s20 s.1 s.2
def sort_symMerge_func_at0ls41_L4_a (s23 : (List Booking)) : Option (List Booking) :=
  some s23
def sort_symMerge_func_at0ls41_L4_k (x : ((List Booking)) ⊕ ((List Booking))) : Option (List Booking) := match x with
  | .inl t => sort_symMerge_func_at0ls41_L4_a t
  | .inr y => some y
def sort_symMerge_func_at0ls41_L3_b (a0 : ((List Booking))) (a2 : Int) (s18 : Int) (s19 : Int) : Option (Ctl (Int × Int) Int (List Booking)) :=
  bif (decide (s18 < s19)) then
  (impl_BookWay_c1 a2 (w64 (Int.fdiv (IntKind.u64.wrap (w64 (s18 + s19))) (2 ^ 1))) a0).bind fun v30 =>
  bif (!v30) then
  some (.next (w64 ((w64 (Int.fdiv (IntKind.u64.wrap (w64 (s18 + s19))) (2 ^ 1))) + 1), s19))
  else
  some (.next (s18, w64 (Int.fdiv (IntKind.u64.wrap (w64 (s18 + s19))) (2 ^ 1))))
  else
  some (.brk s18)
def sort_symMerge_func_at0ls41_L3 (a0 : ((List Booking))) (a2 : Int) (s : Int × Int) : Option (Ctl (Int × Int) Int (List Booking)) := sort_symMerge_func_at0ls41_L3_b a0 a2 s.1 s.2
def sort_symMerge_func_at0ls41_L3_s (a0 : ((List Booking))) (a2 : Int) (s18 : Int) (s19 : Int) : St := ⟨[(0, .o (.agg [.fn 41 [900], .of (fun s => .func (.func 99) #[] #[s, .pointer (some ⟨0, 57, none⟩)]) 920])), (2, .o (.c (.v (.int .i64 a2)))), (4, .o (.c (.ptr 0 0))), (12, .o (.c (.v (.int .i64 s18)))), (13, .o (.c (.v (.int .i64 s19))))], [(900, .box 31 [.sl 920]), (920, .row 57 4 (a0.map Booking.enc)), (0, .box 112 [.fn 41 [900], .of (fun s => .func (.func 99) #[] #[s, .pointer (some ⟨0, 57, none⟩)]) 920])]⟩
def sort_symMerge_func_at0ls41_L3_S (a0 : ((List Booking))) (a2 : Int) (s : Int × Int) : St := sort_symMerge_func_at0ls41_L3_s a0 a2 s.1 s.2
def sort_symMerge_func_at0ls41_L3_a (a0 : ((List Booking))) (a2 : Int) (s20 : Int) : Option (List Booking) :=
  (loopM (sort_symMerge_func_at0ls41_L4 s20) big (a0, a2)).bind (sort_symMerge_func_at0ls41_L4_k)
def sort_symMerge_func_at0ls41_L3_k (a0 : ((List Booking))) (a2 : Int) (x : (Int) ⊕ ((List Booking))) : Option (List Booking) := match x with
  | .inl t => sort_symMerge_func_at0ls41_L3_a a0 a2 t
  | .inr y => some y
def sort_symMerge_func_at0ls41_j3 (self : ((List Booking)) → Int → Int → Int → Option (List Booking)) (a1 : Int) (a2 : Int) (a3 : Int) (s37 : Int) (s41 : (List Booking)) : Option (List Booking) :=
  bif (decide ((w64 (Int.fdiv (IntKind.u64.wrap (w64 (a1 + a3))) (2 ^ 1))) < (w64 ((w64 ((w64 (Int.fdiv (IntKind.u64.wrap (w64 (a1 + a3))) (2 ^ 1))) + a2)) - s37)))) then
  bif (decide ((w64 ((w64 ((w64 (Int.fdiv (IntKind.u64.wrap (w64 (a1 + a3))) (2 ^ 1))) + a2)) - s37)) < a3)) then
  (self s41 (w64 (Int.fdiv (IntKind.u64.wrap (w64 (a1 + a3))) (2 ^ 1))) (w64 ((w64 ((w64 (Int.fdiv (IntKind.u64.wrap (w64 (a1 + a3))) (2 ^ 1))) + a2)) - s37)) a3).bind fun v44 =>
  some v44
  else
  some s41
  else
  some s41
def sort_symMerge_func_at0ls41_j2 (self : ((List Booking)) → Int → Int → Int → Option (List Booking)) (a1 : Int) (a2 : Int) (a3 : Int) (s37 : Int) (s39 : (List Booking)) : Option (List Booking) :=
  bif (decide (a1 < s37)) then
  bif (decide (s37 < (w64 (Int.fdiv (IntKind.u64.wrap (w64 (a1 + a3))) (2 ^ 1))))) then
  (self s39 a1 s37 (w64 (Int.fdiv (IntKind.u64.wrap (w64 (a1 + a3))) (2 ^ 1)))).bind fun v47 =>
  sort_symMerge_func_at0ls41_j3 self a1 a2 a3 s37 v47
  else
  sort_symMerge_func_at0ls41_j3 self a1 a2 a3 s37 s39
  else
  bif (decide ((w64 (Int.fdiv (IntKind.u64.wrap (w64 (a1 + a3))) (2 ^ 1))) < (w64 ((w64 ((w64 (Int.fdiv (IntKind.u64.wrap (w64 (a1 + a3))) (2 ^ 1))) + a2)) - s37)))) then
  bif (decide ((w64 ((w64 ((w64 (Int.fdiv (IntKind.u64.wrap (w64 (a1 + a3))) (2 ^ 1))) + a2)) - s37)) < a3)) then
  (self s39 (w64 (Int.fdiv (IntKind.u64.wrap (w64 (a1 + a3))) (2 ^ 1))) (w64 ((w64 ((w64 (Int.fdiv (IntKind.u64.wrap (w64 (a1 + a3))) (2 ^ 1))) + a2)) - s37)) a3).bind fun v51 =>
  some v51
  else
  some s39
  else
  some s39
def sort_symMerge_func_at0ls41_j4 (self : ((List Booking)) → Int → Int → Int → Option (List Booking)) (a1 : Int) (a2 : Int) (a3 : Int) (s37 : Int) (s57 : (List Booking)) : Option (List Booking) :=
  bif (decide ((w64 (Int.fdiv (IntKind.u64.wrap (w64 (a1 + a3))) (2 ^ 1))) < (w64 ((w64 ((w64 (Int.fdiv (IntKind.u64.wrap (w64 (a1 + a3))) (2 ^ 1))) + a2)) - s37)))) then
  bif (decide ((w64 ((w64 ((w64 (Int.fdiv (IntKind.u64.wrap (w64 (a1 + a3))) (2 ^ 1))) + a2)) - s37)) < a3)) then
  (self s57 (w64 (Int.fdiv (IntKind.u64.wrap (w64 (a1 + a3))) (2 ^ 1))) (w64 ((w64 ((w64 (Int.fdiv (IntKind.u64.wrap (w64 (a1 + a3))) (2 ^ 1))) + a2)) - s37)) a3).bind fun v60 =>
  some v60
  else
  some s57
  else
  some s57
def sort_symMerge_func_at0ls41_L5_b (a0 : ((List Booking))) (a1 : Int) (a2 : Int) (a3 : Int) (s35 : Int) (s36 : Int) : Option (Ctl (Int × Int) Int (List Booking)) :=
  bif (decide (s35 < s36)) then
  (impl_BookWay_c1 (w64 ((w64 ((w64 ((w64 (Int.fdiv (IntKind.u64.wrap (w64 (a1 + a3))) (2 ^ 1))) + a2)) - 1)) - (w64 (Int.fdiv (IntKind.u64.wrap (w64 (s35 + s36))) (2 ^ 1))))) (w64 (Int.fdiv (IntKind.u64.wrap (w64 (s35 + s36))) (2 ^ 1))) a0).bind fun v70 =>
  bif (!v70) then
  some (.next (w64 ((w64 (Int.fdiv (IntKind.u64.wrap (w64 (s35 + s36))) (2 ^ 1))) + 1), s36))
  else
  some (.next (s35, w64 (Int.fdiv (IntKind.u64.wrap (w64 (s35 + s36))) (2 ^ 1))))
  else
  some (.brk s35)
def sort_symMerge_func_at0ls41_L5 (a0 : ((List Booking))) (a1 : Int) (a2 : Int) (a3 : Int) (s : Int × Int) : Option (Ctl (Int × Int) Int (List Booking)) := sort_symMerge_func_at0ls41_L5_b a0 a1 a2 a3 s.1 s.2
def sort_symMerge_func_at0ls41_L5_s (a0 : ((List Booking))) (a1 : Int) (a2 : Int) (a3 : Int) (s35 : Int) (s36 : Int) : St := ⟨[(0, .o (.agg [.fn 41 [900], .of (fun s => .func (.func 99) #[] #[s, .pointer (some ⟨0, 57, none⟩)]) 920])), (1, .o (.c (.v (.int .i64 a1)))), (2, .o (.c (.v (.int .i64 a2)))), (3, .o (.c (.v (.int .i64 a3)))), (4, .o (.c (.ptr 0 0))), (16, .o (.c (.v (.int .i64 (w64 (Int.fdiv (IntKind.u64.wrap (w64 (a1 + a3))) (2 ^ 1))))))), (17, .o (.c (.v (.int .i64 (w64 ((w64 (Int.fdiv (IntKind.u64.wrap (w64 (a1 + a3))) (2 ^ 1))) + a2)))))), (18, .o (.c (.v (.int .i64 s35)))), (19, .o (.c (.v (.int .i64 s36)))), (20, .o (.c (.v (.int .i64 (w64 ((w64 ((w64 (Int.fdiv (IntKind.u64.wrap (w64 (a1 + a3))) (2 ^ 1))) + a2)) - 1))))))], [(900, .box 31 [.sl 920]), (920, .row 57 4 (a0.map Booking.enc)), (0, .box 112 [.fn 41 [900], .of (fun s => .func (.func 99) #[] #[s, .pointer (some ⟨0, 57, none⟩)]) 920])]⟩
def sort_symMerge_func_at0ls41_L5_S (a0 : ((List Booking))) (a1 : Int) (a2 : Int) (a3 : Int) (s : Int × Int) : St := sort_symMerge_func_at0ls41_L5_s a0 a1 a2 a3 s.1 s.2
def sort_symMerge_func_at0ls41_L5_a (self : ((List Booking)) → Int → Int → Int → Option (List Booking)) (a0 : ((List Booking))) (a1 : Int) (a2 : Int) (a3 : Int) (s37 : Int) : Option (List Booking) :=
  bif (decide (s37 < a2)) then
  bif (decide (a2 < (w64 ((w64 ((w64 (Int.fdiv (IntKind.u64.wrap (w64 (a1 + a3))) (2 ^ 1))) + a2)) - s37)))) then
  (sort_rotate_func_at0ls41 a0 s37 a2 (w64 ((w64 ((w64 (Int.fdiv (IntKind.u64.wrap (w64 (a1 + a3))) (2 ^ 1))) + a2)) - s37))).bind fun v54 =>
  sort_symMerge_func_at0ls41_j2 self a1 a2 a3 s37 v54
  else
  sort_symMerge_func_at0ls41_j2 self a1 a2 a3 s37 a0
  else
  bif (decide (a1 < s37)) then
  bif (decide (s37 < (w64 (Int.fdiv (IntKind.u64.wrap (w64 (a1 + a3))) (2 ^ 1))))) then
  (self a0 a1 s37 (w64 (Int.fdiv (IntKind.u64.wrap (w64 (a1 + a3))) (2 ^ 1)))).bind fun v63 =>
  sort_symMerge_func_at0ls41_j4 self a1 a2 a3 s37 v63
  else
  sort_symMerge_func_at0ls41_j4 self a1 a2 a3 s37 a0
  else
  bif (decide ((w64 (Int.fdiv (IntKind.u64.wrap (w64 (a1 + a3))) (2 ^ 1))) < (w64 ((w64 ((w64 (Int.fdiv (IntKind.u64.wrap (w64 (a1 + a3))) (2 ^ 1))) + a2)) - s37)))) then
  bif (decide ((w64 ((w64 ((w64 (Int.fdiv (IntKind.u64.wrap (w64 (a1 + a3))) (2 ^ 1))) + a2)) - s37)) < a3)) then
  (self a0 (w64 (Int.fdiv (IntKind.u64.wrap (w64 (a1 + a3))) (2 ^ 1))) (w64 ((w64 ((w64 (Int.fdiv (IntKind.u64.wrap (w64 (a1 + a3))) (2 ^ 1))) + a2)) - s37)) a3).bind fun v67 =>
  some v67
  else
  some a0
  else
  some a0
def sort_symMerge_func_at0ls41_L5_k (self : ((List Booking)) → Int → Int → Int → Option (List Booking)) (a0 : ((List Booking))) (a1 : Int) (a2 : Int) (a3 : Int) (x : (Int) ⊕ ((List Booking))) : Option (List Booking) := match x with
  | .inl t => sort_symMerge_func_at0ls41_L5_a self a0 a1 a2 a3 t
  | .inr y => some y
def sort_symMerge_func_at0ls41_j1 (self : ((List Booking)) → Int → Int → Int → Option (List Booking)) (a0 : ((List Booking))) (a1 : Int) (a2 : Int) (a3 : Int) (s33 : Int) (s34 : Int) : Option (List Booking) :=
  (loopM (sort_symMerge_func_at0ls41_L5 a0 a1 a2 a3) big (s33, s34)).bind (sort_symMerge_func_at0ls41_L5_k self a0 a1 a2 a3)
def sort_symMerge_func_at0ls41_F (self : ((List Booking)) → Int → Int → Int → Option (List Booking)) (a0 : ((List Booking))) (a1 : Int) (a2 : Int) (a3 : Int) : Option (List Booking) :=
  bif ((w64 (a2 - a1)) == 1) then
  (loopM (sort_symMerge_func_at0ls41_L1 a0 a1) big (a2, a3)).bind (sort_symMerge_func_at0ls41_L1_k a0 a1)
  else
  bif ((w64 (a3 - a2)) == 1) then
  (loopM (sort_symMerge_func_at0ls41_L3 a0 a2) big (a1, a2)).bind (sort_symMerge_func_at0ls41_L3_k a0 a2)
  else
  bif (decide (a2 > (w64 (Int.fdiv (IntKind.u64.wrap (w64 (a1 + a3))) (2 ^ 1))))) then
  sort_symMerge_func_at0ls41_j1 self a0 a1 a2 a3 (w64 ((w64 ((w64 (Int.fdiv (IntKind.u64.wrap (w64 (a1 + a3))) (2 ^ 1))) + a2)) - a3)) (w64 (Int.fdiv (IntKind.u64.wrap (w64 (a1 + a3))) (2 ^ 1)))
  else
  sort_symMerge_func_at0ls41_j1 self a0 a1 a2 a3 a1 a2
def sort_symMerge_func_at0ls41_n : Nat → ((List Booking)) → Int → Int → Int → Option (List Booking)
  | 0, _, _, _, _ => none
  | n + 1, a0, a1, a2, a3 => sort_symMerge_func_at0ls41_F (sort_symMerge_func_at0ls41_n n) a0 a1 a2 a3
def sort_symMerge_func_at0ls41 (a0 : ((List Booking))) (a1 : Int) (a2 : Int) (a3 : Int) : Option (List Booking) := sort_symMerge_func_at0ls41_n big a0 a1 a2 a3
theorem sort_symMerge_func_at0ls41_step (self : ((List Booking)) → Int → Int → Int → Option (List Booking)) (ih : ∀ (a0 : ((List Booking))) (a1 : Int) (a2 : Int) (a3 : Int) (r : (List Booking)), self a0 a1 a2 a3 = some r →
    Con Try.prog 101 [.agg [.fn 41 [900], .of (fun s => .func (.func 99) #[] #[s, .pointer (some ⟨0, 57, none⟩)]) 920], .c (.v (.int .i64 a1)), .c (.v (.int .i64 a2)), .c (.v (.int .i64 a3))] [(900, .box 31 [.sl 920]), (920, .row 57 4 (a0.map Booking.enc))] (.tup []) [(900, .box 31 [.sl 920]), (920, .row 57 4 (r.map Booking.enc))] [])
     (a0 : ((List Booking))) (a1 : Int) (a2 : Int) (a3 : Int) (r : (List Booking)) (hM : sort_symMerge_func_at0ls41_F self a0 a1 a2 a3 = some r) :
    Con Try.prog 101 [.agg [.fn 41 [900], .of (fun s => .func (.func 99) #[] #[s, .pointer (some ⟨0, 57, none⟩)]) 920], .c (.v (.int .i64 a1)), .c (.v (.int .i64 a2)), .c (.v (.int .i64 a3))] [(900, .box 31 [.sl 920]), (920, .row 57 4 (a0.map Booking.enc))] (.tup []) [(900, .box 31 [.sl 920]), (920, .row 57 4 (r.map Booking.enc))] [] := by
  unfold sort_symMerge_func_at0ls41_F at hM
  refine cn (N := 177) (pids := [900, 920]) Try_mixed Try.func101 (by kernel_rfl) (by kernel_rfl) (by kernel_rfl) rfl fun ρ g w R => ?_
  rcases cond_cases hM with ⟨h1, hM⟩ | ⟨h1, hM⟩
  · have K1 : ∀ (s4 : Int), sort_symMerge_func_at0ls41_L1_a a0 a1 s4 = some r → Gr R [.code (cAt Try.f101 [1, 0, 1, 0, 1, 1, 1]), .code (cAt Try.f101 [1, 1])] (⟨[(0, .o (.agg [.fn 41 [900], .of (fun s => .func (.func 99) #[] #[s, .pointer (some ⟨0, 57, none⟩)]) 920])), (1, .o (.c (.v (.int .i64 a1)))), (4, .o (.c (.ptr 0 0))), (8, .o (.c (.v (.int .i64 s4))))], [(900, .box 31 [.sl 920]), (920, .row 57 4 (a0.map Booking.enc)), (0, .box 112 [.fn 41 [900], .of (fun s => .func (.func 99) #[] #[s, .pointer (some ⟨0, 57, none⟩)]) 920])]⟩) := by
      intro s4 hM
      unfold sort_symMerge_func_at0ls41_L1_a at hM
      have K2 : ∀ (s7 : (List Booking)), sort_symMerge_func_at0ls41_L2_a s7 = some r → Gr R [.code .ret, .code (cAt Try.f101 [1, 1])] (⟨[(0, .o (.agg [.fn 41 [900], .of (fun s => .func (.func 99) #[] #[s, .pointer (some ⟨0, 57, none⟩)]) 920]))], [(900, .box 31 [.sl 920]), (920, .row 57 4 (s7.map Booking.enc))]⟩) := by
        intro s7 hM
        unfold sort_symMerge_func_at0ls41_L2_a at hM
        have hE : some s7 = some r := hM
        have hE := Option.some.inj hE
        subst hE
        exact pr R 9999 [] [] [900, 920] [] True.intro (by kernel_rfl)
      refine pc R 9999 [] [.keep [0, 4, 8, 11] [900, 920, 0]] (k' := [.code (.loop (cAt Try.f101 [1, 0, 1, 0, 1, 1, 1, 0, 1, 0, 0])), .blk 2, .code .ret, .code (cAt Try.f101 [1, 1])]) (S' := sort_symMerge_func_at0ls41_L2_S s4 (a0, a1)) True.intro (by kernel_rfl) ?_
      refine lq (sort_symMerge_func_at0ls41_L2_S s4) (body := sort_symMerge_func_at0ls41_L2 s4) (k := sort_symMerge_func_at0ls41_L2_k) hM fun m2 s c2 hM hK2 => ?_
      obtain ⟨s5, s6⟩ := s
      have hM : sort_symMerge_func_at0ls41_L2_b s4 s5 s6 = some c2 := hM
      unfold sort_symMerge_func_at0ls41_L2_b at hM
      rcases cond_cases hM with ⟨h8, hM⟩ | ⟨h8, hM⟩
      · obtain ⟨v9, h10, hM⟩ := bind_some hM
        obtain ⟨v11, h12, hM⟩ := bind_some hM
        have hE : some (Ctl.next (List.set (List.set s5 (Int.toNat s6) v11) (Int.toNat (w64 (s6 + 1))) v9, w64 (s6 + 1))) = some c2 := hM
        have hE := Option.some.inj hE
        subst hE
        exact pc R 9999 [.as 50 true, .ix (Booking.enc v9), .ix (Booking.enc v11), .nm ((List.set (List.set s5 (Int.toNat s6) v11) (Int.toNat (w64 (s6 + 1))) v9).map Booking.enc)] [.keep [0, 4, 8, 11] [900, 920, 0]] (And.intro h8 (And.intro (swap_cond Booking.enc sw_ok57 h10 h12) True.intro)) (by kernel_rfl) (li (Sf := sort_symMerge_func_at0ls41_L2_S s4) (M := Mk (sort_symMerge_func_at0ls41_L2 s4) (sort_symMerge_func_at0ls41_L2_k) r) (k := [.blk 2, .code .ret, .code (cAt Try.f101 [1, 1])]) (Nat.lt_succ_self m2) hK2)
      · have hE : some (Ctl.brk s5) = some c2 := hM
        have hE := Option.some.inj hE
        subst hE
        exact pc R 5 [.as 50 false] [.keep [0] [900, 920]] (And.intro h8 True.intro) (by kernel_rfl) (K2 s5 hK2)
    refine pc R 9999 [.new 0, .as 26 true] [.keep [0, 1, 4, 8, 9] [900, 920, 0]] (k' := [.code (.loop (cAt Try.f101 [1, 0, 1, 0, 1, 1, 0, 0, 0])), .blk 0, .code (cAt Try.f101 [1, 0, 1, 0, 1, 1, 1]), .code (cAt Try.f101 [1, 1])]) (S' := sort_symMerge_func_at0ls41_L1_S a0 a1 (a2, a3)) (And.intro h1 True.intro) (by kernel_rfl) ?_
    refine lq (sort_symMerge_func_at0ls41_L1_S a0 a1) (body := sort_symMerge_func_at0ls41_L1 a0 a1) (k := sort_symMerge_func_at0ls41_L1_k a0 a1) hM fun m1 s c1 hM hK1 => ?_
    obtain ⟨s2, s3⟩ := s
    have hM : sort_symMerge_func_at0ls41_L1_b a0 a1 s2 s3 = some c1 := hM
    unfold sort_symMerge_func_at0ls41_L1_b at hM
    rcases cond_cases hM with ⟨h13, hM⟩ | ⟨h13, hM⟩
    · obtain ⟨v14, h15, hM⟩ := bind_some hM
      rcases cond_cases hM with ⟨h16, hM⟩ | ⟨h16, hM⟩
      · have hE : some (Ctl.next (w64 ((w64 (Int.fdiv (IntKind.u64.wrap (w64 (s2 + s3))) (2 ^ 1))) + 1), s3)) = some c1 := hM
        have hE := Option.some.inj hE
        subst hE
        exact pc R 9999 [.as 31 true, .ad (.keep [0, 1, 4, 8, 9, 10, 29, 30, 31, 32, 33, 34, 35, 36, 37, 38, 39, 40, 41] [900, 920, 0]), .call true [900, 920] (.o (.c (.v (.bool v14)))) [(900, .box 31 [.sl 920]), (920, .row 57 4 (a0.map Booking.enc))] [], .as 42 true] [.keep [0, 1, 4, 8, 9] [900, 920, 0]] (And.intro h13 (And.intro (And.intro (con_sw 922 920 (con_sw 902 900 (impl_BookWay_c1_ok (w64 (Int.fdiv (IntKind.u64.wrap (w64 (s2 + s3))) (2 ^ 1))) a1 a0 v14 h15))) (rfl : ([900, 920] : List Nat) = [900, 920])) (And.intro h16 True.intro))) (by kernel_rfl) (li (Sf := sort_symMerge_func_at0ls41_L1_S a0 a1) (M := Mk (sort_symMerge_func_at0ls41_L1 a0 a1) (sort_symMerge_func_at0ls41_L1_k a0 a1) r) (k := [.blk 0, .code (cAt Try.f101 [1, 0, 1, 0, 1, 1, 1]), .code (cAt Try.f101 [1, 1])]) (Nat.lt_succ_self m1) hK1)
      · have hE : some (Ctl.next (s2, w64 (Int.fdiv (IntKind.u64.wrap (w64 (s2 + s3))) (2 ^ 1)))) = some c1 := hM
        have hE := Option.some.inj hE
        subst hE
        exact pc R 9999 [.as 31 true, .ad (.keep [0, 1, 4, 8, 9, 10, 29, 30, 31, 32, 33, 34, 35, 36, 37, 38, 39, 40, 41] [900, 920, 0]), .call true [900, 920] (.o (.c (.v (.bool v14)))) [(900, .box 31 [.sl 920]), (920, .row 57 4 (a0.map Booking.enc))] [], .as 42 false] [.keep [0, 1, 4, 8, 9] [900, 920, 0]] (And.intro h13 (And.intro (And.intro (con_sw 922 920 (con_sw 902 900 (impl_BookWay_c1_ok (w64 (Int.fdiv (IntKind.u64.wrap (w64 (s2 + s3))) (2 ^ 1))) a1 a0 v14 h15))) (rfl : ([900, 920] : List Nat) = [900, 920])) (And.intro h16 True.intro))) (by kernel_rfl) (li (Sf := sort_symMerge_func_at0ls41_L1_S a0 a1) (M := Mk (sort_symMerge_func_at0ls41_L1 a0 a1) (sort_symMerge_func_at0ls41_L1_k a0 a1) r) (k := [.blk 0, .code (cAt Try.f101 [1, 0, 1, 0, 1, 1, 1]), .code (cAt Try.f101 [1, 1])]) (Nat.lt_succ_self m1) hK1)
    · have hE : some (Ctl.brk s2) = some c1 := hM
      have hE := Option.some.inj hE
      subst hE
      exact pc R 5 [.as 31 false] [.keep [0, 1, 4, 8] [900, 920, 0]] (And.intro h13 True.intro) (by kernel_rfl) (K1 s2 hK1)
  · rcases cond_cases hM with ⟨h17, hM⟩ | ⟨h17, hM⟩
    · have K3 : ∀ (s20 : Int), sort_symMerge_func_at0ls41_L3_a a0 a2 s20 = some r → Gr R [.code (cAt Try.f101 [1, 1, 0, 1, 0, 1, 1, 1]), .code (cAt Try.f101 [1, 1, 1])] (⟨[(0, .o (.agg [.fn 41 [900], .of (fun s => .func (.func 99) #[] #[s, .pointer (some ⟨0, 57, none⟩)]) 920])), (2, .o (.c (.v (.int .i64 a2)))), (4, .o (.c (.ptr 0 0))), (12, .o (.c (.v (.int .i64 s20))))], [(900, .box 31 [.sl 920]), (920, .row 57 4 (a0.map Booking.enc)), (0, .box 112 [.fn 41 [900], .of (fun s => .func (.func 99) #[] #[s, .pointer (some ⟨0, 57, none⟩)]) 920])]⟩) := by
        intro s20 hM
        unfold sort_symMerge_func_at0ls41_L3_a at hM
        have K4 : ∀ (s23 : (List Booking)), sort_symMerge_func_at0ls41_L4_a s23 = some r → Gr R [.code .ret, .code (cAt Try.f101 [1, 1, 1])] (⟨[(0, .o (.agg [.fn 41 [900], .of (fun s => .func (.func 99) #[] #[s, .pointer (some ⟨0, 57, none⟩)]) 920]))], [(900, .box 31 [.sl 920]), (920, .row 57 4 (s23.map Booking.enc))]⟩) := by
          intro s23 hM
          unfold sort_symMerge_func_at0ls41_L4_a at hM
          have hE : some s23 = some r := hM
          have hE := Option.some.inj hE
          subst hE
          exact pr R 9999 [] [] [900, 920] [] True.intro (by kernel_rfl)
        refine pc R 9999 [] [.keep [0, 4, 12, 15] [900, 920, 0]] (k' := [.code (.loop (cAt Try.f101 [1, 1, 0, 1, 0, 1, 1, 1, 0, 1, 0, 0])), .blk 6, .code .ret, .code (cAt Try.f101 [1, 1, 1])]) (S' := sort_symMerge_func_at0ls41_L4_S s20 (a0, a2)) True.intro (by kernel_rfl) ?_
        refine lq (sort_symMerge_func_at0ls41_L4_S s20) (body := sort_symMerge_func_at0ls41_L4 s20) (k := sort_symMerge_func_at0ls41_L4_k) hM fun m4 s c4 hM hK4 => ?_
        obtain ⟨s21, s22⟩ := s
        have hM : sort_symMerge_func_at0ls41_L4_b s20 s21 s22 = some c4 := hM
        unfold sort_symMerge_func_at0ls41_L4_b at hM
        rcases cond_cases hM with ⟨h24, hM⟩ | ⟨h24, hM⟩
        · obtain ⟨v25, h26, hM⟩ := bind_some hM
          obtain ⟨v27, h28, hM⟩ := bind_some hM
          have hE : some (Ctl.next (List.set (List.set s21 (Int.toNat s22) v27) (Int.toNat (w64 (s22 - 1))) v25, w64 (s22 - 1))) = some c4 := hM
          have hE := Option.some.inj hE
          subst hE
          exact pc R 9999 [.as 86 true, .ix (Booking.enc v25), .ix (Booking.enc v27), .nm ((List.set (List.set s21 (Int.toNat s22) v27) (Int.toNat (w64 (s22 - 1))) v25).map Booking.enc)] [.keep [0, 4, 12, 15] [900, 920, 0]] (And.intro h24 (And.intro (swap_cond Booking.enc sw_ok57 h26 h28) True.intro)) (by kernel_rfl) (li (Sf := sort_symMerge_func_at0ls41_L4_S s20) (M := Mk (sort_symMerge_func_at0ls41_L4 s20) (sort_symMerge_func_at0ls41_L4_k) r) (k := [.blk 6, .code .ret, .code (cAt Try.f101 [1, 1, 1])]) (Nat.lt_succ_self m4) hK4)
        · have hE : some (Ctl.brk s21) = some c4 := hM
          have hE := Option.some.inj hE
          subst hE
          exact pc R 5 [.as 86 false] [.keep [0] [900, 920]] (And.intro h24 True.intro) (by kernel_rfl) (K4 s21 hK4)
      refine pc R 9999 [.new 0, .as 26 false, .as 62 true] [.keep [0, 2, 4, 12, 13] [900, 920, 0]] (k' := [.code (.loop (cAt Try.f101 [1, 1, 0, 1, 0, 1, 1, 0, 0, 0])), .blk 4, .code (cAt Try.f101 [1, 1, 0, 1, 0, 1, 1, 1]), .code (cAt Try.f101 [1, 1, 1])]) (S' := sort_symMerge_func_at0ls41_L3_S a0 a2 (a1, a2)) (And.intro h1 (And.intro h17 True.intro)) (by kernel_rfl) ?_
      refine lq (sort_symMerge_func_at0ls41_L3_S a0 a2) (body := sort_symMerge_func_at0ls41_L3 a0 a2) (k := sort_symMerge_func_at0ls41_L3_k a0 a2) hM fun m3 s c3 hM hK3 => ?_
      obtain ⟨s18, s19⟩ := s
      have hM : sort_symMerge_func_at0ls41_L3_b a0 a2 s18 s19 = some c3 := hM
      unfold sort_symMerge_func_at0ls41_L3_b at hM
      rcases cond_cases hM with ⟨h29, hM⟩ | ⟨h29, hM⟩
      · obtain ⟨v30, h31, hM⟩ := bind_some hM
        rcases cond_cases hM with ⟨h32, hM⟩ | ⟨h32, hM⟩
        · have hE : some (Ctl.next (w64 ((w64 (Int.fdiv (IntKind.u64.wrap (w64 (s18 + s19))) (2 ^ 1))) + 1), s19)) = some c3 := hM
          have hE := Option.some.inj hE
          subst hE
          exact pc R 9999 [.as 67 true, .ad (.keep [0, 2, 4, 12, 13, 14, 65, 66, 67, 68, 69, 70, 71, 72, 73, 74, 75, 76, 77] [900, 920, 0]), .call true [900, 920] (.o (.c (.v (.bool v30)))) [(900, .box 31 [.sl 920]), (920, .row 57 4 (a0.map Booking.enc))] [], .as 79 true] [.keep [0, 2, 4, 12, 13] [900, 920, 0]] (And.intro h29 (And.intro (And.intro (con_sw 922 920 (con_sw 902 900 (impl_BookWay_c1_ok a2 (w64 (Int.fdiv (IntKind.u64.wrap (w64 (s18 + s19))) (2 ^ 1))) a0 v30 h31))) (rfl : ([900, 920] : List Nat) = [900, 920])) (And.intro h32 True.intro))) (by kernel_rfl) (li (Sf := sort_symMerge_func_at0ls41_L3_S a0 a2) (M := Mk (sort_symMerge_func_at0ls41_L3 a0 a2) (sort_symMerge_func_at0ls41_L3_k a0 a2) r) (k := [.blk 4, .code (cAt Try.f101 [1, 1, 0, 1, 0, 1, 1, 1]), .code (cAt Try.f101 [1, 1, 1])]) (Nat.lt_succ_self m3) hK3)
        · have hE : some (Ctl.next (s18, w64 (Int.fdiv (IntKind.u64.wrap (w64 (s18 + s19))) (2 ^ 1)))) = some c3 := hM
          have hE := Option.some.inj hE
          subst hE
          exact pc R 9999 [.as 67 true, .ad (.keep [0, 2, 4, 12, 13, 14, 65, 66, 67, 68, 69, 70, 71, 72, 73, 74, 75, 76, 77] [900, 920, 0]), .call true [900, 920] (.o (.c (.v (.bool v30)))) [(900, .box 31 [.sl 920]), (920, .row 57 4 (a0.map Booking.enc))] [], .as 79 false] [.keep [0, 2, 4, 12, 13] [900, 920, 0]] (And.intro h29 (And.intro (And.intro (con_sw 922 920 (con_sw 902 900 (impl_BookWay_c1_ok a2 (w64 (Int.fdiv (IntKind.u64.wrap (w64 (s18 + s19))) (2 ^ 1))) a0 v30 h31))) (rfl : ([900, 920] : List Nat) = [900, 920])) (And.intro h32 True.intro))) (by kernel_rfl) (li (Sf := sort_symMerge_func_at0ls41_L3_S a0 a2) (M := Mk (sort_symMerge_func_at0ls41_L3 a0 a2) (sort_symMerge_func_at0ls41_L3_k a0 a2) r) (k := [.blk 4, .code (cAt Try.f101 [1, 1, 0, 1, 0, 1, 1, 1]), .code (cAt Try.f101 [1, 1, 1])]) (Nat.lt_succ_self m3) hK3)
      · have hE : some (Ctl.brk s18) = some c3 := hM
        have hE := Option.some.inj hE
        subst hE
        exact pc R 5 [.as 67 false] [.keep [0, 2, 4, 12] [900, 920, 0]] (And.intro h29 True.intro) (by kernel_rfl) (K3 s18 hK3)
    · have J4 : ∀ (s33 : Int) (s34 : Int), sort_symMerge_func_at0ls41_j1 self a0 a1 a2 a3 s33 s34 = some r → Gr R [.code (cAt Try.f101 [1, 1, 1, 1, 1, 1, 1])] (⟨[(0, .o (.agg [.fn 41 [900], .of (fun s => .func (.func 99) #[] #[s, .pointer (some ⟨0, 57, none⟩)]) 920])), (1, .o (.c (.v (.int .i64 a1)))), (2, .o (.c (.v (.int .i64 a2)))), (3, .o (.c (.v (.int .i64 a3)))), (4, .o (.c (.ptr 0 0))), (16, .o (.c (.v (.int .i64 (w64 (Int.fdiv (IntKind.u64.wrap (w64 (a1 + a3))) (2 ^ 1))))))), (17, .o (.c (.v (.int .i64 (w64 ((w64 (Int.fdiv (IntKind.u64.wrap (w64 (a1 + a3))) (2 ^ 1))) + a2)))))), (18, .o (.c (.v (.int .i64 s33)))), (19, .o (.c (.v (.int .i64 s34))))], [(900, .box 31 [.sl 920]), (920, .row 57 4 (a0.map Booking.enc)), (0, .box 112 [.fn 41 [900], .of (fun s => .func (.func 99) #[] #[s, .pointer (some ⟨0, 57, none⟩)]) 920])]⟩) := by
        intro s33 s34 hM
        unfold sort_symMerge_func_at0ls41_j1 at hM
        have K5 : ∀ (s37 : Int), sort_symMerge_func_at0ls41_L5_a self a0 a1 a2 a3 s37 = some r → Gr R [.code (cAt Try.f101 [1, 1, 1, 1, 1, 1, 1, 1, 1])] (⟨[(0, .o (.agg [.fn 41 [900], .of (fun s => .func (.func 99) #[] #[s, .pointer (some ⟨0, 57, none⟩)]) 920])), (1, .o (.c (.v (.int .i64 a1)))), (2, .o (.c (.v (.int .i64 a2)))), (3, .o (.c (.v (.int .i64 a3)))), (4, .o (.c (.ptr 0 0))), (16, .o (.c (.v (.int .i64 (w64 (Int.fdiv (IntKind.u64.wrap (w64 (a1 + a3))) (2 ^ 1))))))), (17, .o (.c (.v (.int .i64 (w64 ((w64 (Int.fdiv (IntKind.u64.wrap (w64 (a1 + a3))) (2 ^ 1))) + a2)))))), (18, .o (.c (.v (.int .i64 s37))))], [(900, .box 31 [.sl 920]), (920, .row 57 4 (a0.map Booking.enc)), (0, .box 112 [.fn 41 [900], .of (fun s => .func (.func 99) #[] #[s, .pointer (some ⟨0, 57, none⟩)]) 920])]⟩) := by
          intro s37 hM
          unfold sort_symMerge_func_at0ls41_L5_a at hM
          rcases cond_cases hM with ⟨h38, hM⟩ | ⟨h38, hM⟩
          · have J3 : ∀ (s39 : (List Booking)), sort_symMerge_func_at0ls41_j2 self a1 a2 a3 s37 s39 = some r → Gr R [.code (cAt Try.f101 [1, 1, 1, 1, 1, 1, 1, 1, 1, 1, 1])] (⟨[(0, .o (.agg [.fn 41 [900], .of (fun s => .func (.func 99) #[] #[s, .pointer (some ⟨0, 57, none⟩)]) 920])), (1, .o (.c (.v (.int .i64 a1)))), (3, .o (.c (.v (.int .i64 a3)))), (4, .o (.c (.ptr 0 0))), (16, .o (.c (.v (.int .i64 (w64 (Int.fdiv (IntKind.u64.wrap (w64 (a1 + a3))) (2 ^ 1))))))), (18, .o (.c (.v (.int .i64 s37)))), (22, .o (.c (.v (.int .i64 (w64 ((w64 ((w64 (Int.fdiv (IntKind.u64.wrap (w64 (a1 + a3))) (2 ^ 1))) + a2)) - s37))))))], [(900, .box 31 [.sl 920]), (920, .row 57 4 (s39.map Booking.enc)), (0, .box 112 [.fn 41 [900], .of (fun s => .func (.func 99) #[] #[s, .pointer (some ⟨0, 57, none⟩)]) 920])]⟩) := by
              intro s39 hM
              unfold sort_symMerge_func_at0ls41_j2 at hM
              rcases cond_cases hM with ⟨h40, hM⟩ | ⟨h40, hM⟩
              · have J3 : ∀ (s41 : (List Booking)), sort_symMerge_func_at0ls41_j3 self a1 a2 a3 s37 s41 = some r → Gr R [.code (cAt Try.f101 [1, 1, 1, 1, 1, 1, 1, 1, 1, 1, 1, 1])] (⟨[(0, .o (.agg [.fn 41 [900], .of (fun s => .func (.func 99) #[] #[s, .pointer (some ⟨0, 57, none⟩)]) 920])), (3, .o (.c (.v (.int .i64 a3)))), (4, .o (.c (.ptr 0 0))), (16, .o (.c (.v (.int .i64 (w64 (Int.fdiv (IntKind.u64.wrap (w64 (a1 + a3))) (2 ^ 1))))))), (22, .o (.c (.v (.int .i64 (w64 ((w64 ((w64 (Int.fdiv (IntKind.u64.wrap (w64 (a1 + a3))) (2 ^ 1))) + a2)) - s37))))))], [(900, .box 31 [.sl 920]), (920, .row 57 4 (s41.map Booking.enc)), (0, .box 112 [.fn 41 [900], .of (fun s => .func (.func 99) #[] #[s, .pointer (some ⟨0, 57, none⟩)]) 920])]⟩) := by
                  intro s41 hM
                  unfold sort_symMerge_func_at0ls41_j3 at hM
                  rcases cond_cases hM with ⟨h42, hM⟩ | ⟨h42, hM⟩
                  · rcases cond_cases hM with ⟨h43, hM⟩ | ⟨h43, hM⟩
                    · obtain ⟨v44, h45, hM⟩ := bind_some hM
                      have hE : some v44 = some r := hM
                      have hE := Option.some.inj hE
                      subst hE
                      exact pr R 9999 [.as 167 true, .as 171 true, .ad (.keep [0, 3, 4, 16, 22, 164, 165, 166, 167, 168, 169, 170, 171, 172, 173, 174, 175] [900, 920, 0]), .call true [900, 920] (.tup []) [(900, .box 31 [.sl 920]), (920, .row 57 4 (v44.map Booking.enc))] []] [] [900, 920] [] (And.intro h42 (And.intro h43 (And.intro (And.intro (con_sw 920 920 (con_sw 900 900 (ih s41 (w64 (Int.fdiv (IntKind.u64.wrap (w64 (a1 + a3))) (2 ^ 1))) (w64 ((w64 ((w64 (Int.fdiv (IntKind.u64.wrap (w64 (a1 + a3))) (2 ^ 1))) + a2)) - s37)) a3 v44 h45))) (rfl : ([900, 920] : List Nat) = [900, 920])) True.intro))) (by kernel_rfl)
                    · have hE : some s41 = some r := hM
                      have hE := Option.some.inj hE
                      subst hE
                      exact pr R 9999 [.as 167 true, .as 171 false] [] [900, 920] [] (And.intro h42 (And.intro h43 True.intro)) (by kernel_rfl)
                  · have hE : some s41 = some r := hM
                    have hE := Option.some.inj hE
                    subst hE
                    exact pr R 9999 [.as 167 false] [] [900, 920] [] (And.intro h42 True.intro) (by kernel_rfl)
                rcases cond_cases hM with ⟨h46, hM⟩ | ⟨h46, hM⟩
                · obtain ⟨v47, h48, hM⟩ := bind_some hM
                  exact pc R 5 [.as 154 true, .as 158 true, .ad (.keep [0, 1, 3, 4, 16, 18, 22, 151, 152, 153, 154, 155, 156, 157, 158, 159, 160, 161, 162] [900, 920, 0]), .call true [900, 920] (.tup []) [(900, .box 31 [.sl 920]), (920, .row 57 4 (v47.map Booking.enc))] []] [.keep [0, 3, 4, 16, 22] [900, 920, 0]] (And.intro h40 (And.intro h46 (And.intro (And.intro (con_sw 920 920 (con_sw 900 900 (ih s39 a1 s37 (w64 (Int.fdiv (IntKind.u64.wrap (w64 (a1 + a3))) (2 ^ 1))) v47 h48))) (rfl : ([900, 920] : List Nat) = [900, 920])) True.intro))) (by kernel_rfl) (J3 v47 hM)
                · exact pc R 5 [.as 154 true, .as 158 false] [.keep [0, 3, 4, 16, 22] [900, 920, 0]] (And.intro h40 (And.intro h46 True.intro)) (by kernel_rfl) (J3 s39 hM)
              · rcases cond_cases hM with ⟨h49, hM⟩ | ⟨h49, hM⟩
                · rcases cond_cases hM with ⟨h50, hM⟩ | ⟨h50, hM⟩
                  · obtain ⟨v51, h52, hM⟩ := bind_some hM
                    have hE : some v51 = some r := hM
                    have hE := Option.some.inj hE
                    subst hE
                    exact pr R 9999 [.as 154 false, .as 167 true, .as 171 true, .ad (.keep [0, 1, 3, 4, 16, 18, 22, 151, 152, 153, 154, 155, 156, 157, 158, 164, 165, 166, 167, 168, 169, 170, 171, 172, 173, 174, 175] [900, 920, 0]), .call true [900, 920] (.tup []) [(900, .box 31 [.sl 920]), (920, .row 57 4 (v51.map Booking.enc))] []] [] [900, 920] [] (And.intro h40 (And.intro h49 (And.intro h50 (And.intro (And.intro (con_sw 920 920 (con_sw 900 900 (ih s39 (w64 (Int.fdiv (IntKind.u64.wrap (w64 (a1 + a3))) (2 ^ 1))) (w64 ((w64 ((w64 (Int.fdiv (IntKind.u64.wrap (w64 (a1 + a3))) (2 ^ 1))) + a2)) - s37)) a3 v51 h52))) (rfl : ([900, 920] : List Nat) = [900, 920])) True.intro)))) (by kernel_rfl)
                  · have hE : some s39 = some r := hM
                    have hE := Option.some.inj hE
                    subst hE
                    exact pr R 9999 [.as 154 false, .as 167 true, .as 171 false] [] [900, 920] [] (And.intro h40 (And.intro h49 (And.intro h50 True.intro))) (by kernel_rfl)
                · have hE : some s39 = some r := hM
                  have hE := Option.some.inj hE
                  subst hE
                  exact pr R 9999 [.as 154 false, .as 167 false] [] [900, 920] [] (And.intro h40 (And.intro h49 True.intro)) (by kernel_rfl)
            rcases cond_cases hM with ⟨h53, hM⟩ | ⟨h53, hM⟩
            · obtain ⟨v54, h55, hM⟩ := bind_some hM
              exact pc R 7 [.as 141 true, .as 145 true, .ad (.keep [0, 1, 2, 3, 4, 16, 17, 18, 22, 135, 136, 137, 138, 139, 140, 141, 142, 143, 144, 145, 146, 147, 148, 149] [900, 920, 0]), .call true [900, 920] (.tup []) [(900, .box 31 [.sl 920]), (920, .row 57 4 (v54.map Booking.enc))] []] [.keep [0, 1, 3, 4, 16, 18, 22] [900, 920, 0]] (And.intro h38 (And.intro h53 (And.intro (And.intro (con_sw 920 920 (con_sw 900 900 (sort_rotate_func_at0ls41_ok a0 s37 a2 (w64 ((w64 ((w64 (Int.fdiv (IntKind.u64.wrap (w64 (a1 + a3))) (2 ^ 1))) + a2)) - s37)) v54 h55))) (rfl : ([900, 920] : List Nat) = [900, 920])) True.intro))) (by kernel_rfl) (J3 v54 hM)
            · exact pc R 7 [.as 141 true, .as 145 false] [.keep [0, 1, 3, 4, 16, 18, 22] [900, 920, 0]] (And.intro h38 (And.intro h53 True.intro)) (by kernel_rfl) (J3 a0 hM)
          · rcases cond_cases hM with ⟨h56, hM⟩ | ⟨h56, hM⟩
            · have J4 : ∀ (s57 : (List Booking)), sort_symMerge_func_at0ls41_j4 self a1 a2 a3 s37 s57 = some r → Gr R [.code (cAt Try.f101 [1, 1, 1, 1, 1, 1, 1, 1, 1, 1, 1, 1])] (⟨[(0, .o (.agg [.fn 41 [900], .of (fun s => .func (.func 99) #[] #[s, .pointer (some ⟨0, 57, none⟩)]) 920])), (3, .o (.c (.v (.int .i64 a3)))), (4, .o (.c (.ptr 0 0))), (16, .o (.c (.v (.int .i64 (w64 (Int.fdiv (IntKind.u64.wrap (w64 (a1 + a3))) (2 ^ 1))))))), (22, .o (.c (.v (.int .i64 (w64 ((w64 ((w64 (Int.fdiv (IntKind.u64.wrap (w64 (a1 + a3))) (2 ^ 1))) + a2)) - s37))))))], [(900, .box 31 [.sl 920]), (920, .row 57 4 (s57.map Booking.enc)), (0, .box 112 [.fn 41 [900], .of (fun s => .func (.func 99) #[] #[s, .pointer (some ⟨0, 57, none⟩)]) 920])]⟩) := by
                intro s57 hM
                unfold sort_symMerge_func_at0ls41_j4 at hM
                rcases cond_cases hM with ⟨h58, hM⟩ | ⟨h58, hM⟩
                · rcases cond_cases hM with ⟨h59, hM⟩ | ⟨h59, hM⟩
                  · obtain ⟨v60, h61, hM⟩ := bind_some hM
                    have hE : some v60 = some r := hM
                    have hE := Option.some.inj hE
                    subst hE
                    exact pr R 9999 [.as 167 true, .as 171 true, .ad (.keep [0, 3, 4, 16, 22, 164, 165, 166, 167, 168, 169, 170, 171, 172, 173, 174, 175] [900, 920, 0]), .call true [900, 920] (.tup []) [(900, .box 31 [.sl 920]), (920, .row 57 4 (v60.map Booking.enc))] []] [] [900, 920] [] (And.intro h58 (And.intro h59 (And.intro (And.intro (con_sw 920 920 (con_sw 900 900 (ih s57 (w64 (Int.fdiv (IntKind.u64.wrap (w64 (a1 + a3))) (2 ^ 1))) (w64 ((w64 ((w64 (Int.fdiv (IntKind.u64.wrap (w64 (a1 + a3))) (2 ^ 1))) + a2)) - s37)) a3 v60 h61))) (rfl : ([900, 920] : List Nat) = [900, 920])) True.intro))) (by kernel_rfl)
                  · have hE : some s57 = some r := hM
                    have hE := Option.some.inj hE
                    subst hE
                    exact pr R 9999 [.as 167 true, .as 171 false] [] [900, 920] [] (And.intro h58 (And.intro h59 True.intro)) (by kernel_rfl)
                · have hE : some s57 = some r := hM
                  have hE := Option.some.inj hE
                  subst hE
                  exact pr R 9999 [.as 167 false] [] [900, 920] [] (And.intro h58 True.intro) (by kernel_rfl)
              rcases cond_cases hM with ⟨h62, hM⟩ | ⟨h62, hM⟩
              · obtain ⟨v63, h64, hM⟩ := bind_some hM
                exact pc R 12 [.as 141 false, .as 154 true, .as 158 true, .ad (.keep [0, 1, 2, 3, 4, 16, 17, 18, 22, 135, 136, 137, 138, 139, 140, 141, 142, 143, 144, 145, 151, 152, 153, 154, 155, 156, 157, 158, 159, 160, 161, 162] [900, 920, 0]), .call true [900, 920] (.tup []) [(900, .box 31 [.sl 920]), (920, .row 57 4 (v63.map Booking.enc))] []] [.keep [0, 3, 4, 16, 22] [900, 920, 0]] (And.intro h38 (And.intro h56 (And.intro h62 (And.intro (And.intro (con_sw 920 920 (con_sw 900 900 (ih a0 a1 s37 (w64 (Int.fdiv (IntKind.u64.wrap (w64 (a1 + a3))) (2 ^ 1))) v63 h64))) (rfl : ([900, 920] : List Nat) = [900, 920])) True.intro)))) (by kernel_rfl) (J4 v63 hM)
              · exact pc R 12 [.as 141 false, .as 154 true, .as 158 false] [.keep [0, 3, 4, 16, 22] [900, 920, 0]] (And.intro h38 (And.intro h56 (And.intro h62 True.intro))) (by kernel_rfl) (J4 a0 hM)
            · rcases cond_cases hM with ⟨h65, hM⟩ | ⟨h65, hM⟩
              · rcases cond_cases hM with ⟨h66, hM⟩ | ⟨h66, hM⟩
                · obtain ⟨v67, h68, hM⟩ := bind_some hM
                  have hE : some v67 = some r := hM
                  have hE := Option.some.inj hE
                  subst hE
                  exact pr R 9999 [.as 141 false, .as 154 false, .as 167 true, .as 171 true, .ad (.keep [0, 1, 2, 3, 4, 16, 17, 18, 22, 135, 136, 137, 138, 139, 140, 141, 142, 143, 144, 145, 151, 152, 153, 154, 155, 156, 157, 158, 164, 165, 166, 167, 168, 169, 170, 171, 172, 173, 174, 175] [900, 920, 0]), .call true [900, 920] (.tup []) [(900, .box 31 [.sl 920]), (920, .row 57 4 (v67.map Booking.enc))] []] [] [900, 920] [] (And.intro h38 (And.intro h56 (And.intro h65 (And.intro h66 (And.intro (And.intro (con_sw 920 920 (con_sw 900 900 (ih a0 (w64 (Int.fdiv (IntKind.u64.wrap (w64 (a1 + a3))) (2 ^ 1))) (w64 ((w64 ((w64 (Int.fdiv (IntKind.u64.wrap (w64 (a1 + a3))) (2 ^ 1))) + a2)) - s37)) a3 v67 h68))) (rfl : ([900, 920] : List Nat) = [900, 920])) True.intro))))) (by kernel_rfl)
                · have hE : some a0 = some r := hM
                  have hE := Option.some.inj hE
                  subst hE
                  exact pr R 9999 [.as 141 false, .as 154 false, .as 167 true, .as 171 false] [] [900, 920] [] (And.intro h38 (And.intro h56 (And.intro h65 (And.intro h66 True.intro)))) (by kernel_rfl)
              · have hE : some a0 = some r := hM
                have hE := Option.some.inj hE
                subst hE
                exact pr R 9999 [.as 141 false, .as 154 false, .as 167 false] [] [900, 920] [] (And.intro h38 (And.intro h56 (And.intro h65 True.intro))) (by kernel_rfl)
        refine pc R 9999 [] [.keep [0, 1, 2, 3, 4, 16, 17, 18, 19, 20] [900, 920, 0]] (k' := [.code (.loop (cAt Try.f101 [1, 1, 1, 1, 1, 1, 1, 1, 0, 0, 0])), .blk 8, .code (cAt Try.f101 [1, 1, 1, 1, 1, 1, 1, 1, 1])]) (S' := sort_symMerge_func_at0ls41_L5_S a0 a1 a2 a3 (s33, s34)) True.intro (by kernel_rfl) ?_
        refine lq (sort_symMerge_func_at0ls41_L5_S a0 a1 a2 a3) (body := sort_symMerge_func_at0ls41_L5 a0 a1 a2 a3) (k := sort_symMerge_func_at0ls41_L5_k self a0 a1 a2 a3) hM fun m5 s c5 hM hK5 => ?_
        obtain ⟨s35, s36⟩ := s
        have hM : sort_symMerge_func_at0ls41_L5_b a0 a1 a2 a3 s35 s36 = some c5 := hM
        unfold sort_symMerge_func_at0ls41_L5_b at hM
        rcases cond_cases hM with ⟨h69, hM⟩ | ⟨h69, hM⟩
        · obtain ⟨v70, h71, hM⟩ := bind_some hM
          rcases cond_cases hM with ⟨h72, hM⟩ | ⟨h72, hM⟩
          · have hE : some (Ctl.next (w64 ((w64 (Int.fdiv (IntKind.u64.wrap (w64 (s35 + s36))) (2 ^ 1))) + 1), s36)) = some c5 := hM
            have hE := Option.some.inj hE
            subst hE
            exact pc R 9999 [.as 117 true, .ad (.keep [0, 1, 2, 3, 4, 16, 17, 18, 19, 20, 21, 115, 116, 117, 118, 119, 120, 121, 122, 123, 124, 125, 126, 127, 128, 129] [900, 920, 0]), .call true [900, 920] (.o (.c (.v (.bool v70)))) [(900, .box 31 [.sl 920]), (920, .row 57 4 (a0.map Booking.enc))] [], .as 131 true] [.keep [0, 1, 2, 3, 4, 16, 17, 18, 19, 20] [900, 920, 0]] (And.intro h69 (And.intro (And.intro (con_sw 922 920 (con_sw 902 900 (impl_BookWay_c1_ok (w64 ((w64 ((w64 ((w64 (Int.fdiv (IntKind.u64.wrap (w64 (a1 + a3))) (2 ^ 1))) + a2)) - 1)) - (w64 (Int.fdiv (IntKind.u64.wrap (w64 (s35 + s36))) (2 ^ 1))))) (w64 (Int.fdiv (IntKind.u64.wrap (w64 (s35 + s36))) (2 ^ 1))) a0 v70 h71))) (rfl : ([900, 920] : List Nat) = [900, 920])) (And.intro h72 True.intro))) (by kernel_rfl) (li (Sf := sort_symMerge_func_at0ls41_L5_S a0 a1 a2 a3) (M := Mk (sort_symMerge_func_at0ls41_L5 a0 a1 a2 a3) (sort_symMerge_func_at0ls41_L5_k self a0 a1 a2 a3) r) (k := [.blk 8, .code (cAt Try.f101 [1, 1, 1, 1, 1, 1, 1, 1, 1])]) (Nat.lt_succ_self m5) hK5)
          · have hE : some (Ctl.next (s35, w64 (Int.fdiv (IntKind.u64.wrap (w64 (s35 + s36))) (2 ^ 1)))) = some c5 := hM
            have hE := Option.some.inj hE
            subst hE
            exact pc R 9999 [.as 117 true, .ad (.keep [0, 1, 2, 3, 4, 16, 17, 18, 19, 20, 21, 115, 116, 117, 118, 119, 120, 121, 122, 123, 124, 125, 126, 127, 128, 129] [900, 920, 0]), .call true [900, 920] (.o (.c (.v (.bool v70)))) [(900, .box 31 [.sl 920]), (920, .row 57 4 (a0.map Booking.enc))] [], .as 131 false] [.keep [0, 1, 2, 3, 4, 16, 17, 18, 19, 20] [900, 920, 0]] (And.intro h69 (And.intro (And.intro (con_sw 922 920 (con_sw 902 900 (impl_BookWay_c1_ok (w64 ((w64 ((w64 ((w64 (Int.fdiv (IntKind.u64.wrap (w64 (a1 + a3))) (2 ^ 1))) + a2)) - 1)) - (w64 (Int.fdiv (IntKind.u64.wrap (w64 (s35 + s36))) (2 ^ 1))))) (w64 (Int.fdiv (IntKind.u64.wrap (w64 (s35 + s36))) (2 ^ 1))) a0 v70 h71))) (rfl : ([900, 920] : List Nat) = [900, 920])) (And.intro h72 True.intro))) (by kernel_rfl) (li (Sf := sort_symMerge_func_at0ls41_L5_S a0 a1 a2 a3) (M := Mk (sort_symMerge_func_at0ls41_L5 a0 a1 a2 a3) (sort_symMerge_func_at0ls41_L5_k self a0 a1 a2 a3) r) (k := [.blk 8, .code (cAt Try.f101 [1, 1, 1, 1, 1, 1, 1, 1, 1])]) (Nat.lt_succ_self m5) hK5)
        · have hE : some (Ctl.brk s35) = some c5 := hM
          have hE := Option.some.inj hE
          subst hE
          exact pc R 5 [.as 117 false] [.keep [0, 1, 2, 3, 4, 16, 17, 18] [900, 920, 0]] (And.intro h69 True.intro) (by kernel_rfl) (K5 s35 hK5)
      rcases cond_cases hM with ⟨h73, hM⟩ | ⟨h73, hM⟩
      · exact pc R 25 [.new 0, .as 26 false, .as 62 false, .as 106 true] [.keep [0, 1, 2, 3, 4, 16, 17, 18, 19] [900, 920, 0]] (And.intro h1 (And.intro h17 (And.intro h73 True.intro))) (by kernel_rfl) (J4 (w64 ((w64 ((w64 (Int.fdiv (IntKind.u64.wrap (w64 (a1 + a3))) (2 ^ 1))) + a2)) - a3)) (w64 (Int.fdiv (IntKind.u64.wrap (w64 (a1 + a3))) (2 ^ 1))) hM)
      · exact pc R 25 [.new 0, .as 26 false, .as 62 false, .as 106 false] [.keep [0, 1, 2, 3, 4, 16, 17, 18, 19] [900, 920, 0]] (And.intro h1 (And.intro h17 (And.intro h73 True.intro))) (by kernel_rfl) (J4 a1 a2 hM)
theorem sort_symMerge_func_at0ls41_nok : ∀ (n : Nat) (a0 : ((List Booking))) (a1 : Int) (a2 : Int) (a3 : Int) (r : (List Booking)), sort_symMerge_func_at0ls41_n n a0 a1 a2 a3 = some r →
    Con Try.prog 101 [.agg [.fn 41 [900], .of (fun s => .func (.func 99) #[] #[s, .pointer (some ⟨0, 57, none⟩)]) 920], .c (.v (.int .i64 a1)), .c (.v (.int .i64 a2)), .c (.v (.int .i64 a3))] [(900, .box 31 [.sl 920]), (920, .row 57 4 (a0.map Booking.enc))] (.tup []) [(900, .box 31 [.sl 920]), (920, .row 57 4 (r.map Booking.enc))] []
  | 0, _, _, _, _, _, h => by cases h
  | n + 1, a0, a1, a2, a3, r, h => sort_symMerge_func_at0ls41_step (sort_symMerge_func_at0ls41_n n) (sort_symMerge_func_at0ls41_nok n) a0 a1 a2 a3 r h
theorem sort_symMerge_func_at0ls41_ok (a0 : ((List Booking))) (a1 : Int) (a2 : Int) (a3 : Int) (r : (List Booking)) (h : sort_symMerge_func_at0ls41 a0 a1 a2 a3 = some r) :
    Con Try.prog 101 [.agg [.fn 41 [900], .of (fun s => .func (.func 99) #[] #[s, .pointer (some ⟨0, 57, none⟩)]) 920], .c (.v (.int .i64 a1)), .c (.v (.int .i64 a2)), .c (.v (.int .i64 a3))] [(900, .box 31 [.sl 920]), (920, .row 57 4 (a0.map Booking.enc))] (.tup []) [(900, .box 31 [.sl 920]), (920, .row 57 4 (r.map Booking.enc))] [] := sort_symMerge_func_at0ls41_nok big a0 a1 a2 a3 r h

-- sort.stable_func
def sort_stable_func_at0ls41_L3_b (a1 : Int) (s9 : Int) (s12 : (List Booking)) (s13 : Int) (s14 : Int) : Option (Ctl ((List Booking) × Int × Int) ((List Booking) × Int) (List Booking)) :=
  bif (decide (s14 ≤ a1)) then
  (sort_symMerge_func_at0ls41 s12 s13 (w64 (s13 + s9)) s14).bind fun v21 =>
  some (.next (v21, s14, w64 (s14 + (w64 (2 * s9)))))
  else
  some (.brk (s12, s13))
def sort_stable_func_at0ls41_L3 (a1 : Int) (s9 : Int) (s : (List Booking) × Int × Int) : Option (Ctl ((List Booking) × Int × Int) ((List Booking) × Int) (List Booking)) := sort_stable_func_at0ls41_L3_b a1 s9 s.1 s.2.1 s.2.2
def sort_stable_func_at0ls41_L3_s (a1 : Int) (s9 : Int) (s12 : (List Booking)) (s13 : Int) (s14 : Int) : St := ⟨[(0, .o (.agg [.fn 41 [900], .of (fun s => .func (.func 99) #[] #[s, .pointer (some ⟨0, 57, none⟩)]) 920])), (1, .o (.c (.v (.int .i64 a1)))), (2, .o (.c (.ptr 0 0))), (4, .o (.c (.v (.int .i64 s9)))), (5, .o (.c (.v (.int .i64 s13)))), (6, .o (.c (.v (.int .i64 s14))))], [(900, .box 31 [.sl 920]), (920, .row 57 4 (s12.map Booking.enc)), (0, .box 112 [.fn 41 [900], .of (fun s => .func (.func 99) #[] #[s, .pointer (some ⟨0, 57, none⟩)]) 920])]⟩
def sort_stable_func_at0ls41_L3_S (a1 : Int) (s9 : Int) (s : (List Booking) × Int × Int) : St := sort_stable_func_at0ls41_L3_s a1 s9 s.1 s.2.1 s.2.2
def sort_stable_func_at0ls41_L3_a (a1 : Int) (s9 : Int) (s15 : (List Booking)) (s16 : Int) : Option (Ctl ((List Booking) × Int) (List Booking) (List Booking)) :=
  bif (decide ((w64 (s16 + s9)) < a1)) then
  (sort_symMerge_func_at0ls41 s15 s16 (w64 (s16 + s9)) a1).bind fun v18 =>
  some (.next (v18, w64 (s9 * 2)))
  else
  some (.next (s15, w64 (s9 * 2)))
def sort_stable_func_at0ls41_L3_k (a1 : Int) (s9 : Int) (x : ((List Booking) × Int) ⊕ ((List Booking))) : Option (Ctl ((List Booking) × Int) (List Booking) (List Booking)) := match x with
  | .inl t => sort_stable_func_at0ls41_L3_a a1 s9 t.1 t.2
  | .inr y => some (.ret y)
def sort_stable_func_at0ls41_L2_b (a1 : Int) (s8 : (List Booking)) (s9 : Int) : Option (Ctl ((List Booking) × Int) (List Booking) (List Booking)) :=
  bif (decide (s9 < a1)) then
  (loopM (sort_stable_func_at0ls41_L3 a1 s9) big (s8, 0, w64 (2 * s9))).bind (sort_stable_func_at0ls41_L3_k a1 s9)
  else
  some (.brk s8)
def sort_stable_func_at0ls41_L2 (a1 : Int) (s : (List Booking) × Int) : Option (Ctl ((List Booking) × Int) (List Booking) (List Booking)) := sort_stable_func_at0ls41_L2_b a1 s.1 s.2
def sort_stable_func_at0ls41_L2_s (a1 : Int) (s8 : (List Booking)) (s9 : Int) : St := ⟨[(0, .o (.agg [.fn 41 [900], .of (fun s => .func (.func 99) #[] #[s, .pointer (some ⟨0, 57, none⟩)]) 920])), (1, .o (.c (.v (.int .i64 a1)))), (2, .o (.c (.ptr 0 0))), (4, .o (.c (.v (.int .i64 s9))))], [(900, .box 31 [.sl 920]), (920, .row 57 4 (s8.map Booking.enc)), (0, .box 112 [.fn 41 [900], .of (fun s => .func (.func 99) #[] #[s, .pointer (some ⟨0, 57, none⟩)]) 920])]⟩
def sort_stable_func_at0ls41_L2_S (a1 : Int) (s : (List Booking) × Int) : St := sort_stable_func_at0ls41_L2_s a1 s.1 s.2
def sort_stable_func_at0ls41_L2_a (s10 : (List Booking)) : Option (List Booking) :=
  some s10
def sort_stable_func_at0ls41_L2_k (x : ((List Booking)) ⊕ ((List Booking))) : Option (List Booking) := match x with
  | .inl t => sort_stable_func_at0ls41_L2_a t
  | .inr y => some y
def sort_stable_func_at0ls41_L1_b (a1 : Int) (s1 : (List Booking)) (s2 : Int) (s3 : Int) : Option (Ctl ((List Booking) × Int × Int) ((List Booking) × Int) (List Booking)) :=
  bif (decide (s3 ≤ a1)) then
  (sort_insertionSort_func_at0ls41 s1 s2 s3).bind fun v24 =>
  some (.next (v24, s3, w64 (s3 + 20)))
  else
  some (.brk (s1, s2))
def sort_stable_func_at0ls41_L1 (a1 : Int) (s : (List Booking) × Int × Int) : Option (Ctl ((List Booking) × Int × Int) ((List Booking) × Int) (List Booking)) := sort_stable_func_at0ls41_L1_b a1 s.1 s.2.1 s.2.2
def sort_stable_func_at0ls41_L1_s (a1 : Int) (s1 : (List Booking)) (s2 : Int) (s3 : Int) : St := ⟨[(0, .o (.agg [.fn 41 [900], .of (fun s => .func (.func 99) #[] #[s, .pointer (some ⟨0, 57, none⟩)]) 920])), (1, .o (.c (.v (.int .i64 a1)))), (2, .o (.c (.ptr 0 0))), (4, .o (.c (.v (.int .i64 20)))), (5, .o (.c (.v (.int .i64 s2)))), (6, .o (.c (.v (.int .i64 s3))))], [(900, .box 31 [.sl 920]), (920, .row 57 4 (s1.map Booking.enc)), (0, .box 112 [.fn 41 [900], .of (fun s => .func (.func 99) #[] #[s, .pointer (some ⟨0, 57, none⟩)]) 920])]⟩
def sort_stable_func_at0ls41_L1_S (a1 : Int) (s : (List Booking) × Int × Int) : St := sort_stable_func_at0ls41_L1_s a1 s.1 s.2.1 s.2.2
def sort_stable_func_at0ls41_L1_a (a1 : Int) (s4 : (List Booking)) (s5 : Int) : Option (List Booking) :=
  (sort_insertionSort_func_at0ls41 s4 s5 a1).bind fun v6 =>
  (loopM (sort_stable_func_at0ls41_L2 a1) big (v6, 20)).bind (sort_stable_func_at0ls41_L2_k)
def sort_stable_func_at0ls41_L1_k (a1 : Int) (x : ((List Booking) × Int) ⊕ ((List Booking))) : Option (List Booking) := match x with
  | .inl t => sort_stable_func_at0ls41_L1_a a1 t.1 t.2
  | .inr y => some y
def sort_stable_func_at0ls41 (a0 : ((List Booking))) (a1 : Int) : Option (List Booking) :=
  (loopM (sort_stable_func_at0ls41_L1 a1) big (a0, 0, 20)).bind (sort_stable_func_at0ls41_L1_k a1)
theorem sort_stable_func_at0ls41_ok (a0 : ((List Booking))) (a1 : Int) (r : (List Booking)) (hM : sort_stable_func_at0ls41 a0 a1 = some r) :
    Con Try.prog 74 [.agg [.fn 41 [900], .of (fun s => .func (.func 99) #[] #[s, .pointer (some ⟨0, 57, none⟩)]) 920], .c (.v (.int .i64 a1))] [(900, .box 31 [.sl 920]), (920, .row 57 4 (a0.map Booking.enc))] (.tup []) [(900, .box 31 [.sl 920]), (920, .row 57 4 (r.map Booking.enc))] [] := by
  unfold sort_stable_func_at0ls41 at hM
  refine cn (N := 57) (pids := [900, 920]) Try_mixed Try.func74 (by kernel_rfl) (by kernel_rfl) (by kernel_rfl) rfl fun ρ g w R => ?_
  have K1 : ∀ (s4 : (List Booking)) (s5 : Int), sort_stable_func_at0ls41_L1_a a1 s4 s5 = some r → Gr R [.code (cAt Try.f74 [1, 1, 1, 1])] (⟨[(0, .o (.agg [.fn 41 [900], .of (fun s => .func (.func 99) #[] #[s, .pointer (some ⟨0, 57, none⟩)]) 920])), (1, .o (.c (.v (.int .i64 a1)))), (2, .o (.c (.ptr 0 0))), (4, .o (.c (.v (.int .i64 20)))), (5, .o (.c (.v (.int .i64 s5))))], [(900, .box 31 [.sl 920]), (920, .row 57 4 (s4.map Booking.enc)), (0, .box 112 [.fn 41 [900], .of (fun s => .func (.func 99) #[] #[s, .pointer (some ⟨0, 57, none⟩)]) 920])]⟩) := by
    intro s4 s5 hM
    unfold sort_stable_func_at0ls41_L1_a at hM
    obtain ⟨v6, h7, hM⟩ := bind_some hM
    have K2 : ∀ (s10 : (List Booking)), sort_stable_func_at0ls41_L2_a s10 = some r → Gr R [] (⟨[(0, .o (.agg [.fn 41 [900], .of (fun s => .func (.func 99) #[] #[s, .pointer (some ⟨0, 57, none⟩)]) 920]))], [(900, .box 31 [.sl 920]), (920, .row 57 4 (s10.map Booking.enc))]⟩) := by
      intro s10 hM
      unfold sort_stable_func_at0ls41_L2_a at hM
      have hE : some s10 = some r := hM
      have hE := Option.some.inj hE
      subst hE
      exact pr R 9999 [] [] [900, 920] [] True.intro (by kernel_rfl)
    refine pc R 9999 [.ad (.keep [0, 1, 2, 4, 5, 20, 21, 22] [900, 920, 0]), .call true [900, 920] (.tup []) [(900, .box 31 [.sl 920]), (920, .row 57 4 (v6.map Booking.enc))] []] [.keep [0, 1, 2, 4] [900, 920, 0]] (k' := [.code (.loop (cAt Try.f74 [1, 1, 1, 1, 1, 0, 0])), .blk 2]) (S' := sort_stable_func_at0ls41_L2_S a1 (v6, 20)) (And.intro (And.intro (con_sw 920 920 (con_sw 900 900 (sort_insertionSort_func_at0ls41_ok s4 s5 a1 v6 h7))) (rfl : ([900, 920] : List Nat) = [900, 920])) True.intro) (by kernel_rfl) ?_
    refine lq (sort_stable_func_at0ls41_L2_S a1) (body := sort_stable_func_at0ls41_L2 a1) (k := sort_stable_func_at0ls41_L2_k) hM fun m2 s c2 hM hK2 => ?_
    obtain ⟨s8, s9⟩ := s
    have hM : sort_stable_func_at0ls41_L2_b a1 s8 s9 = some c2 := hM
    unfold sort_stable_func_at0ls41_L2_b at hM
    rcases cond_cases hM with ⟨h11, hM⟩ | ⟨h11, hM⟩
    · have K3 : ∀ (s15 : (List Booking)) (s16 : Int), sort_stable_func_at0ls41_L3_a a1 s9 s15 s16 = some c2 → Gr R [.code (cAt Try.f74 [1, 1, 1, 1, 1, 0, 0, 1, 0, 1, 1]), .blk 3, .inv (Jr R (sort_stable_func_at0ls41_L2_S a1) (Mk (sort_stable_func_at0ls41_L2 a1) (sort_stable_func_at0ls41_L2_k) r) (m2 + 1)), .blk 2] (⟨[(0, .o (.agg [.fn 41 [900], .of (fun s => .func (.func 99) #[] #[s, .pointer (some ⟨0, 57, none⟩)]) 920])), (1, .o (.c (.v (.int .i64 a1)))), (2, .o (.c (.ptr 0 0))), (4, .o (.c (.v (.int .i64 s9)))), (5, .o (.c (.v (.int .i64 s16))))], [(900, .box 31 [.sl 920]), (920, .row 57 4 (s15.map Booking.enc)), (0, .box 112 [.fn 41 [900], .of (fun s => .func (.func 99) #[] #[s, .pointer (some ⟨0, 57, none⟩)]) 920])]⟩) := by
        intro s15 s16 hM
        unfold sort_stable_func_at0ls41_L3_a at hM
        rcases cond_cases hM with ⟨h17, hM⟩ | ⟨h17, hM⟩
        · obtain ⟨v18, h19, hM⟩ := bind_some hM
          have hE : some (Ctl.next (v18, w64 (s9 * 2))) = some c2 := hM
          have hE := Option.some.inj hE
          subst hE
          exact pc R 9999 [.as 49 true, .ad (.keep [0, 1, 2, 4, 5, 7, 44, 45, 46, 47, 48, 49, 50, 51, 52, 53] [900, 920, 0]), .call true [900, 920] (.tup []) [(900, .box 31 [.sl 920]), (920, .row 57 4 (v18.map Booking.enc))] []] [.keep [0, 1, 2, 4] [900, 920, 0]] (And.intro h17 (And.intro (And.intro (con_sw 920 920 (con_sw 900 900 (sort_symMerge_func_at0ls41_ok s15 s16 (w64 (s16 + s9)) a1 v18 h19))) (rfl : ([900, 920] : List Nat) = [900, 920])) True.intro)) (by kernel_rfl) (li (Sf := sort_stable_func_at0ls41_L2_S a1) (M := Mk (sort_stable_func_at0ls41_L2 a1) (sort_stable_func_at0ls41_L2_k) r) (k := [.blk 2]) (Nat.lt_succ_self m2) hK2)
        · have hE : some (Ctl.next (s15, w64 (s9 * 2))) = some c2 := hM
          have hE := Option.some.inj hE
          subst hE
          exact pc R 9999 [.as 49 false] [.keep [0, 1, 2, 4] [900, 920, 0]] (And.intro h17 True.intro) (by kernel_rfl) (li (Sf := sort_stable_func_at0ls41_L2_S a1) (M := Mk (sort_stable_func_at0ls41_L2 a1) (sort_stable_func_at0ls41_L2_k) r) (k := [.blk 2]) (Nat.lt_succ_self m2) hK2)
      refine pc R 9999 [.as 26 true] [.keep [0, 1, 2, 4, 5, 6] [900, 920, 0]] (k' := [.code (.loop (cAt Try.f74 [1, 1, 1, 1, 1, 0, 0, 1, 0, 1, 0, 0, 0])), .blk 4, .code (cAt Try.f74 [1, 1, 1, 1, 1, 0, 0, 1, 0, 1, 1]), .blk 3, .inv (Jr R (sort_stable_func_at0ls41_L2_S a1) (Mk (sort_stable_func_at0ls41_L2 a1) (sort_stable_func_at0ls41_L2_k) r) (m2 + 1)), .blk 2]) (S' := sort_stable_func_at0ls41_L3_S a1 s9 (s8, 0, w64 (2 * s9))) (And.intro h11 True.intro) (by kernel_rfl) ?_
      refine lq (sort_stable_func_at0ls41_L3_S a1 s9) (body := sort_stable_func_at0ls41_L3 a1 s9) (k := sort_stable_func_at0ls41_L3_k a1 s9) hM fun m3 s c3 hM hK3 => ?_
      obtain ⟨s12, s13, s14⟩ := s
      have hM : sort_stable_func_at0ls41_L3_b a1 s9 s12 s13 s14 = some c3 := hM
      unfold sort_stable_func_at0ls41_L3_b at hM
      rcases cond_cases hM with ⟨h20, hM⟩ | ⟨h20, hM⟩
      · obtain ⟨v21, h22, hM⟩ := bind_some hM
        have hE : some (Ctl.next (v21, s14, w64 (s14 + (w64 (2 * s9))))) = some c3 := hM
        have hE := Option.some.inj hE
        subst hE
        exact pc R 9999 [.as 31 true, .ad (.keep [0, 1, 2, 4, 5, 6, 29, 30, 31, 32, 33, 34, 35, 36, 37] [900, 920, 0]), .call true [900, 920] (.tup []) [(900, .box 31 [.sl 920]), (920, .row 57 4 (v21.map Booking.enc))] []] [.keep [0, 1, 2, 4, 5, 6] [900, 920, 0]] (And.intro h20 (And.intro (And.intro (con_sw 920 920 (con_sw 900 900 (sort_symMerge_func_at0ls41_ok s12 s13 (w64 (s13 + s9)) s14 v21 h22))) (rfl : ([900, 920] : List Nat) = [900, 920])) True.intro)) (by kernel_rfl) (li (Sf := sort_stable_func_at0ls41_L3_S a1 s9) (M := Mk (sort_stable_func_at0ls41_L3 a1 s9) (sort_stable_func_at0ls41_L3_k a1 s9) c2) (k := [.blk 4, .code (cAt Try.f74 [1, 1, 1, 1, 1, 0, 0, 1, 0, 1, 1]), .blk 3, .inv (Jr R (sort_stable_func_at0ls41_L2_S a1) (Mk (sort_stable_func_at0ls41_L2 a1) (sort_stable_func_at0ls41_L2_k) r) (m2 + 1)), .blk 2]) (Nat.lt_succ_self m3) hK3)
      · have hE : some (Ctl.brk (s12, s13)) = some c3 := hM
        have hE := Option.some.inj hE
        subst hE
        exact pc R 5 [.as 31 false] [.keep [0, 1, 2, 4, 5] [900, 920, 0]] (And.intro h20 True.intro) (by kernel_rfl) (K3 s12 s13 hK3)
    · have hE : some (Ctl.brk s8) = some c2 := hM
      have hE := Option.some.inj hE
      subst hE
      exact pc R 5 [.as 26 false] [.keep [0] [900, 920]] (And.intro h11 True.intro) (by kernel_rfl) (K2 s8 hK2)
  refine pc R 9999 [.new 0] [.keep [0, 1, 2, 4, 5, 6] [900, 920, 0]] (k' := [.code (.loop (cAt Try.f74 [1, 1, 1, 0, 0, 0])), .blk 0, .code (cAt Try.f74 [1, 1, 1, 1])]) (S' := sort_stable_func_at0ls41_L1_S a1 (a0, 0, 20)) True.intro (by kernel_rfl) ?_
  refine lq (sort_stable_func_at0ls41_L1_S a1) (body := sort_stable_func_at0ls41_L1 a1) (k := sort_stable_func_at0ls41_L1_k a1) hM fun m1 s c1 hM hK1 => ?_
  obtain ⟨s1, s2, s3⟩ := s
  have hM : sort_stable_func_at0ls41_L1_b a1 s1 s2 s3 = some c1 := hM
  unfold sort_stable_func_at0ls41_L1_b at hM
  rcases cond_cases hM with ⟨h23, hM⟩ | ⟨h23, hM⟩
  · obtain ⟨v24, h25, hM⟩ := bind_some hM
    have hE : some (Ctl.next (v24, s3, w64 (s3 + 20))) = some c1 := hM
    have hE := Option.some.inj hE
    subst hE
    exact pc R 9999 [.as 11 true, .ad (.keep [0, 1, 2, 4, 5, 6, 9, 10, 11, 12, 13, 14] [900, 920, 0]), .call true [900, 920] (.tup []) [(900, .box 31 [.sl 920]), (920, .row 57 4 (v24.map Booking.enc))] []] [.keep [0, 1, 2, 4, 5, 6] [900, 920, 0]] (And.intro h23 (And.intro (And.intro (con_sw 920 920 (con_sw 900 900 (sort_insertionSort_func_at0ls41_ok s1 s2 s3 v24 h25))) (rfl : ([900, 920] : List Nat) = [900, 920])) True.intro)) (by kernel_rfl) (li (Sf := sort_stable_func_at0ls41_L1_S a1) (M := Mk (sort_stable_func_at0ls41_L1 a1) (sort_stable_func_at0ls41_L1_k a1) r) (k := [.blk 0, .code (cAt Try.f74 [1, 1, 1, 1])]) (Nat.lt_succ_self m1) hK1)
  · have hE : some (Ctl.brk (s1, s2)) = some c1 := hM
    have hE := Option.some.inj hE
    subst hE
    exact pc R 5 [.as 11 false] [.keep [0, 1, 2, 4, 5] [900, 920, 0]] (And.intro h23 True.intro) (by kernel_rfl) (K1 s1 s2 hK1)

-- sort.SliceStable
noncomputable def sort_SliceStable_at0sk_1lf41_i : TypeInfo := (Try.prog.info? 31).get (by kernel_rfl)
theorem sort_SliceStable_at0sk_1lf41_K (n : Nat) (h2 : 2 ≤ n) : Lib.swapperK n sw_ie57 25 = 9 := by
  have a : sw_ie57.hasPointers = false := by kernel_rfl
  have b : sw_ie57.bytes = 32 := by kernel_rfl
  have c : (n == 0) = false := by simp; omega
  have d : (n == 1) = false := by simp; omega
  simp [Lib.swapperK, a, b, c, d]
def sort_SliceStable_at0sk_1lf41 (a1 : ((List Booking))) : Option (List Booking) := bif decide (a1.length ≤ 1) then some a1 else bif decide (a1.length < 4611686018427387904) then sort_stable_func_at0ls41 a1 (a1.length : Int) else none
theorem sort_SliceStable_at0sk_1lf41_ok (a1 : ((List Booking))) (r : (List Booking)) (hM : sort_SliceStable_at0sk_1lf41 a1 = some r) :
    Con Try.prog 40 [.c (.of (fun s => .iface 31 s) 920), .c (.fn 41 [900])] [(900, .box 31 [.sl 920]), (920, .row 57 4 (a1.map Booking.enc))] (.tup []) [(900, .box 31 [.sl 920]), (920, .row 57 4 (r.map Booking.enc))] [] := by
  have hl : a1.length < 4611686018427387904 := by
    unfold sort_SliceStable_at0sk_1lf41 at hM
    rcases cond_cases hM with ⟨h1, hM⟩ | ⟨h1, hM⟩
    · have := of_decide_eq_true h1; omega
    · rcases cond_cases hM with ⟨h2, hM⟩ | ⟨h2, hM⟩
      · exact of_decide_eq_true h2
      · cases hM
  refine con_stable Try.slays8 (by rfl) (by rfl) 31 57 sort_SliceStable_at0sk_1lf41_i sw_ie57 (by kernel_rfl) (by kernel_rfl) (by kernel_rfl) (by kernel_rfl) 25 (fun _ => by kernel_rfl) 91 92 99 9 sort_SliceStable_at0sk_1lf41_K (by kernel_rfl) (by kernel_rfl) (by kernel_rfl)
    (fun s => .func (.func 99) #[] #[s, .pointer (some ⟨0, 57, none⟩)]) sw_F57 41 [900] 920 57 4 (a1.map Booking.enc) _ _ (by simp) (by rw [List.length_map]; exact hl) (fun h2 => ?_) (fun h2 => ?_)
  · rw [List.length_map] at h2 ⊢
    unfold sort_SliceStable_at0sk_1lf41 at hM
    have d1 : decide (a1.length ≤ 1) = false := decide_eq_false (by omega)
    rw [d1, decide_eq_true hl] at hM
    exact sort_stable_func_at0ls41_ok a1 (a1.length : Int) r hM
  · rw [List.length_map] at h2
    unfold sort_SliceStable_at0sk_1lf41 at hM
    rw [decide_eq_true h2] at hM
    have hE := Option.some.inj hM
    subst hE
    rfl

end Go.Sx
