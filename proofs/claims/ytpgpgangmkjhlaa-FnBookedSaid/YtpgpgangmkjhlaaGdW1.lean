/- The functions of the program as plain Lean, and that each runs so (printed by wip/gen). -/
import Derived.Test.YtpgpgangmkjhlaaSxR
import Derived.Test.YtpgpgangmkjhlaaSxS
import Derived.Laws.StructEq
import Derived.Test.YtpgpgangmkjhlaaProg
namespace Go.Sx
open Go.Proofs
set_option linter.unusedVariables false
set_option maxRecDepth 100000
end Go.Sx
namespace Go.Proofs
open Go.Shelf
def Try.slays8_ren : Go.Shelf.Ren := ⟨fun | 8 => 40 | 13 => 72 | 14 => 73 | 16 => 75 | 15 => 74 | 29 => 100 | 30 => 101 | 42 => 113 | 49 => 121 | n => n, fun | 20 => 20 | 26 => 74 | 36 => 106 | 0 => 0 | 38 => 108 | 42 => 112 | 3 => 3 | 4 => 4 | 47 => 139 | 17 => 17 | 33 => 103 | 34 => 104 | 89 => 164 | 12 => 12 | 56 => 156 | 82 => 157 | 5 => 5 | 83 => 158 | 84 => 159 | 85 => 160 | 86 => 161 | 87 => 162 | n => n, fun | n => n⟩
theorem Try.slays8 : Go.Proofs.LaysGt.n8 Try.prog Try.slays8_ren := {
  mixed := by kernel_rfl
  f8 := Try.func40.trans (congrArg some (by kernel_rfl))
  f13 := Try.func72.trans (congrArg some (by kernel_rfl))
  f14 := Try.func73.trans (congrArg some (by kernel_rfl))
  f15 := Try.func74.trans (congrArg some (by kernel_rfl))
  f16 := Try.func75.trans (congrArg some (by kernel_rfl))
  f29 := Try.func100.trans (congrArg some (by kernel_rfl))
  f30 := Try.func101.trans (congrArg some (by kernel_rfl))
  f42 := Try.func113.trans (congrArg some (by kernel_rfl))
  f49 := Try.func121.trans (congrArg some (by kernel_rfl))
  t0 := Try.underlying0
  a0 := Try.isAgg0
  z0 := Try.sizeOf0
  v0 := Try.zeroValue0
  i0 := by kernel_rfl
  t3 := Try.underlying3
  a3 := Try.isAgg3
  z3 := Try.sizeOf3
  v3 := Try.zeroValue3
  i3 := by kernel_rfl
  t4 := Try.underlying4
  a4 := Try.isAgg4
  z4 := Try.sizeOf4
  v4 := Try.zeroValue4
  i4 := by kernel_rfl
  t5 := Try.underlying5
  a5 := Try.isAgg5
  z5 := Try.sizeOf5
  v5 := Try.zeroValue5
  i5 := by kernel_rfl
  t12 := Try.underlying12
  a12 := Try.isAgg12
  z12 := Try.sizeOf12
  v12 := Try.zeroValue12
  i12 := by kernel_rfl
  t17 := Try.underlying17
  a17 := Try.isAgg17
  z17 := Try.sizeOf17
  v17 := Try.zeroValue17
  i17 := by kernel_rfl
  t20 := Try.underlying20
  a20 := Try.isAgg20
  z20 := Try.sizeOf20
  v20 := Try.zeroValue20
  i20 := by kernel_rfl
  t26 := Try.underlying74
  a26 := Try.isAgg74
  z26 := Try.sizeOf74
  v26 := Try.zeroValue74
  i26 := by kernel_rfl
  t33 := Try.underlying103
  a33 := Try.isAgg103
  z33 := Try.sizeOf103
  v33 := Try.zeroValue103
  i33 := by kernel_rfl
  t34 := Try.underlying104
  a34 := Try.isAgg104
  z34 := Try.sizeOf104
  v34 := Try.zeroValue104
  i34 := by kernel_rfl
  t36 := Try.underlying106
  a36 := Try.isAgg106
  z36 := Try.sizeOf106
  v36 := Try.zeroValue106
  i36 := by kernel_rfl
  t38 := Try.underlying108
  a38 := Try.isAgg108
  z38 := Try.sizeOf108
  v38 := Try.zeroValue108
  i38 := by kernel_rfl
  t42 := Try.underlying112
  a42 := Try.isAgg112
  z42 := Try.sizeOf112
  v42 := Try.zeroValue112
  i42 := by kernel_rfl
  t47 := Try.underlying139
  a47 := Try.isAgg139
  z47 := Try.sizeOf139
  v47 := Try.zeroValue139
  i47 := by kernel_rfl
  t56 := Try.underlying156
  a56 := Try.isAgg156
  z56 := Try.sizeOf156
  v56 := Try.zeroValue156
  i56 := by kernel_rfl
  t82 := Try.underlying157
  a82 := Try.isAgg157
  z82 := Try.sizeOf157
  v82 := Try.zeroValue157
  i82 := by kernel_rfl
  t83 := Try.underlying158
  a83 := Try.isAgg158
  z83 := Try.sizeOf158
  v83 := Try.zeroValue158
  i83 := by kernel_rfl
  t84 := Try.underlying159
  a84 := Try.isAgg159
  z84 := Try.sizeOf159
  v84 := Try.zeroValue159
  i84 := by kernel_rfl
  t85 := Try.underlying160
  a85 := Try.isAgg160
  z85 := Try.sizeOf160
  v85 := Try.zeroValue160
  i85 := by kernel_rfl
  t86 := Try.underlying161
  a86 := Try.isAgg161
  z86 := Try.sizeOf161
  v86 := Try.zeroValue161
  i86 := by kernel_rfl
  t87 := Try.underlying162
  a87 := Try.isAgg162
  z87 := Try.sizeOf162
  v87 := Try.zeroValue162
  i87 := by kernel_rfl
  t89 := Try.underlying164
  a89 := Try.isAgg164
  z89 := Try.sizeOf164
  v89 := Try.zeroValue164
  i89 := by kernel_rfl }
end Go.Proofs
namespace Go.Sx
open Go.Proofs
set_option linter.unusedVariables false
theorem Try_mixed : Try.prog.follows .mixedOrders = true := by kernel_rfl
structure Leg where
  From : ByteArray
  To : ByteArray
  Start : Int
  Takes : Int
  Days : Int
  Room : Int
  deriving DecidableEq, Inhabited
def Leg.enc (x : Leg) : List Value := [.string x.From, .string x.To, .int .i64 x.Start, .int .i64 x.Takes, .int .i64 x.Days, .int .i64 x.Room]
structure Network where
  Legs : (List Leg)
  Off : (List Int)
  Change : Int
  deriving DecidableEq, Inhabited
structure Trip where
  Leg : Int
  Day : Int
  deriving DecidableEq, Inhabited
def Trip.enc (x : Trip) : List Value := [.int .i64 x.Leg, .int .i64 x.Day]
structure Booking where
  Thing : Int
  Trip : Trip
  Weight : Int
  deriving DecidableEq, Inhabited
def Booking.enc (x : Booking) : List Value := [.int .i64 x.Thing, .int .i64 x.Trip.Leg, .int .i64 x.Trip.Day, .int .i64 x.Weight]
structure l1Cur where
  b : (List Int)
  i : Int
  h : Int
  deriving DecidableEq, Inhabited
theorem Booking_neq57 (a b : Booking) : ∀ w, (do let r ← (do eqGuard .neq 57 (.tmp 0) (.tmp 0) (.agg (Booking.enc a).toArray) (.agg (Booking.enc b).toArray); binOp .neq 57 (.agg (Booking.enc a).toArray) (.agg (Booking.enc b).toArray)); pure (Next.value r) : Sem Next).run Try.prog w = .ok (.value (.bool (!decide (a = b)))) w := by
  intro w
  simp only [Sem.run_bind]
  rw [run_eqGuard_agg w _ _ _ _ _ _ (by kernel_rfl)]
  simp only [Result.andThen_ok]
  rw [run_neq_struct, run_equalIn_struct w _ _ _ _ (by kernel_rfl) (by kernel_rfl)]
  have i3 : ∀ (x y : Int) (w : World), (Op.equalIn 9999 3 (.int .i64 x) (.int .i64 y)).run Try.prog w = .ok (x == y) w := fun x y w => run_equalIn_int w 9998 3 .i64 .i64 x y Try.underlying3
  have i55 : ∀ (x0 x1 y0 y1 : Int) (w : World), (Op.equalIn 9999 55 (.agg #[.int .i64 x0, .int .i64 x1]) (.agg #[.int .i64 y0, .int .i64 y1])).run Try.prog w = .ok (x0 == y0 && x1 == y1) w := fun x0 x1 y0 y1 w => by
    rw [run_equalIn_struct w _ _ _ _ (by kernel_rfl) (by kernel_rfl)]
    have j3 : ∀ (x y : Int) (w : World), (Op.equalIn 9998 3 (.int .i64 x) (.int .i64 y)).run Try.prog w = .ok (x == y) w := fun x y w => run_equalIn_int w 9997 3 .i64 .i64 x y Try.underlying3
    simp [Program.fieldsOf, Try.underlying55, Op.eqFields, part, Sem.run_bind, isAgg, Result.andThen, j3]
    by_cases h0 : x0 = y0 <;> simp [h0]
    by_cases h1 : x1 = y1 <;> simp [h1]
  simp [Program.fieldsOf, Try.underlying57, Op.eqFields, part, Sem.run_bind, Booking.enc, Trip.enc, isAgg, Result.andThen, i3, i55]
  obtain ⟨x0, ⟨x1, x2⟩, x3⟩ := a
  obtain ⟨y0, ⟨y1, y2⟩, y3⟩ := b
  simp only [Booking.mk.injEq, Trip.mk.injEq]
  by_cases h0 : x0 = y0 <;> simp [h0]
  by_cases h1 : x1 = y1 <;> simp [h1]
  by_cases h2 : x2 = y2 <;> simp [h2]
  by_cases h3 : x3 = y3 <;> simp [h3]

theorem Trip_eql55 (a b : Trip) : ∀ w, (do let r ← (do eqGuard .eql 55 (.tmp 0) (.tmp 0) (.agg (Trip.enc a).toArray) (.agg (Trip.enc b).toArray); binOp .eql 55 (.agg (Trip.enc a).toArray) (.agg (Trip.enc b).toArray)); pure (Next.value r) : Sem Next).run Try.prog w = .ok (.value (.bool (decide (a = b)))) w := by
  intro w
  simp only [Sem.run_bind]
  rw [run_eqGuard_agg w _ _ _ _ _ _ (by kernel_rfl)]
  simp only [Result.andThen_ok]
  rw [run_eql_struct, run_equalIn_struct w _ _ _ _ (by kernel_rfl) (by kernel_rfl)]
  have i3 : ∀ (x y : Int) (w : World), (Op.equalIn 9999 3 (.int .i64 x) (.int .i64 y)).run Try.prog w = .ok (x == y) w := fun x y w => run_equalIn_int w 9998 3 .i64 .i64 x y Try.underlying3
  simp [Program.fieldsOf, Try.underlying55, Op.eqFields, part, Sem.run_bind, Trip.enc, isAgg, Result.andThen, i3]
  obtain ⟨x0, x1⟩ := a
  obtain ⟨y0, y1⟩ := b
  simp only [Trip.mk.injEq]
  by_cases h0 : x0 = y0 <;> simp [h0]
  by_cases h1 : x1 = y1 <;> simp [h1]


-- loop.example/g03014/laws.big
def laws_big (a0 : (List Int)) : Option Bool :=
  some (decide ((a0.length : Int) > 4096))
theorem laws_big_ok (a0 : (List Int)) (r : Bool) (hM : laws_big a0 = some r) :
    Con Try.prog 21 [.c (.rs 1 (a0.map encU8))] [] (.o (.c (.v (.bool r)))) [] [] := by
  unfold laws_big at hM
  refine cn (N := 6) (pids := []) Try_mixed Try.func21 (by kernel_rfl) (by kernel_rfl) (by kernel_rfl) rfl fun ρ g w R => ?_
  have hE : some (decide ((a0.length : Int) > 4096)) = some r := hM
  have hE := Option.some.inj hE
  subst hE
  exact pr R 9999 [.ln (a0.length)] [] [] [] (And.intro (lenm encU8 a0) True.intro) (by kernel_rfl)

-- loop.example/g03014/spec.l1New
def spec_l1New_L1_b (a0 : (List Int)) (s1 : Int) (s2 : Int) : Option (Ctl (Int × Int) Int l1Cur) :=
  bif (decide (s2 < (a0.length : Int))) then
  bif (decide (s2 < 4000)) then
  (gi a0 s2).bind fun v6 =>
  some (.next (w64 ((BitVec.ofInt 64 (w64 ((w64 ((w64 (s1 * 167)) + (w64 v6))) + 29)) &&& BitVec.ofInt 64 1073741823).toNat), w64 (s2 + 1)))
  else
  some (.brk s1)
  else
  some (.brk s1)
def spec_l1New_L1 (a0 : (List Int)) (s : Int × Int) : Option (Ctl (Int × Int) Int l1Cur) := spec_l1New_L1_b a0 s.1 s.2
def spec_l1New_L1_s (a0 : (List Int)) (s1 : Int) (s2 : Int) : St := ⟨[(0, .o (.c (.rs 1 (a0.map encU8)))), (3, .o (.c (.v (.int .i64 s1)))), (4, .o (.c (.v (.int .i64 s2))))], []⟩
def spec_l1New_L1_S (a0 : (List Int)) (s : Int × Int) : St := spec_l1New_L1_s a0 s.1 s.2
def spec_l1New_L1_a (a0 : (List Int)) (s3 : Int) : Option l1Cur :=
  some (l1Cur.mk a0 0 s3)
def spec_l1New_L1_k (a0 : (List Int)) (x : (Int) ⊕ (l1Cur)) : Option l1Cur := match x with
  | .inl t => spec_l1New_L1_a a0 t
  | .inr y => some y
def spec_l1New (a0 : (List Int)) : Option l1Cur :=
  (loopM (spec_l1New_L1 a0) big (w64 (744201 + (w64 (3 * (a0.length : Int)))), 0)).bind (spec_l1New_L1_k a0)
theorem spec_l1New_ok (a0 : (List Int)) (r : l1Cur) (hM : spec_l1New a0 = some r) :
    Con Try.prog 49 [.c (.rs 1 (a0.map encU8))] [] (.o (.c (.ptr 1000 0))) [] [(1000, .box 119 [.rs 1 (r.b.map encU8), .v (.int .i64 r.i), .v (.int .i64 r.h)])] := by
  unfold spec_l1New at hM
  refine cn (N := 33) (pids := []) Try_mixed Try.func49 (by kernel_rfl) (by kernel_rfl) (by kernel_rfl) rfl fun ρ g w R => ?_
  have K1 : ∀ (s3 : Int), spec_l1New_L1_a a0 s3 = some r → Gr R [.code (cAt Try.f49 [1, 1, 1])] (⟨[(0, .o (.c (.rs 1 (a0.map encU8)))), (3, .o (.c (.v (.int .i64 s3))))], []⟩) := by
    intro s3 hM
    unfold spec_l1New_L1_a at hM
    have hE : some (l1Cur.mk a0 0 s3) = some r := hM
    have hE := Option.some.inj hE
    subst hE
    exact pr R 9999 [.new 0] [.sw 0 1000] [] [1000] True.intro (by kernel_rfl)
  refine pc R 9999 [.ln (a0.length)] [.keep [0, 3, 4] []] (k' := [.code (.loop (cAt Try.f49 [1, 1, 0, 1, 0, 0])), .blk 0, .code (cAt Try.f49 [1, 1, 1])]) (S' := spec_l1New_L1_S a0 (w64 (744201 + (w64 (3 * (a0.length : Int)))), 0)) (And.intro (lenm encU8 a0) True.intro) (by kernel_rfl) ?_
  refine lq (spec_l1New_L1_S a0) (body := spec_l1New_L1 a0) (k := spec_l1New_L1_k a0) hM fun m1 s c1 hM hK1 => ?_
  obtain ⟨s1, s2⟩ := s
  have hM : spec_l1New_L1_b a0 s1 s2 = some c1 := hM
  unfold spec_l1New_L1_b at hM
  rcases cond_cases hM with ⟨h4, hM⟩ | ⟨h4, hM⟩
  · rcases cond_cases hM with ⟨h5, hM⟩ | ⟨h5, hM⟩
    · obtain ⟨v6, h7, hM⟩ := bind_some hM
      have hE : some (Ctl.next (w64 ((BitVec.ofInt 64 (w64 ((w64 ((w64 (s1 * 167)) + (w64 v6))) + 29)) &&& BitVec.ofInt 64 1073741823).toNat), w64 (s2 + 1))) = some c1 := hM
      have hE := Option.some.inj hE
      subst hE
      exact pc R 9999 [.ln (a0.length), .as 13 true, .as 16 true, .ix (encU8 v6)] [.keep [0, 3, 4] []] (And.intro (lenm encU8 a0) (And.intro h4 (And.intro h5 (And.intro (gi_map encU8 h7) True.intro)))) (by kernel_rfl) (li (Sf := spec_l1New_L1_S a0) (M := Mk (spec_l1New_L1 a0) (spec_l1New_L1_k a0) r) (k := [.blk 0, .code (cAt Try.f49 [1, 1, 1])]) (Nat.lt_succ_self m1) hK1)
    · have hE : some (Ctl.brk s1) = some c1 := hM
      have hE := Option.some.inj hE
      subst hE
      exact pc R 5 [.ln (a0.length), .as 13 true, .as 16 false] [.keep [0, 3] []] (And.intro (lenm encU8 a0) (And.intro h4 (And.intro h5 True.intro))) (by kernel_rfl) (K1 s1 hK1)
  · have hE : some (Ctl.brk s1) = some c1 := hM
    have hE := Option.some.inj hE
    subst hE
    exact pc R 5 [.ln (a0.length), .as 13 false] [.keep [0, 3] []] (And.intro (lenm encU8 a0) (And.intro h4 True.intro)) (by kernel_rfl) (K1 s1 hK1)

-- loop.example/g03014/spec.l1Byte
def spec_l1Byte (a0 : l1Cur) : Option (Int × l1Cur) :=
  bif (decide (a0.i < (a0.b.length : Int))) then
  (gi a0.b a0.i).bind fun v2 =>
  some (w64 ((BitVec.ofInt 64 (w64 ((w64 ((BitVec.ofInt 64 (w64 ((BitVec.ofInt 64 (Int.fdiv (w64 ((w64 (a0.h * 6364136223846793005)) + 1442695040888963407)) (2 ^ 35)) ^^^ BitVec.ofInt 64 (Int.fdiv (w64 ((w64 (a0.h * 6364136223846793005)) + 1442695040888963407)) (2 ^ 45))).toNat)) &&& BitVec.ofInt 64 255).toNat)) + (w64 v2))) &&& BitVec.ofInt 64 255).toNat), (l1Cur.mk a0.b (w64 (a0.i + 1)) (w64 ((w64 (a0.h * 6364136223846793005)) + 1442695040888963407))))
  else
  some (w64 ((BitVec.ofInt 64 (w64 ((BitVec.ofInt 64 (Int.fdiv (w64 ((w64 (a0.h * 6364136223846793005)) + 1442695040888963407)) (2 ^ 35)) ^^^ BitVec.ofInt 64 (Int.fdiv (w64 ((w64 (a0.h * 6364136223846793005)) + 1442695040888963407)) (2 ^ 45))).toNat)) &&& BitVec.ofInt 64 255).toNat), (l1Cur.mk a0.b a0.i (w64 ((w64 (a0.h * 6364136223846793005)) + 1442695040888963407))))
theorem spec_l1Byte_ok (a0 : l1Cur) (r : Int × l1Cur) (hM : spec_l1Byte a0 = some r) :
    Con Try.prog 82 [.c (.ptr 900 0)] [(900, .box 119 [.rs 1 (a0.b.map encU8), .v (.int .i64 a0.i), .v (.int .i64 a0.h)])] (.o (.c (.v (.int .i64 r.1)))) [(900, .box 119 [.rs 1 (r.2.b.map encU8), .v (.int .i64 r.2.i), .v (.int .i64 r.2.h)])] [] := by
  unfold spec_l1Byte at hM
  refine cn (N := 58) (pids := [900]) Try_mixed Try.func82 (by kernel_rfl) (by kernel_rfl) (by kernel_rfl) rfl fun ρ g w R => ?_
  rcases cond_cases hM with ⟨h1, hM⟩ | ⟨h1, hM⟩
  · obtain ⟨v2, h3, hM⟩ := bind_some hM
    have hE : some (w64 ((BitVec.ofInt 64 (w64 ((w64 ((BitVec.ofInt 64 (w64 ((BitVec.ofInt 64 (Int.fdiv (w64 ((w64 (a0.h * 6364136223846793005)) + 1442695040888963407)) (2 ^ 35)) ^^^ BitVec.ofInt 64 (Int.fdiv (w64 ((w64 (a0.h * 6364136223846793005)) + 1442695040888963407)) (2 ^ 45))).toNat)) &&& BitVec.ofInt 64 255).toNat)) + (w64 v2))) &&& BitVec.ofInt 64 255).toNat), (l1Cur.mk a0.b (w64 (a0.i + 1)) (w64 ((w64 (a0.h * 6364136223846793005)) + 1442695040888963407)))) = some r := hM
    have hE := Option.some.inj hE
    subst hE
    exact pr R 9999 [.ln (a0.b.length), .as 34 true, .ix (encU8 v2)] [] [900] [] (And.intro (lenm encU8 a0.b) (And.intro h1 (And.intro (gi_map encU8 h3) True.intro))) (by kernel_rfl)
  · have hE : some (w64 ((BitVec.ofInt 64 (w64 ((BitVec.ofInt 64 (Int.fdiv (w64 ((w64 (a0.h * 6364136223846793005)) + 1442695040888963407)) (2 ^ 35)) ^^^ BitVec.ofInt 64 (Int.fdiv (w64 ((w64 (a0.h * 6364136223846793005)) + 1442695040888963407)) (2 ^ 45))).toNat)) &&& BitVec.ofInt 64 255).toNat), (l1Cur.mk a0.b a0.i (w64 ((w64 (a0.h * 6364136223846793005)) + 1442695040888963407)))) = some r := hM
    have hE := Option.some.inj hE
    subst hE
    exact pr R 9999 [.ln (a0.b.length), .as 34 false] [] [900] [] (And.intro (lenm encU8 a0.b) (And.intro h1 True.intro)) (by kernel_rfl)

-- loop.example/g03014/spec.l1Below
def spec_l1Below (a0 : l1Cur) (a1 : Int) : Option (Int × l1Cur) :=
  bif (decide (a1 ≤ 0)) then
  some (0, a0)
  else
  bif (decide (a1 ≤ 256)) then
  (spec_l1Byte a0).bind fun v3 =>
  (rM v3.1 a1).bind fun v5 =>
  some (v5, v3.2)
  else
  (spec_l1Byte a0).bind fun v7 =>
  (spec_l1Byte v7.2).bind fun v9 =>
  (spec_l1Byte v9.2).bind fun v11 =>
  (rM (w64 ((w64 ((w64 (v7.1 * 65536)) + (w64 (v9.1 * 256)))) + v11.1)) a1).bind fun v13 =>
  some (v13, v11.2)
theorem spec_l1Below_ok (a0 : l1Cur) (a1 : Int) (r : Int × l1Cur) (hM : spec_l1Below a0 a1 = some r) :
    Con Try.prog 54 [.c (.ptr 900 0), .c (.v (.int .i64 a1))] [(900, .box 119 [.rs 1 (a0.b.map encU8), .v (.int .i64 a0.i), .v (.int .i64 a0.h)])] (.o (.c (.v (.int .i64 r.1)))) [(900, .box 119 [.rs 1 (r.2.b.map encU8), .v (.int .i64 r.2.i), .v (.int .i64 r.2.h)])] [] := by
  unfold spec_l1Below at hM
  refine cn (N := 31) (pids := [900]) Try_mixed Try.func54 (by kernel_rfl) (by kernel_rfl) (by kernel_rfl) rfl fun ρ g w R => ?_
  rcases cond_cases hM with ⟨h1, hM⟩ | ⟨h1, hM⟩
  · have hE : some (0, a0) = some r := hM
    have hE := Option.some.inj hE
    subst hE
    exact pr R 9999 [.as 9 true] [] [900] [] (And.intro h1 True.intro) (by kernel_rfl)
  · rcases cond_cases hM with ⟨h2, hM⟩ | ⟨h2, hM⟩
    · obtain ⟨v3, h4, hM⟩ := bind_some hM
      obtain ⟨v5, h6, hM⟩ := bind_some hM
      have hE : some (v5, v3.2) = some r := hM
      have hE := Option.some.inj hE
      subst hE
      exact pr R 9999 [.as 9 false, .as 11 true, .call true [900] (.o (.c (.v (.int .i64 v3.1)))) [(900, .box 119 [.rs 1 (v3.2.b.map encU8), .v (.int .i64 v3.2.i), .v (.int .i64 v3.2.h)])] [], .run 15 (.int .i64 v5)] [] [900] [] (And.intro h1 (And.intro h2 (And.intro (And.intro (con_sw 900 900 (spec_l1Byte_ok a0 v3 h4)) (rfl : ([900] : List Nat) = [900])) (And.intro (rM_run (P := Try.prog) (t := 3) (x := .tmp 0) (y := .tmp 0) h6) True.intro)))) (by kernel_rfl)
    · obtain ⟨v7, h8, hM⟩ := bind_some hM
      obtain ⟨v9, h10, hM⟩ := bind_some hM
      obtain ⟨v11, h12, hM⟩ := bind_some hM
      obtain ⟨v13, h14, hM⟩ := bind_some hM
      have hE : some (v13, v11.2) = some r := hM
      have hE := Option.some.inj hE
      subst hE
      exact pr R 9999 [.as 9 false, .as 11 false, .call true [900] (.o (.c (.v (.int .i64 v7.1)))) [(900, .box 119 [.rs 1 (v7.2.b.map encU8), .v (.int .i64 v7.2.i), .v (.int .i64 v7.2.h)])] [], .call true [900] (.o (.c (.v (.int .i64 v9.1)))) [(900, .box 119 [.rs 1 (v9.2.b.map encU8), .v (.int .i64 v9.2.i), .v (.int .i64 v9.2.h)])] [], .call true [900] (.o (.c (.v (.int .i64 v11.1)))) [(900, .box 119 [.rs 1 (v11.2.b.map encU8), .v (.int .i64 v11.2.i), .v (.int .i64 v11.2.h)])] [], .run 30 (.int .i64 v13)] [] [900] [] (And.intro h1 (And.intro h2 (And.intro (And.intro (con_sw 900 900 (spec_l1Byte_ok a0 v7 h8)) (rfl : ([900] : List Nat) = [900])) (And.intro (And.intro (con_sw 900 900 (spec_l1Byte_ok v7.2 v9 h10)) (rfl : ([900] : List Nat) = [900])) (And.intro (And.intro (con_sw 900 900 (spec_l1Byte_ok v9.2 v11 h12)) (rfl : ([900] : List Nat) = [900])) (And.intro (rM_run (P := Try.prog) (t := 3) (x := .tmp 0) (y := .tmp 0) h14) True.intro)))))) (by kernel_rfl)

-- loop.example/g03014/spec.l1Str
def spec_l1Str (a0 : l1Cur) (a1 : (List ByteArray)) : Option (ByteArray × l1Cur) :=
  (spec_l1Below a0 (a1.length : Int)).bind fun v1 =>
  (gi a1 v1.1).bind fun v3 =>
  some (v3, v1.2)
theorem spec_l1Str_ok (a0 : l1Cur) (a1 : (List ByteArray)) (r : ByteArray × l1Cur) (hM : spec_l1Str a0 a1 = some r) :
    Con Try.prog 102 [.c (.ptr 900 0), .c (.sl 901)] [(900, .box 119 [.rs 1 (a0.b.map encU8), .v (.int .i64 a0.i), .v (.int .i64 a0.h)]), (901, .row 9 1 (a1.map encS))] (.o (.c (.v (.string r.1)))) [(900, .box 119 [.rs 1 (r.2.b.map encU8), .v (.int .i64 r.2.i), .v (.int .i64 r.2.h)]), (901, .row 9 1 (a1.map encS))] [] := by
  unfold spec_l1Str at hM
  refine cn (N := 12) (pids := [900, 901]) Try_mixed Try.func102 (by kernel_rfl) (by kernel_rfl) (by kernel_rfl) rfl fun ρ g w R => ?_
  obtain ⟨v1, h2, hM⟩ := bind_some hM
  obtain ⟨v3, h4, hM⟩ := bind_some hM
  have hE : some (v3, v1.2) = some r := hM
  have hE := Option.some.inj hE
  subst hE
  exact pr R 9999 [.ln (a1.length), .call true [900] (.o (.c (.v (.int .i64 v1.1)))) [(900, .box 119 [.rs 1 (v1.2.b.map encU8), .v (.int .i64 v1.2.i), .v (.int .i64 v1.2.h)])] [], .ix (encS v3)] [] [900, 901] [] (And.intro (lenm encS a1) (And.intro (And.intro (con_sw 900 900 (spec_l1Below_ok a0 (a1.length : Int) v1 h2)) (rfl : ([900] : List Nat) = [900])) (And.intro (gi_lt encS h4) (And.intro ((gi_map encS h4).2) True.intro)))) (by kernel_rfl)

-- loop.example/g03014/spec.l1Place
def spec_l1Place (a0 : l1Cur) : Option (ByteArray × l1Cur) :=
  (spec_l1Str a0 ([(ByteArray.mk #[65, 77, 83]), (ByteArray.mk #[66, 82, 85]), (ByteArray.mk #[67, 68, 71]), (ByteArray.mk #[68, 85, 66]), (ByteArray.mk #[69, 68, 73]), (ByteArray.mk #[70, 82, 65]), (ByteArray.mk #[71, 79, 84])] : List ByteArray)).bind fun v1 =>
  some v1
theorem spec_l1Place_ok (a0 : l1Cur) (r : ByteArray × l1Cur) (hM : spec_l1Place a0 = some r) :
    Con Try.prog 85 [.c (.ptr 900 0)] [(900, .box 119 [.rs 1 (a0.b.map encU8), .v (.int .i64 a0.i), .v (.int .i64 a0.h)])] (.o (.c (.v (.string r.1)))) [(900, .box 119 [.rs 1 (r.2.b.map encU8), .v (.int .i64 r.2.i), .v (.int .i64 r.2.h)])] [] := by
  unfold spec_l1Place at hM
  refine cn (N := 6) (pids := [900]) Try_mixed Try.func85 (by kernel_rfl) (by kernel_rfl) (by kernel_rfl) rfl fun ρ g w R => ?_
  obtain ⟨v1, h2, hM⟩ := bind_some hM
  have hE : some v1 = some r := hM
  have hE := Option.some.inj hE
  subst hE
  exact pr R 9999 [.new 0, .ad (.keep [0, 2, 3, 4] [900, 0]), .call true [900, 0] (.o (.c (.v (.string v1.1)))) [(900, .box 119 [.rs 1 (v1.2.b.map encU8), .v (.int .i64 v1.2.i), .v (.int .i64 v1.2.h)]), (0, .row 9 1 (([(ByteArray.mk #[65, 77, 83]), (ByteArray.mk #[66, 82, 85]), (ByteArray.mk #[67, 68, 71]), (ByteArray.mk #[68, 85, 66]), (ByteArray.mk #[69, 68, 73]), (ByteArray.mk #[70, 82, 65]), (ByteArray.mk #[71, 79, 84])] : List ByteArray).map encS))] []] [] [900] [] (And.intro (And.intro (con_sw 901 0 (con_sw 900 900 (spec_l1Str_ok a0 ([(ByteArray.mk #[65, 77, 83]), (ByteArray.mk #[66, 82, 85]), (ByteArray.mk #[67, 68, 71]), (ByteArray.mk #[68, 85, 66]), (ByteArray.mk #[69, 68, 73]), (ByteArray.mk #[70, 82, 65]), (ByteArray.mk #[71, 79, 84])] : List ByteArray) v1 h2))) (rfl : ([900, 0] : List Nat) = [900, 0])) True.intro) (by kernel_rfl)

-- loop.example/g03014/spec.l1Once
def spec_l1Once (a0 : l1Cur) (a1 : Int) : Option (Bool × l1Cur) :=
  (spec_l1Below a0 a1).bind fun v1 =>
  some (v1.1 == 0, v1.2)
theorem spec_l1Once_ok (a0 : l1Cur) (a1 : Int) (r : Bool × l1Cur) (hM : spec_l1Once a0 a1 = some r) :
    Con Try.prog 52 [.c (.ptr 900 0), .c (.v (.int .i64 a1))] [(900, .box 119 [.rs 1 (a0.b.map encU8), .v (.int .i64 a0.i), .v (.int .i64 a0.h)])] (.o (.c (.v (.bool r.1)))) [(900, .box 119 [.rs 1 (r.2.b.map encU8), .v (.int .i64 r.2.i), .v (.int .i64 r.2.h)])] [] := by
  unfold spec_l1Once at hM
  refine cn (N := 9) (pids := [900]) Try_mixed Try.func52 (by kernel_rfl) (by kernel_rfl) (by kernel_rfl) rfl fun ρ g w R => ?_
  obtain ⟨v1, h2, hM⟩ := bind_some hM
  have hE : some (v1.1 == 0, v1.2) = some r := hM
  have hE := Option.some.inj hE
  subst hE
  exact pr R 9999 [.call true [900] (.o (.c (.v (.int .i64 v1.1)))) [(900, .box 119 [.rs 1 (v1.2.b.map encU8), .v (.int .i64 v1.2.i), .v (.int .i64 v1.2.h)])] []] [] [900] [] (And.intro (And.intro (con_sw 900 900 (spec_l1Below_ok a0 a1 v1 h2)) (rfl : ([900] : List Nat) = [900])) True.intro) (by kernel_rfl)

-- loop.example/g03014/spec.l1Int
def spec_l1Int (a0 : l1Cur) (a1 : (List Int)) : Option (Int × l1Cur) :=
  (spec_l1Below a0 (a1.length : Int)).bind fun v1 =>
  (gi a1 v1.1).bind fun v3 =>
  some (v3, v1.2)
theorem spec_l1Int_ok (a0 : l1Cur) (a1 : (List Int)) (r : Int × l1Cur) (hM : spec_l1Int a0 a1 = some r) :
    Con Try.prog 59 [.c (.ptr 900 0), .c (.sl 901)] [(900, .box 119 [.rs 1 (a0.b.map encU8), .v (.int .i64 a0.i), .v (.int .i64 a0.h)]), (901, .row 3 1 (a1.map encI))] (.o (.c (.v (.int .i64 r.1)))) [(900, .box 119 [.rs 1 (r.2.b.map encU8), .v (.int .i64 r.2.i), .v (.int .i64 r.2.h)]), (901, .row 3 1 (a1.map encI))] [] := by
  unfold spec_l1Int at hM
  refine cn (N := 12) (pids := [900, 901]) Try_mixed Try.func59 (by kernel_rfl) (by kernel_rfl) (by kernel_rfl) rfl fun ρ g w R => ?_
  obtain ⟨v1, h2, hM⟩ := bind_some hM
  obtain ⟨v3, h4, hM⟩ := bind_some hM
  have hE : some (v3, v1.2) = some r := hM
  have hE := Option.some.inj hE
  subst hE
  exact pr R 9999 [.ln (a1.length), .call true [900] (.o (.c (.v (.int .i64 v1.1)))) [(900, .box 119 [.rs 1 (v1.2.b.map encU8), .v (.int .i64 v1.2.i), .v (.int .i64 v1.2.h)])] [], .ix (encI v3)] [] [900, 901] [] (And.intro (lenm encI a1) (And.intro (And.intro (con_sw 900 900 (spec_l1Below_ok a0 (a1.length : Int) v1 h2)) (rfl : ([900] : List Nat) = [900])) (And.intro (gi_lt encI h4) (And.intro ((gi_map encI h4).2) True.intro)))) (by kernel_rfl)

-- loop.example/g03014/spec.l3Leg
def spec_l3Leg_j1 (v1 : (ByteArray × l1Cur)) (v3 : (ByteArray × l1Cur)) (v5 : (Int × l1Cur)) (v7 : (Int × l1Cur)) (v9 : (Int × l1Cur)) (v11 : (Int × l1Cur)) (s21 : ByteArray) (s22 : ByteArray) (v23 : (Bool × l1Cur)) (s25 : Int) : Option (Leg × l1Cur) :=
  (spec_l1Once v23.2 9).bind fun v26 =>
  bif v26.1 then
  (spec_l1Int v26.2 ([1, 1440, 4320] : List Int)).bind fun v29 =>
  some ((Leg.mk ((Leg.mk s21 s22 ((Leg.mk v1.1 v3.1 (w64 (30 * v5.1)) (w64 (30 * (w64 (1 + v7.1)))) (w64 (1 + v9.1)) (w64 (1000 * v11.1))).Start) v29.1 s25 ((Leg.mk v1.1 v3.1 (w64 (30 * v5.1)) (w64 (30 * (w64 (1 + v7.1)))) (w64 (1 + v9.1)) (w64 (1000 * v11.1))).Room)).From) ((Leg.mk s21 s22 ((Leg.mk v1.1 v3.1 (w64 (30 * v5.1)) (w64 (30 * (w64 (1 + v7.1)))) (w64 (1 + v9.1)) (w64 (1000 * v11.1))).Start) v29.1 s25 ((Leg.mk v1.1 v3.1 (w64 (30 * v5.1)) (w64 (30 * (w64 (1 + v7.1)))) (w64 (1 + v9.1)) (w64 (1000 * v11.1))).Room)).To) ((Leg.mk s21 s22 ((Leg.mk v1.1 v3.1 (w64 (30 * v5.1)) (w64 (30 * (w64 (1 + v7.1)))) (w64 (1 + v9.1)) (w64 (1000 * v11.1))).Start) v29.1 s25 ((Leg.mk v1.1 v3.1 (w64 (30 * v5.1)) (w64 (30 * (w64 (1 + v7.1)))) (w64 (1 + v9.1)) (w64 (1000 * v11.1))).Room)).Start) ((Leg.mk s21 s22 ((Leg.mk v1.1 v3.1 (w64 (30 * v5.1)) (w64 (30 * (w64 (1 + v7.1)))) (w64 (1 + v9.1)) (w64 (1000 * v11.1))).Start) v29.1 s25 ((Leg.mk v1.1 v3.1 (w64 (30 * v5.1)) (w64 (30 * (w64 (1 + v7.1)))) (w64 (1 + v9.1)) (w64 (1000 * v11.1))).Room)).Takes) ((Leg.mk s21 s22 ((Leg.mk v1.1 v3.1 (w64 (30 * v5.1)) (w64 (30 * (w64 (1 + v7.1)))) (w64 (1 + v9.1)) (w64 (1000 * v11.1))).Start) v29.1 s25 ((Leg.mk v1.1 v3.1 (w64 (30 * v5.1)) (w64 (30 * (w64 (1 + v7.1)))) (w64 (1 + v9.1)) (w64 (1000 * v11.1))).Room)).Days) ((Leg.mk s21 s22 ((Leg.mk v1.1 v3.1 (w64 (30 * v5.1)) (w64 (30 * (w64 (1 + v7.1)))) (w64 (1 + v9.1)) (w64 (1000 * v11.1))).Start) v29.1 s25 ((Leg.mk v1.1 v3.1 (w64 (30 * v5.1)) (w64 (30 * (w64 (1 + v7.1)))) (w64 (1 + v9.1)) (w64 (1000 * v11.1))).Room)).Room)), v29.2)
  else
  some ((Leg.mk ((Leg.mk s21 s22 ((Leg.mk v1.1 v3.1 (w64 (30 * v5.1)) (w64 (30 * (w64 (1 + v7.1)))) (w64 (1 + v9.1)) (w64 (1000 * v11.1))).Start) ((Leg.mk v1.1 v3.1 (w64 (30 * v5.1)) (w64 (30 * (w64 (1 + v7.1)))) (w64 (1 + v9.1)) (w64 (1000 * v11.1))).Takes) s25 ((Leg.mk v1.1 v3.1 (w64 (30 * v5.1)) (w64 (30 * (w64 (1 + v7.1)))) (w64 (1 + v9.1)) (w64 (1000 * v11.1))).Room)).From) ((Leg.mk s21 s22 ((Leg.mk v1.1 v3.1 (w64 (30 * v5.1)) (w64 (30 * (w64 (1 + v7.1)))) (w64 (1 + v9.1)) (w64 (1000 * v11.1))).Start) ((Leg.mk v1.1 v3.1 (w64 (30 * v5.1)) (w64 (30 * (w64 (1 + v7.1)))) (w64 (1 + v9.1)) (w64 (1000 * v11.1))).Takes) s25 ((Leg.mk v1.1 v3.1 (w64 (30 * v5.1)) (w64 (30 * (w64 (1 + v7.1)))) (w64 (1 + v9.1)) (w64 (1000 * v11.1))).Room)).To) ((Leg.mk s21 s22 ((Leg.mk v1.1 v3.1 (w64 (30 * v5.1)) (w64 (30 * (w64 (1 + v7.1)))) (w64 (1 + v9.1)) (w64 (1000 * v11.1))).Start) ((Leg.mk v1.1 v3.1 (w64 (30 * v5.1)) (w64 (30 * (w64 (1 + v7.1)))) (w64 (1 + v9.1)) (w64 (1000 * v11.1))).Takes) s25 ((Leg.mk v1.1 v3.1 (w64 (30 * v5.1)) (w64 (30 * (w64 (1 + v7.1)))) (w64 (1 + v9.1)) (w64 (1000 * v11.1))).Room)).Start) ((Leg.mk s21 s22 ((Leg.mk v1.1 v3.1 (w64 (30 * v5.1)) (w64 (30 * (w64 (1 + v7.1)))) (w64 (1 + v9.1)) (w64 (1000 * v11.1))).Start) ((Leg.mk v1.1 v3.1 (w64 (30 * v5.1)) (w64 (30 * (w64 (1 + v7.1)))) (w64 (1 + v9.1)) (w64 (1000 * v11.1))).Takes) s25 ((Leg.mk v1.1 v3.1 (w64 (30 * v5.1)) (w64 (30 * (w64 (1 + v7.1)))) (w64 (1 + v9.1)) (w64 (1000 * v11.1))).Room)).Takes) ((Leg.mk s21 s22 ((Leg.mk v1.1 v3.1 (w64 (30 * v5.1)) (w64 (30 * (w64 (1 + v7.1)))) (w64 (1 + v9.1)) (w64 (1000 * v11.1))).Start) ((Leg.mk v1.1 v3.1 (w64 (30 * v5.1)) (w64 (30 * (w64 (1 + v7.1)))) (w64 (1 + v9.1)) (w64 (1000 * v11.1))).Takes) s25 ((Leg.mk v1.1 v3.1 (w64 (30 * v5.1)) (w64 (30 * (w64 (1 + v7.1)))) (w64 (1 + v9.1)) (w64 (1000 * v11.1))).Room)).Days) ((Leg.mk s21 s22 ((Leg.mk v1.1 v3.1 (w64 (30 * v5.1)) (w64 (30 * (w64 (1 + v7.1)))) (w64 (1 + v9.1)) (w64 (1000 * v11.1))).Start) ((Leg.mk v1.1 v3.1 (w64 (30 * v5.1)) (w64 (30 * (w64 (1 + v7.1)))) (w64 (1 + v9.1)) (w64 (1000 * v11.1))).Takes) s25 ((Leg.mk v1.1 v3.1 (w64 (30 * v5.1)) (w64 (30 * (w64 (1 + v7.1)))) (w64 (1 + v9.1)) (w64 (1000 * v11.1))).Room)).Room)), v26.2)
def spec_l3Leg_L1_b (s13 : (List Int)) (s14 : Int) (s15 : Int) (s16 : ByteArray) (s17 : ByteArray) : Option (Ctl ((List Int) × Int × Int × ByteArray × ByteArray) ((List Int) × Int × Int × ByteArray × ByteArray) (Leg × l1Cur)) :=
  bif (s16.toList == s17.toList) then
  (spec_l1Str (l1Cur.mk s13 s14 s15) ([(ByteArray.mk #[65, 77, 83]), (ByteArray.mk #[66, 82, 85]), (ByteArray.mk #[67, 68, 71])] : List ByteArray)).bind fun v33 =>
  bif (s16.toList == v33.1.toList) then
  some (.next (v33.2.b, v33.2.i, v33.2.h, (ByteArray.mk #[68, 85, 66]), v33.1))
  else
  some (.next (v33.2.b, v33.2.i, v33.2.h, s16, v33.1))
  else
  some (.brk (s13, s14, s15, s16, s17))
def spec_l3Leg_L1 (s : (List Int) × Int × Int × ByteArray × ByteArray) : Option (Ctl ((List Int) × Int × Int × ByteArray × ByteArray) ((List Int) × Int × Int × ByteArray × ByteArray) (Leg × l1Cur)) := spec_l3Leg_L1_b s.1 s.2.1 s.2.2.1 s.2.2.2.1 s.2.2.2.2
def spec_l3Leg_L1_s (v1 : (ByteArray × l1Cur)) (v3 : (ByteArray × l1Cur)) (v5 : (Int × l1Cur)) (v7 : (Int × l1Cur)) (v9 : (Int × l1Cur)) (v11 : (Int × l1Cur)) (s13 : (List Int)) (s14 : Int) (s15 : Int) (s16 : ByteArray) (s17 : ByteArray) : St := ⟨[(0, .o (.c (.ptr 900 0))), (2, .o (.c (.ptr 0 0))), (3, .o (.c (.ptr 1 0)))], [(900, .box 119 [.rs 1 (s13.map encU8), .v (.int .i64 s14), .v (.int .i64 s15)]), (0, .box 95 [.v (.string ByteArray.empty), .v (.string ByteArray.empty), .v (.int .i64 0), .v (.int .i64 0), .v (.int .i64 0), .v (.int .i64 0)]), (1, .box 95 [.v (.string s16), .v (.string s17), .v (.int .i64 ((Leg.mk v1.1 v3.1 (w64 (30 * v5.1)) (w64 (30 * (w64 (1 + v7.1)))) (w64 (1 + v9.1)) (w64 (1000 * v11.1))).Start)), .v (.int .i64 ((Leg.mk v1.1 v3.1 (w64 (30 * v5.1)) (w64 (30 * (w64 (1 + v7.1)))) (w64 (1 + v9.1)) (w64 (1000 * v11.1))).Takes)), .v (.int .i64 ((Leg.mk v1.1 v3.1 (w64 (30 * v5.1)) (w64 (30 * (w64 (1 + v7.1)))) (w64 (1 + v9.1)) (w64 (1000 * v11.1))).Days)), .v (.int .i64 ((Leg.mk v1.1 v3.1 (w64 (30 * v5.1)) (w64 (30 * (w64 (1 + v7.1)))) (w64 (1 + v9.1)) (w64 (1000 * v11.1))).Room))])]⟩
def spec_l3Leg_L1_S (v1 : (ByteArray × l1Cur)) (v3 : (ByteArray × l1Cur)) (v5 : (Int × l1Cur)) (v7 : (Int × l1Cur)) (v9 : (Int × l1Cur)) (v11 : (Int × l1Cur)) (s : (List Int) × Int × Int × ByteArray × ByteArray) : St := spec_l3Leg_L1_s v1 v3 v5 v7 v9 v11 s.1 s.2.1 s.2.2.1 s.2.2.2.1 s.2.2.2.2
def spec_l3Leg_L1_a (v1 : (ByteArray × l1Cur)) (v3 : (ByteArray × l1Cur)) (v5 : (Int × l1Cur)) (v7 : (Int × l1Cur)) (v9 : (Int × l1Cur)) (v11 : (Int × l1Cur)) (s18 : (List Int)) (s19 : Int) (s20 : Int) (s21 : ByteArray) (s22 : ByteArray) : Option (Leg × l1Cur) :=
  (spec_l1Once (l1Cur.mk s18 s19 s20) 2).bind fun v23 =>
  bif v23.1 then
  spec_l3Leg_j1 v1 v3 v5 v7 v9 v11 s21 s22 v23 127
  else
  spec_l3Leg_j1 v1 v3 v5 v7 v9 v11 s21 s22 v23 ((Leg.mk v1.1 v3.1 (w64 (30 * v5.1)) (w64 (30 * (w64 (1 + v7.1)))) (w64 (1 + v9.1)) (w64 (1000 * v11.1))).Days)
def spec_l3Leg_L1_k (v1 : (ByteArray × l1Cur)) (v3 : (ByteArray × l1Cur)) (v5 : (Int × l1Cur)) (v7 : (Int × l1Cur)) (v9 : (Int × l1Cur)) (v11 : (Int × l1Cur)) (x : ((List Int) × Int × Int × ByteArray × ByteArray) ⊕ (Leg × l1Cur)) : Option (Leg × l1Cur) := match x with
  | .inl t => spec_l3Leg_L1_a v1 v3 v5 v7 v9 v11 t.1 t.2.1 t.2.2.1 t.2.2.2.1 t.2.2.2.2
  | .inr y => some y
def spec_l3Leg (a0 : l1Cur) : Option (Leg × l1Cur) :=
  (spec_l1Place a0).bind fun v1 =>
  (spec_l1Place v1.2).bind fun v3 =>
  (spec_l1Below v3.2 48).bind fun v5 =>
  (spec_l1Below v5.2 40).bind fun v7 =>
  (spec_l1Below v7.2 127).bind fun v9 =>
  (spec_l1Below v9.2 60).bind fun v11 =>
  (loopM (spec_l3Leg_L1) big (v11.2.b, v11.2.i, v11.2.h, (Leg.mk v1.1 v3.1 (w64 (30 * v5.1)) (w64 (30 * (w64 (1 + v7.1)))) (w64 (1 + v9.1)) (w64 (1000 * v11.1))).From, (Leg.mk v1.1 v3.1 (w64 (30 * v5.1)) (w64 (30 * (w64 (1 + v7.1)))) (w64 (1 + v9.1)) (w64 (1000 * v11.1))).To)).bind (spec_l3Leg_L1_k v1 v3 v5 v7 v9 v11)
theorem spec_l3Leg_ok (a0 : l1Cur) (r : Leg × l1Cur) (hM : spec_l3Leg a0 = some r) :
    Con Try.prog 80 [.c (.ptr 900 0)] [(900, .box 119 [.rs 1 (a0.b.map encU8), .v (.int .i64 a0.i), .v (.int .i64 a0.h)])] (.o (.c (.v (.agg (Leg.enc r.1).toArray)))) [(900, .box 119 [.rs 1 (r.2.b.map encU8), .v (.int .i64 r.2.i), .v (.int .i64 r.2.h)])] [] := by
  unfold spec_l3Leg at hM
  refine cn (N := 47) (pids := [900]) Try_mixed Try.func80 (by kernel_rfl) (by kernel_rfl) (by kernel_rfl) rfl fun ρ g w R => ?_
  obtain ⟨v1, h2, hM⟩ := bind_some hM
  obtain ⟨v3, h4, hM⟩ := bind_some hM
  obtain ⟨v5, h6, hM⟩ := bind_some hM
  obtain ⟨v7, h8, hM⟩ := bind_some hM
  obtain ⟨v9, h10, hM⟩ := bind_some hM
  obtain ⟨v11, h12, hM⟩ := bind_some hM
  have K1 : ∀ (s18 : (List Int)) (s19 : Int) (s20 : Int) (s21 : ByteArray) (s22 : ByteArray), spec_l3Leg_L1_a v1 v3 v5 v7 v9 v11 s18 s19 s20 s21 s22 = some r → Gr R [.code (cAt Try.f80 [1, 1, 1])] (⟨[(0, .o (.c (.ptr 900 0))), (2, .o (.c (.ptr 0 0))), (3, .o (.c (.ptr 1 0)))], [(900, .box 119 [.rs 1 (s18.map encU8), .v (.int .i64 s19), .v (.int .i64 s20)]), (0, .box 95 [.v (.string ByteArray.empty), .v (.string ByteArray.empty), .v (.int .i64 0), .v (.int .i64 0), .v (.int .i64 0), .v (.int .i64 0)]), (1, .box 95 [.v (.string s21), .v (.string s22), .v (.int .i64 ((Leg.mk v1.1 v3.1 (w64 (30 * v5.1)) (w64 (30 * (w64 (1 + v7.1)))) (w64 (1 + v9.1)) (w64 (1000 * v11.1))).Start)), .v (.int .i64 ((Leg.mk v1.1 v3.1 (w64 (30 * v5.1)) (w64 (30 * (w64 (1 + v7.1)))) (w64 (1 + v9.1)) (w64 (1000 * v11.1))).Takes)), .v (.int .i64 ((Leg.mk v1.1 v3.1 (w64 (30 * v5.1)) (w64 (30 * (w64 (1 + v7.1)))) (w64 (1 + v9.1)) (w64 (1000 * v11.1))).Days)), .v (.int .i64 ((Leg.mk v1.1 v3.1 (w64 (30 * v5.1)) (w64 (30 * (w64 (1 + v7.1)))) (w64 (1 + v9.1)) (w64 (1000 * v11.1))).Room))])]⟩) := by
    intro s18 s19 s20 s21 s22 hM
    unfold spec_l3Leg_L1_a at hM
    obtain ⟨v23, h24, hM⟩ := bind_some hM
    have J1 : ∀ (s25 : Int), spec_l3Leg_j1 v1 v3 v5 v7 v9 v11 s21 s22 v23 s25 = some r → Gr R [.code (cAt Try.f80 [1, 1, 1, 1])] (⟨[(0, .o (.c (.ptr 900 0))), (2, .o (.c (.ptr 0 0))), (3, .o (.c (.ptr 1 0)))], [(900, .box 119 [.rs 1 (v23.2.b.map encU8), .v (.int .i64 v23.2.i), .v (.int .i64 v23.2.h)]), (0, .box 95 [.v (.string ByteArray.empty), .v (.string ByteArray.empty), .v (.int .i64 0), .v (.int .i64 0), .v (.int .i64 0), .v (.int .i64 0)]), (1, .box 95 [.v (.string s21), .v (.string s22), .v (.int .i64 ((Leg.mk v1.1 v3.1 (w64 (30 * v5.1)) (w64 (30 * (w64 (1 + v7.1)))) (w64 (1 + v9.1)) (w64 (1000 * v11.1))).Start)), .v (.int .i64 ((Leg.mk v1.1 v3.1 (w64 (30 * v5.1)) (w64 (30 * (w64 (1 + v7.1)))) (w64 (1 + v9.1)) (w64 (1000 * v11.1))).Takes)), .v (.int .i64 s25), .v (.int .i64 ((Leg.mk v1.1 v3.1 (w64 (30 * v5.1)) (w64 (30 * (w64 (1 + v7.1)))) (w64 (1 + v9.1)) (w64 (1000 * v11.1))).Room))])]⟩) := by
      intro s25 hM
      unfold spec_l3Leg_j1 at hM
      obtain ⟨v26, h27, hM⟩ := bind_some hM
      rcases cond_cases hM with ⟨h28, hM⟩ | ⟨h28, hM⟩
      · obtain ⟨v29, h30, hM⟩ := bind_some hM
        have hE : some ((Leg.mk ((Leg.mk s21 s22 ((Leg.mk v1.1 v3.1 (w64 (30 * v5.1)) (w64 (30 * (w64 (1 + v7.1)))) (w64 (1 + v9.1)) (w64 (1000 * v11.1))).Start) v29.1 s25 ((Leg.mk v1.1 v3.1 (w64 (30 * v5.1)) (w64 (30 * (w64 (1 + v7.1)))) (w64 (1 + v9.1)) (w64 (1000 * v11.1))).Room)).From) ((Leg.mk s21 s22 ((Leg.mk v1.1 v3.1 (w64 (30 * v5.1)) (w64 (30 * (w64 (1 + v7.1)))) (w64 (1 + v9.1)) (w64 (1000 * v11.1))).Start) v29.1 s25 ((Leg.mk v1.1 v3.1 (w64 (30 * v5.1)) (w64 (30 * (w64 (1 + v7.1)))) (w64 (1 + v9.1)) (w64 (1000 * v11.1))).Room)).To) ((Leg.mk s21 s22 ((Leg.mk v1.1 v3.1 (w64 (30 * v5.1)) (w64 (30 * (w64 (1 + v7.1)))) (w64 (1 + v9.1)) (w64 (1000 * v11.1))).Start) v29.1 s25 ((Leg.mk v1.1 v3.1 (w64 (30 * v5.1)) (w64 (30 * (w64 (1 + v7.1)))) (w64 (1 + v9.1)) (w64 (1000 * v11.1))).Room)).Start) ((Leg.mk s21 s22 ((Leg.mk v1.1 v3.1 (w64 (30 * v5.1)) (w64 (30 * (w64 (1 + v7.1)))) (w64 (1 + v9.1)) (w64 (1000 * v11.1))).Start) v29.1 s25 ((Leg.mk v1.1 v3.1 (w64 (30 * v5.1)) (w64 (30 * (w64 (1 + v7.1)))) (w64 (1 + v9.1)) (w64 (1000 * v11.1))).Room)).Takes) ((Leg.mk s21 s22 ((Leg.mk v1.1 v3.1 (w64 (30 * v5.1)) (w64 (30 * (w64 (1 + v7.1)))) (w64 (1 + v9.1)) (w64 (1000 * v11.1))).Start) v29.1 s25 ((Leg.mk v1.1 v3.1 (w64 (30 * v5.1)) (w64 (30 * (w64 (1 + v7.1)))) (w64 (1 + v9.1)) (w64 (1000 * v11.1))).Room)).Days) ((Leg.mk s21 s22 ((Leg.mk v1.1 v3.1 (w64 (30 * v5.1)) (w64 (30 * (w64 (1 + v7.1)))) (w64 (1 + v9.1)) (w64 (1000 * v11.1))).Start) v29.1 s25 ((Leg.mk v1.1 v3.1 (w64 (30 * v5.1)) (w64 (30 * (w64 (1 + v7.1)))) (w64 (1 + v9.1)) (w64 (1000 * v11.1))).Room)).Room)), v29.2) = some r := hM
        have hE := Option.some.inj hE
        subst hE
        exact pr R 9999 [.call true [900] (.o (.c (.v (.bool v26.1)))) [(900, .box 119 [.rs 1 (v26.2.b.map encU8), .v (.int .i64 v26.2.i), .v (.int .i64 v26.2.h)])] [], .as 41 true, .new 2, .ad (.keep [0, 2, 3, 40, 41, 42, 43] [900, 2, 0, 1]), .call true [900, 2] (.o (.c (.v (.int .i64 v29.1)))) [(900, .box 119 [.rs 1 (v29.2.b.map encU8), .v (.int .i64 v29.2.i), .v (.int .i64 v29.2.h)]), (2, .row 3 1 (([1, 1440, 4320] : List Int).map encI))] []] [] [900] [] (And.intro (And.intro (con_sw 900 900 (spec_l1Once_ok v23.2 9 v26 h27)) (rfl : ([900] : List Nat) = [900])) (And.intro h28 (And.intro (And.intro (con_sw 901 2 (con_sw 900 900 (spec_l1Int_ok v26.2 ([1, 1440, 4320] : List Int) v29 h30))) (rfl : ([900, 2] : List Nat) = [900, 2])) True.intro))) (by kernel_rfl)
      · have hE : some ((Leg.mk ((Leg.mk s21 s22 ((Leg.mk v1.1 v3.1 (w64 (30 * v5.1)) (w64 (30 * (w64 (1 + v7.1)))) (w64 (1 + v9.1)) (w64 (1000 * v11.1))).Start) ((Leg.mk v1.1 v3.1 (w64 (30 * v5.1)) (w64 (30 * (w64 (1 + v7.1)))) (w64 (1 + v9.1)) (w64 (1000 * v11.1))).Takes) s25 ((Leg.mk v1.1 v3.1 (w64 (30 * v5.1)) (w64 (30 * (w64 (1 + v7.1)))) (w64 (1 + v9.1)) (w64 (1000 * v11.1))).Room)).From) ((Leg.mk s21 s22 ((Leg.mk v1.1 v3.1 (w64 (30 * v5.1)) (w64 (30 * (w64 (1 + v7.1)))) (w64 (1 + v9.1)) (w64 (1000 * v11.1))).Start) ((Leg.mk v1.1 v3.1 (w64 (30 * v5.1)) (w64 (30 * (w64 (1 + v7.1)))) (w64 (1 + v9.1)) (w64 (1000 * v11.1))).Takes) s25 ((Leg.mk v1.1 v3.1 (w64 (30 * v5.1)) (w64 (30 * (w64 (1 + v7.1)))) (w64 (1 + v9.1)) (w64 (1000 * v11.1))).Room)).To) ((Leg.mk s21 s22 ((Leg.mk v1.1 v3.1 (w64 (30 * v5.1)) (w64 (30 * (w64 (1 + v7.1)))) (w64 (1 + v9.1)) (w64 (1000 * v11.1))).Start) ((Leg.mk v1.1 v3.1 (w64 (30 * v5.1)) (w64 (30 * (w64 (1 + v7.1)))) (w64 (1 + v9.1)) (w64 (1000 * v11.1))).Takes) s25 ((Leg.mk v1.1 v3.1 (w64 (30 * v5.1)) (w64 (30 * (w64 (1 + v7.1)))) (w64 (1 + v9.1)) (w64 (1000 * v11.1))).Room)).Start) ((Leg.mk s21 s22 ((Leg.mk v1.1 v3.1 (w64 (30 * v5.1)) (w64 (30 * (w64 (1 + v7.1)))) (w64 (1 + v9.1)) (w64 (1000 * v11.1))).Start) ((Leg.mk v1.1 v3.1 (w64 (30 * v5.1)) (w64 (30 * (w64 (1 + v7.1)))) (w64 (1 + v9.1)) (w64 (1000 * v11.1))).Takes) s25 ((Leg.mk v1.1 v3.1 (w64 (30 * v5.1)) (w64 (30 * (w64 (1 + v7.1)))) (w64 (1 + v9.1)) (w64 (1000 * v11.1))).Room)).Takes) ((Leg.mk s21 s22 ((Leg.mk v1.1 v3.1 (w64 (30 * v5.1)) (w64 (30 * (w64 (1 + v7.1)))) (w64 (1 + v9.1)) (w64 (1000 * v11.1))).Start) ((Leg.mk v1.1 v3.1 (w64 (30 * v5.1)) (w64 (30 * (w64 (1 + v7.1)))) (w64 (1 + v9.1)) (w64 (1000 * v11.1))).Takes) s25 ((Leg.mk v1.1 v3.1 (w64 (30 * v5.1)) (w64 (30 * (w64 (1 + v7.1)))) (w64 (1 + v9.1)) (w64 (1000 * v11.1))).Room)).Days) ((Leg.mk s21 s22 ((Leg.mk v1.1 v3.1 (w64 (30 * v5.1)) (w64 (30 * (w64 (1 + v7.1)))) (w64 (1 + v9.1)) (w64 (1000 * v11.1))).Start) ((Leg.mk v1.1 v3.1 (w64 (30 * v5.1)) (w64 (30 * (w64 (1 + v7.1)))) (w64 (1 + v9.1)) (w64 (1000 * v11.1))).Takes) s25 ((Leg.mk v1.1 v3.1 (w64 (30 * v5.1)) (w64 (30 * (w64 (1 + v7.1)))) (w64 (1 + v9.1)) (w64 (1000 * v11.1))).Room)).Room)), v26.2) = some r := hM
        have hE := Option.some.inj hE
        subst hE
        exact pr R 9999 [.call true [900] (.o (.c (.v (.bool v26.1)))) [(900, .box 119 [.rs 1 (v26.2.b.map encU8), .v (.int .i64 v26.2.i), .v (.int .i64 v26.2.h)])] [], .as 41 false] [] [900] [] (And.intro (And.intro (con_sw 900 900 (spec_l1Once_ok v23.2 9 v26 h27)) (rfl : ([900] : List Nat) = [900])) (And.intro h28 True.intro)) (by kernel_rfl)
    rcases cond_cases hM with ⟨h31, hM⟩ | ⟨h31, hM⟩
    · exact pc R 5 [.call true [900] (.o (.c (.v (.bool v23.1)))) [(900, .box 119 [.rs 1 (v23.2.b.map encU8), .v (.int .i64 v23.2.i), .v (.int .i64 v23.2.h)])] [], .as 38 true] [.keep [0, 2, 3] [900, 0, 1]] (And.intro (And.intro (con_sw 900 900 (spec_l1Once_ok (l1Cur.mk s18 s19 s20) 2 v23 h24)) (rfl : ([900] : List Nat) = [900])) (And.intro h31 True.intro)) (by kernel_rfl) (J1 127 hM)
    · exact pc R 5 [.call true [900] (.o (.c (.v (.bool v23.1)))) [(900, .box 119 [.rs 1 (v23.2.b.map encU8), .v (.int .i64 v23.2.i), .v (.int .i64 v23.2.h)])] [], .as 38 false] [.keep [0, 2, 3] [900, 0, 1]] (And.intro (And.intro (con_sw 900 900 (spec_l1Once_ok (l1Cur.mk s18 s19 s20) 2 v23 h24)) (rfl : ([900] : List Nat) = [900])) (And.intro h31 True.intro)) (by kernel_rfl) (J1 ((Leg.mk v1.1 v3.1 (w64 (30 * v5.1)) (w64 (30 * (w64 (1 + v7.1)))) (w64 (1 + v9.1)) (w64 (1000 * v11.1))).Days) hM)
  refine pc R 9999 [.new 0, .call true [900] (.o (.c (.v (.string v1.1)))) [(900, .box 119 [.rs 1 (v1.2.b.map encU8), .v (.int .i64 v1.2.i), .v (.int .i64 v1.2.h)])] [], .call true [900] (.o (.c (.v (.string v3.1)))) [(900, .box 119 [.rs 1 (v3.2.b.map encU8), .v (.int .i64 v3.2.i), .v (.int .i64 v3.2.h)])] [], .call true [900] (.o (.c (.v (.int .i64 v5.1)))) [(900, .box 119 [.rs 1 (v5.2.b.map encU8), .v (.int .i64 v5.2.i), .v (.int .i64 v5.2.h)])] [], .call true [900] (.o (.c (.v (.int .i64 v7.1)))) [(900, .box 119 [.rs 1 (v7.2.b.map encU8), .v (.int .i64 v7.2.i), .v (.int .i64 v7.2.h)])] [], .call true [900] (.o (.c (.v (.int .i64 v9.1)))) [(900, .box 119 [.rs 1 (v9.2.b.map encU8), .v (.int .i64 v9.2.i), .v (.int .i64 v9.2.h)])] [], .call true [900] (.o (.c (.v (.int .i64 v11.1)))) [(900, .box 119 [.rs 1 (v11.2.b.map encU8), .v (.int .i64 v11.2.i), .v (.int .i64 v11.2.h)])] [], .new 1] [.keep [0, 2, 3] [900, 0, 1]] (k' := [.code (.loop (cAt Try.f80 [1, 1, 0, 0, 0])), .blk 0, .code (cAt Try.f80 [1, 1, 1])]) (S' := spec_l3Leg_L1_S v1 v3 v5 v7 v9 v11 (v11.2.b, v11.2.i, v11.2.h, (Leg.mk v1.1 v3.1 (w64 (30 * v5.1)) (w64 (30 * (w64 (1 + v7.1)))) (w64 (1 + v9.1)) (w64 (1000 * v11.1))).From, (Leg.mk v1.1 v3.1 (w64 (30 * v5.1)) (w64 (30 * (w64 (1 + v7.1)))) (w64 (1 + v9.1)) (w64 (1000 * v11.1))).To)) (And.intro (And.intro (con_sw 900 900 (spec_l1Place_ok a0 v1 h2)) (rfl : ([900] : List Nat) = [900])) (And.intro (And.intro (con_sw 900 900 (spec_l1Place_ok v1.2 v3 h4)) (rfl : ([900] : List Nat) = [900])) (And.intro (And.intro (con_sw 900 900 (spec_l1Below_ok v3.2 48 v5 h6)) (rfl : ([900] : List Nat) = [900])) (And.intro (And.intro (con_sw 900 900 (spec_l1Below_ok v5.2 40 v7 h8)) (rfl : ([900] : List Nat) = [900])) (And.intro (And.intro (con_sw 900 900 (spec_l1Below_ok v7.2 127 v9 h10)) (rfl : ([900] : List Nat) = [900])) (And.intro (And.intro (con_sw 900 900 (spec_l1Below_ok v9.2 60 v11 h12)) (rfl : ([900] : List Nat) = [900])) True.intro)))))) (by kernel_rfl) ?_
  refine lq (spec_l3Leg_L1_S v1 v3 v5 v7 v9 v11) (body := spec_l3Leg_L1) (k := spec_l3Leg_L1_k v1 v3 v5 v7 v9 v11) hM fun m1 s c1 hM hK1 => ?_
  obtain ⟨s13, s14, s15, s16, s17⟩ := s
  have hM : spec_l3Leg_L1_b s13 s14 s15 s16 s17 = some c1 := hM
  unfold spec_l3Leg_L1_b at hM
  rcases cond_cases hM with ⟨h32, hM⟩ | ⟨h32, hM⟩
  · obtain ⟨v33, h34, hM⟩ := bind_some hM
    rcases cond_cases hM with ⟨h35, hM⟩ | ⟨h35, hM⟩
    · have hE : some (Ctl.next (v33.2.b, v33.2.i, v33.2.h, (ByteArray.mk #[68, 85, 66]), v33.1)) = some c1 := hM
      have hE := Option.some.inj hE
      subst hE
      exact pc R 9999 [.as 26 true, .new 3, .ad (.keep [0, 2, 3, 22, 23, 24, 25, 26, 27, 28] [900, 3, 0, 1]), .call true [900, 3] (.o (.c (.v (.string v33.1)))) [(900, .box 119 [.rs 1 (v33.2.b.map encU8), .v (.int .i64 v33.2.i), .v (.int .i64 v33.2.h)]), (3, .row 9 1 (([(ByteArray.mk #[65, 77, 83]), (ByteArray.mk #[66, 82, 85]), (ByteArray.mk #[67, 68, 71])] : List ByteArray).map encS))] [], .as 35 true] [.keep [0, 2, 3] [900, 0, 1]] (And.intro h32 (And.intro (And.intro (con_sw 901 3 (con_sw 900 900 (spec_l1Str_ok (l1Cur.mk s13 s14 s15) ([(ByteArray.mk #[65, 77, 83]), (ByteArray.mk #[66, 82, 85]), (ByteArray.mk #[67, 68, 71])] : List ByteArray) v33 h34))) (rfl : ([900, 3] : List Nat) = [900, 3])) (And.intro h35 True.intro))) (by kernel_rfl) (li (Sf := spec_l3Leg_L1_S v1 v3 v5 v7 v9 v11) (M := Mk (spec_l3Leg_L1) (spec_l3Leg_L1_k v1 v3 v5 v7 v9 v11) r) (k := [.blk 0, .code (cAt Try.f80 [1, 1, 1])]) (Nat.lt_succ_self m1) hK1)
    · have hE : some (Ctl.next (v33.2.b, v33.2.i, v33.2.h, s16, v33.1)) = some c1 := hM
      have hE := Option.some.inj hE
      subst hE
      exact pc R 9999 [.as 26 true, .new 3, .ad (.keep [0, 2, 3, 22, 23, 24, 25, 26, 27, 28] [900, 3, 0, 1]), .call true [900, 3] (.o (.c (.v (.string v33.1)))) [(900, .box 119 [.rs 1 (v33.2.b.map encU8), .v (.int .i64 v33.2.i), .v (.int .i64 v33.2.h)]), (3, .row 9 1 (([(ByteArray.mk #[65, 77, 83]), (ByteArray.mk #[66, 82, 85]), (ByteArray.mk #[67, 68, 71])] : List ByteArray).map encS))] [], .as 35 false] [.keep [0, 2, 3] [900, 0, 1]] (And.intro h32 (And.intro (And.intro (con_sw 901 3 (con_sw 900 900 (spec_l1Str_ok (l1Cur.mk s13 s14 s15) ([(ByteArray.mk #[65, 77, 83]), (ByteArray.mk #[66, 82, 85]), (ByteArray.mk #[67, 68, 71])] : List ByteArray) v33 h34))) (rfl : ([900, 3] : List Nat) = [900, 3])) (And.intro h35 True.intro))) (by kernel_rfl) (li (Sf := spec_l3Leg_L1_S v1 v3 v5 v7 v9 v11) (M := Mk (spec_l3Leg_L1) (spec_l3Leg_L1_k v1 v3 v5 v7 v9 v11) r) (k := [.blk 0, .code (cAt Try.f80 [1, 1, 1])]) (Nat.lt_succ_self m1) hK1)
  · have hE : some (Ctl.brk (s13, s14, s15, s16, s17)) = some c1 := hM
    have hE := Option.some.inj hE
    subst hE
    exact pc R 5 [.as 26 false] [.keep [0, 2, 3] [900, 0, 1]] (And.intro h32 True.intro) (by kernel_rfl) (K1 s13 s14 s15 s16 s17 hK1)

-- loop.example/g03014/spec.l3Draw
def spec_l3Draw_x4 (a1 : Int) (v1 : (Int × l1Cur)) (s9 : Int) (v22 : (Leg × l1Cur)) (v24 : (List Leg)) (v30 : Leg) (v32 : Leg) (v34 : (Int × l1Cur)) : St := ⟨[(0, .o (.c (.ptr 900 0))), (1, .o (.c (.v (.int .i64 a1)))), (4, .o (.c (.ptr 0 0))), (5, .o (.c (.ptr 1 0))), (6, .o (.c (.v (.int .i64 s9)))), (7, .o (.c (.ptr 4 0)))], [(900, .box 119 [.rs 1 (v34.2.b.map encU8), .v (.int .i64 v34.2.i), .v (.int .i64 v34.2.h)]), (0, .box 36 [.v (.slice none 0 0), .v (.slice none 0 0), .v (.int .i64 0)]), (1, .box 36 [.sl 6, .v (.slice none 0 0), .v (.int .i64 (w64 (15 * v1.1)))]), (6, .row 95 6 (v24.map Leg.enc)), (4, .box 95 [.v (.string v30.To), .v (.string v32.From), .v (.int .i64 (Int.tmod (w64 (v22.1.Start + (w64 (60 * v34.1)))) 1440)), .v (.int .i64 v22.1.Takes), .v (.int .i64 v22.1.Days), .v (.int .i64 v22.1.Room)])]⟩
def spec_l3Draw_L1_b (a1 : Int) (s5 : (List Int)) (s6 : Int) (s7 : Int) (s8 : (List Leg)) (s9 : Int) : Option (Ctl ((List Int) × Int × Int × (List Leg) × Int) ((List Int) × Int × Int × (List Leg)) (Network × l1Cur)) :=
  bif (decide (s9 > 0)) then
  (spec_l3Leg (l1Cur.mk s5 s6 s7)).bind fun v22 =>
  (ap 64 s8 ([v22.1] : List Leg)).bind fun v24 =>
  (spec_l1Once v22.2 3).bind fun v26 =>
  bif v26.1 then
  bif (decide ((v24.length : Int) < a1)) then
  (gi v24 (w64 ((v24.length : Int) - 1))).bind fun v30 =>
  (gi v24 (w64 ((v24.length : Int) - 1))).bind fun v32 =>
  (spec_l1Below v26.2 20).bind fun v34 =>
  (ap 64 v24 ([(Leg.mk v30.To v32.From (Int.tmod (w64 (v22.1.Start + (w64 (60 * v34.1)))) 1440) v22.1.Takes v22.1.Days v22.1.Room)] : List Leg)).bind fun v36 =>
  some (.next (v34.2.b, v34.2.i, v34.2.h, v36, w64 (s9 - 1)))
  else
  some (.next (v26.2.b, v26.2.i, v26.2.h, v24, w64 (s9 - 1)))
  else
  some (.next (v26.2.b, v26.2.i, v26.2.h, v24, w64 (s9 - 1)))
  else
  some (.brk (s5, s6, s7, s8))
def spec_l3Draw_L1 (a1 : Int) (s : (List Int) × Int × Int × (List Leg) × Int) : Option (Ctl ((List Int) × Int × Int × (List Leg) × Int) ((List Int) × Int × Int × (List Leg)) (Network × l1Cur)) := spec_l3Draw_L1_b a1 s.1 s.2.1 s.2.2.1 s.2.2.2.1 s.2.2.2.2
def spec_l3Draw_L1_s (a1 : Int) (v1 : (Int × l1Cur)) (s5 : (List Int)) (s6 : Int) (s7 : Int) (s8 : (List Leg)) (s9 : Int) : St := ⟨[(0, .o (.c (.ptr 900 0))), (1, .o (.c (.v (.int .i64 a1)))), (4, .o (.c (.ptr 0 0))), (5, .o (.c (.ptr 1 0))), (6, .o (.c (.v (.int .i64 s9))))], [(900, .box 119 [.rs 1 (s5.map encU8), .v (.int .i64 s6), .v (.int .i64 s7)]), (0, .box 36 [.v (.slice none 0 0), .v (.slice none 0 0), .v (.int .i64 0)]), (1, .box 36 [.sl 2, .v (.slice none 0 0), .v (.int .i64 (w64 (15 * v1.1)))]), (2, .row 95 6 (s8.map Leg.enc))]⟩
def spec_l3Draw_L1_S (a1 : Int) (v1 : (Int × l1Cur)) (s : (List Int) × Int × Int × (List Leg) × Int) : St := spec_l3Draw_L1_s a1 v1 s.1 s.2.1 s.2.2.1 s.2.2.2.1 s.2.2.2.2
def spec_l3Draw_L1_a (v1 : (Int × l1Cur)) (s10 : (List Int)) (s11 : Int) (s12 : Int) (s13 : (List Leg)) : Option (Network × l1Cur) :=
  (spec_l1Once (l1Cur.mk s10 s11 s12) 2).bind fun v14 =>
  bif v14.1 then
  (spec_l1Below v14.2 3).bind fun v17 =>
  (spec_l1Below v17.2 4).bind fun v19 =>
  some ((Network.mk s13 ([v17.1, w64 (3 + v19.1)] : List Int) (w64 (15 * v1.1))), v19.2)
  else
  some ((Network.mk s13 ([] : List Int) (w64 (15 * v1.1))), v14.2)
def spec_l3Draw_L1_k (v1 : (Int × l1Cur)) (x : ((List Int) × Int × Int × (List Leg)) ⊕ (Network × l1Cur)) : Option (Network × l1Cur) := match x with
  | .inl t => spec_l3Draw_L1_a v1 t.1 t.2.1 t.2.2.1 t.2.2.2
  | .inr y => some y
def spec_l3Draw (a0 : l1Cur) (a1 : Int) : Option (Network × l1Cur) :=
  (spec_l1Below a0 9).bind fun v1 =>
  (spec_l1Below v1.2 a1).bind fun v3 =>
  (loopM (spec_l3Draw_L1 a1) big (v3.2.b, v3.2.i, v3.2.h, [], w64 (1 + v3.1))).bind (spec_l3Draw_L1_k v1)
theorem spec_l3Draw_ok (a0 : l1Cur) (a1 : Int) (r : Network × l1Cur) (hM : spec_l3Draw a0 a1 = some r) :
    Con Try.prog 50 [.c (.ptr 900 0), .c (.v (.int .i64 a1))] [(900, .box 119 [.rs 1 (a0.b.map encU8), .v (.int .i64 a0.i), .v (.int .i64 a0.h)])] (.o (.agg [.sl 1000, .sl 1001, .v (.int .i64 r.1.Change)])) [(900, .box 119 [.rs 1 (r.2.b.map encU8), .v (.int .i64 r.2.i), .v (.int .i64 r.2.h)])] [(1000, .row 95 6 (r.1.Legs.map Leg.enc)), (1001, .row 3 1 (r.1.Off.map encI))] := by
  unfold spec_l3Draw at hM
  refine cn (N := 81) (pids := [900]) Try_mixed Try.func50 (by kernel_rfl) (by kernel_rfl) (by kernel_rfl) rfl fun ρ g w R => ?_
  obtain ⟨v1, h2, hM⟩ := bind_some hM
  obtain ⟨v3, h4, hM⟩ := bind_some hM
  have K1 : ∀ (s10 : (List Int)) (s11 : Int) (s12 : Int) (s13 : (List Leg)), spec_l3Draw_L1_a v1 s10 s11 s12 s13 = some r → Gr R [.code (cAt Try.f50 [1, 1, 1])] (⟨[(0, .o (.c (.ptr 900 0))), (4, .o (.c (.ptr 0 0))), (5, .o (.c (.ptr 1 0)))], [(900, .box 119 [.rs 1 (s10.map encU8), .v (.int .i64 s11), .v (.int .i64 s12)]), (0, .box 36 [.v (.slice none 0 0), .v (.slice none 0 0), .v (.int .i64 0)]), (1, .box 36 [.sl 2, .v (.slice none 0 0), .v (.int .i64 (w64 (15 * v1.1)))]), (2, .row 95 6 (s13.map Leg.enc))]⟩) := by
    intro s10 s11 s12 s13 hM
    unfold spec_l3Draw_L1_a at hM
    obtain ⟨v14, h15, hM⟩ := bind_some hM
    rcases cond_cases hM with ⟨h16, hM⟩ | ⟨h16, hM⟩
    · obtain ⟨v17, h18, hM⟩ := bind_some hM
      obtain ⟨v19, h20, hM⟩ := bind_some hM
      have hE : some ((Network.mk s13 ([v17.1, w64 (3 + v19.1)] : List Int) (w64 (15 * v1.1))), v19.2) = some r := hM
      have hE := Option.some.inj hE
      subst hE
      exact pr R 9999 [.call true [900] (.o (.c (.v (.bool v14.1)))) [(900, .box 119 [.rs 1 (v14.2.b.map encU8), .v (.int .i64 v14.2.i), .v (.int .i64 v14.2.h)])] [], .as 72 true, .call true [900] (.o (.c (.v (.int .i64 v17.1)))) [(900, .box 119 [.rs 1 (v17.2.b.map encU8), .v (.int .i64 v17.2.i), .v (.int .i64 v17.2.h)])] [], .call true [900] (.o (.c (.v (.int .i64 v19.1)))) [(900, .box 119 [.rs 1 (v19.2.b.map encU8), .v (.int .i64 v19.2.i), .v (.int .i64 v19.2.h)])] [], .new 3] [.sw 2 1000, .sw 3 1001] [900] [1000, 1001] (And.intro (And.intro (con_sw 900 900 (spec_l1Once_ok (l1Cur.mk s10 s11 s12) 2 v14 h15)) (rfl : ([900] : List Nat) = [900])) (And.intro h16 (And.intro (And.intro (con_sw 900 900 (spec_l1Below_ok v14.2 3 v17 h18)) (rfl : ([900] : List Nat) = [900])) (And.intro (And.intro (con_sw 900 900 (spec_l1Below_ok v17.2 4 v19 h20)) (rfl : ([900] : List Nat) = [900])) True.intro)))) (by kernel_rfl)
    · have hE : some ((Network.mk s13 ([] : List Int) (w64 (15 * v1.1))), v14.2) = some r := hM
      have hE := Option.some.inj hE
      subst hE
      exact pr R 9999 [.call true [900] (.o (.c (.v (.bool v14.1)))) [(900, .box 119 [.rs 1 (v14.2.b.map encU8), .v (.int .i64 v14.2.i), .v (.int .i64 v14.2.h)])] [], .as 72 false] [.sw 2 1000, .nb 0 1 1001 3 1] [900] [1000, 1001] (And.intro (And.intro (con_sw 900 900 (spec_l1Once_ok (l1Cur.mk s10 s11 s12) 2 v14 h15)) (rfl : ([900] : List Nat) = [900])) (And.intro h16 True.intro)) (by kernel_rfl)
  refine pc R 9999 [.new 0, .call true [900] (.o (.c (.v (.int .i64 v1.1)))) [(900, .box 119 [.rs 1 (v1.2.b.map encU8), .v (.int .i64 v1.2.i), .v (.int .i64 v1.2.h)])] [], .new 1, .call true [900] (.o (.c (.v (.int .i64 v3.1)))) [(900, .box 119 [.rs 1 (v3.2.b.map encU8), .v (.int .i64 v3.2.i), .v (.int .i64 v3.2.h)])] []] [.nb 1 0 2 95 6, .keep [0, 1, 4, 5, 6] [900, 0, 1, 2]] (k' := [.code (.loop (cAt Try.f50 [1, 1, 0, 1, 0, 0])), .blk 0, .code (cAt Try.f50 [1, 1, 1])]) (S' := spec_l3Draw_L1_S a1 v1 (v3.2.b, v3.2.i, v3.2.h, [], w64 (1 + v3.1))) (And.intro (And.intro (con_sw 900 900 (spec_l1Below_ok a0 9 v1 h2)) (rfl : ([900] : List Nat) = [900])) (And.intro (And.intro (con_sw 900 900 (spec_l1Below_ok v1.2 a1 v3 h4)) (rfl : ([900] : List Nat) = [900])) True.intro)) (by kernel_rfl) ?_
  refine lq (spec_l3Draw_L1_S a1 v1) (body := spec_l3Draw_L1 a1) (k := spec_l3Draw_L1_k v1) hM fun m1 s c1 hM hK1 => ?_
  obtain ⟨s5, s6, s7, s8, s9⟩ := s
  have hM : spec_l3Draw_L1_b a1 s5 s6 s7 s8 s9 = some c1 := hM
  unfold spec_l3Draw_L1_b at hM
  rcases cond_cases hM with ⟨h21, hM⟩ | ⟨h21, hM⟩
  · obtain ⟨v22, h23, hM⟩ := bind_some hM
    obtain ⟨v24, h25, hM⟩ := bind_some hM
    obtain ⟨v26, h27, hM⟩ := bind_some hM
    rcases cond_cases hM with ⟨h28, hM⟩ | ⟨h28, hM⟩
    · rcases cond_cases hM with ⟨h29, hM⟩ | ⟨h29, hM⟩
      · obtain ⟨v30, h31, hM⟩ := bind_some hM
        obtain ⟨v32, h33, hM⟩ := bind_some hM
        obtain ⟨v34, h35, hM⟩ := bind_some hM
        obtain ⟨v36, h37, hM⟩ := bind_some hM
        have hE : some (Ctl.next (v34.2.b, v34.2.i, v34.2.h, v36, w64 (s9 - 1))) = some c1 := hM
        have hE := Option.some.inj hE
        subst hE
        exact pc R 9999 [.as 17 true, .call true [900] (.o (.c (.v (.agg (Leg.enc v22.1).toArray)))) [(900, .box 119 [.rs 1 (v22.2.b.map encU8), .v (.int .i64 v22.2.i), .v (.int .i64 v22.2.h)])] [], .new 4, .new 5, .new 6, .nm (v24.map Leg.enc), .call true [900] (.o (.c (.v (.bool v26.1)))) [(900, .box 119 [.rs 1 (v26.2.b.map encU8), .v (.int .i64 v26.2.i), .v (.int .i64 v26.2.h)])] [], .as 30 true, .ln (v24.length), .as 36 true, .ln (v24.length), .ix (Leg.enc v30), .ln (v24.length), .ix (Leg.enc v32), .xo [[], [], [], [.call true [900] (.o (.c (.v (.int .i64 v34.1)))) [(900, .box 119 [.rs 1 (v34.2.b.map encU8), .v (.int .i64 v34.2.i), .v (.int .i64 v34.2.h)])] []], [], [], [], [], []] [.keep [0, 1, 4, 5, 6, 7] [900, 0, 1, 6, 4]] (spec_l3Draw_x4 a1 v1 s9 v22 v24 v30 v32 v34), .new 7, .new 8, .nm (v36.map Leg.enc)] [.sw 8 2, .keep [0, 1, 4, 5, 6] [900, 0, 1, 2]] (And.intro h21 (And.intro (And.intro (con_sw 900 900 (spec_l3Leg_ok (l1Cur.mk s5 s6 s7) v22 h23)) (rfl : ([900] : List Nat) = [900])) (And.intro (ap_ok Leg.enc h25) (And.intro (And.intro (con_sw 900 900 (spec_l1Once_ok v22.2 3 v26 h27)) (rfl : ([900] : List Nat) = [900])) (And.intro h28 (And.intro (lenm Leg.enc v24) (And.intro h29 (And.intro (lenm Leg.enc v24) (And.intro (gi_lt Leg.enc h31) (And.intro ((gi_map Leg.enc h31).2) (And.intro (lenm Leg.enc v24) (And.intro (gi_lt Leg.enc h33) (And.intro ((gi_map Leg.enc h33).2) (And.intro (And.intro (con_sw 900 900 (spec_l1Below_ok v26.2 20 v34 h35)) (rfl : ([900] : List Nat) = [900])) (And.intro (rfl : (spec_l3Draw_x4 a1 v1 s9 v22 v24 v30 v32 v34) = (spec_l3Draw_x4 a1 v1 s9 v22 v24 v30 v32 v34)) (And.intro (And.intro (con_sw 900 900 (spec_l1Below_ok v26.2 20 v34 h35)) (rfl : ([900] : List Nat) = [900])) (And.intro (rfl : (spec_l3Draw_x4 a1 v1 s9 v22 v24 v30 v32 v34) = (spec_l3Draw_x4 a1 v1 s9 v22 v24 v30 v32 v34)) (And.intro (ap_ok Leg.enc h37) True.intro)))))))))))))))))) (by kernel_rfl) (li (Sf := spec_l3Draw_L1_S a1 v1) (M := Mk (spec_l3Draw_L1 a1) (spec_l3Draw_L1_k v1) r) (k := [.blk 0, .code (cAt Try.f50 [1, 1, 1])]) (Nat.lt_succ_self m1) hK1)
      · have hE : some (Ctl.next (v26.2.b, v26.2.i, v26.2.h, v24, w64 (s9 - 1))) = some c1 := hM
        have hE := Option.some.inj hE
        subst hE
        exact pc R 9999 [.as 17 true, .call true [900] (.o (.c (.v (.agg (Leg.enc v22.1).toArray)))) [(900, .box 119 [.rs 1 (v22.2.b.map encU8), .v (.int .i64 v22.2.i), .v (.int .i64 v22.2.h)])] [], .new 4, .new 5, .new 6, .nm (v24.map Leg.enc), .call true [900] (.o (.c (.v (.bool v26.1)))) [(900, .box 119 [.rs 1 (v26.2.b.map encU8), .v (.int .i64 v26.2.i), .v (.int .i64 v26.2.h)])] [], .as 30 true, .ln (v24.length), .as 36 false] [.sw 6 2, .keep [0, 1, 4, 5, 6] [900, 0, 1, 2]] (And.intro h21 (And.intro (And.intro (con_sw 900 900 (spec_l3Leg_ok (l1Cur.mk s5 s6 s7) v22 h23)) (rfl : ([900] : List Nat) = [900])) (And.intro (ap_ok Leg.enc h25) (And.intro (And.intro (con_sw 900 900 (spec_l1Once_ok v22.2 3 v26 h27)) (rfl : ([900] : List Nat) = [900])) (And.intro h28 (And.intro (lenm Leg.enc v24) (And.intro h29 True.intro))))))) (by kernel_rfl) (li (Sf := spec_l3Draw_L1_S a1 v1) (M := Mk (spec_l3Draw_L1 a1) (spec_l3Draw_L1_k v1) r) (k := [.blk 0, .code (cAt Try.f50 [1, 1, 1])]) (Nat.lt_succ_self m1) hK1)
    · have hE : some (Ctl.next (v26.2.b, v26.2.i, v26.2.h, v24, w64 (s9 - 1))) = some c1 := hM
      have hE := Option.some.inj hE
      subst hE
      exact pc R 9999 [.as 17 true, .call true [900] (.o (.c (.v (.agg (Leg.enc v22.1).toArray)))) [(900, .box 119 [.rs 1 (v22.2.b.map encU8), .v (.int .i64 v22.2.i), .v (.int .i64 v22.2.h)])] [], .new 4, .new 5, .new 6, .nm (v24.map Leg.enc), .call true [900] (.o (.c (.v (.bool v26.1)))) [(900, .box 119 [.rs 1 (v26.2.b.map encU8), .v (.int .i64 v26.2.i), .v (.int .i64 v26.2.h)])] [], .as 30 false] [.sw 6 2, .keep [0, 1, 4, 5, 6] [900, 0, 1, 2]] (And.intro h21 (And.intro (And.intro (con_sw 900 900 (spec_l3Leg_ok (l1Cur.mk s5 s6 s7) v22 h23)) (rfl : ([900] : List Nat) = [900])) (And.intro (ap_ok Leg.enc h25) (And.intro (And.intro (con_sw 900 900 (spec_l1Once_ok v22.2 3 v26 h27)) (rfl : ([900] : List Nat) = [900])) (And.intro h28 True.intro))))) (by kernel_rfl) (li (Sf := spec_l3Draw_L1_S a1 v1) (M := Mk (spec_l3Draw_L1 a1) (spec_l3Draw_L1_k v1) r) (k := [.blk 0, .code (cAt Try.f50 [1, 1, 1])]) (Nat.lt_succ_self m1) hK1)
  · have hE : some (Ctl.brk (s5, s6, s7, s8)) = some c1 := hM
    have hE := Option.some.inj hE
    subst hE
    exact pc R 5 [.as 17 false] [.keep [0, 4, 5] [900, 0, 1, 2]] (And.intro h21 True.intro) (by kernel_rfl) (K1 s5 s6 s7 s8 hK1)

-- loop.example/g03014/spec.PlacesOf
def spec_PlacesOf_x7 (a0 : Network) (s2 : Int) (v19 : (List ByteArray)) : St := ⟨[(1, .o (.c (.ptr 0 0))), (3, .o (.c (.sl 6))), (4, .o (.c (.v (.int .i64 s2))))], [(0, .box 36 [.rs 6 (a0.Legs.map Leg.enc), .rs 1 (a0.Off.map encI), .v (.int .i64 a0.Change)]), (6, .row 9 1 (v19.map encS))]⟩
def spec_PlacesOf_x8 (a0 : Network) (s2 : Int) (v32 : (List ByteArray)) : St := ⟨[(1, .o (.c (.ptr 0 0))), (3, .o (.c (.sl 11))), (4, .o (.c (.v (.int .i64 s2))))], [(0, .box 36 [.rs 6 (a0.Legs.map Leg.enc), .rs 1 (a0.Off.map encI), .v (.int .i64 a0.Change)]), (11, .row 9 1 (v32.map encS))]⟩
def spec_PlacesOf_L2_b (s1 : (List ByteArray)) (s7 : ByteArray) (s8 : Int) : Option (Ctl Int Int (List ByteArray)) :=
  bif (decide (s8 < (s1.length : Int))) then
  (gi s1 s8).bind fun v35 =>
  bif (Op.bytesLess v35.toList s7.toList) then
  some (.next (w64 (s8 + 1)))
  else
  some (.brk s8)
  else
  some (.brk s8)
def spec_PlacesOf_L2 (s1 : (List ByteArray)) (s7 : ByteArray) (s : Int) : Option (Ctl Int Int (List ByteArray)) := spec_PlacesOf_L2_b s1 s7 s
def spec_PlacesOf_L2_s (a0 : Network) (s1 : (List ByteArray)) (s2 : Int) (s7 : ByteArray) (s8 : Int) : St := ⟨[(1, .o (.c (.ptr 0 0))), (3, .o (.c (.sl 1))), (4, .o (.c (.v (.int .i64 s2)))), (5, .o (.c (.v (.string s7)))), (6, .o (.c (.v (.int .i64 s8))))], [(0, .box 36 [.rs 6 (a0.Legs.map Leg.enc), .rs 1 (a0.Off.map encI), .v (.int .i64 a0.Change)]), (1, .row 9 1 (s1.map encS))]⟩
def spec_PlacesOf_L2_S (a0 : Network) (s1 : (List ByteArray)) (s2 : Int) (s7 : ByteArray) (s : Int) : St := spec_PlacesOf_L2_s a0 s1 s2 s7 s
def spec_PlacesOf_L2_a (s1 : (List ByteArray)) (s2 : Int) (s7 : ByteArray) (s9 : Int) : Option (Ctl ((List ByteArray) × Int) (List ByteArray) (List ByteArray)) :=
  bif (s9 == (s1.length : Int)) then
  (slM s1 0 s9).bind fun v11 =>
  (ap 16 ([] : List ByteArray) v11).bind fun v13 =>
  (ap 16 v13 ([s7] : List ByteArray)).bind fun v15 =>
  (slM s1 s9 s1.length).bind fun v17 =>
  (ap 16 v15 v17).bind fun v19 =>
  some (.next (v19, w64 (s2 + 1)))
  else
  (gi s1 s9).bind fun v21 =>
  bif (!(v21.toList == s7.toList)) then
  (slM s1 0 s9).bind fun v24 =>
  (ap 16 ([] : List ByteArray) v24).bind fun v26 =>
  (ap 16 v26 ([s7] : List ByteArray)).bind fun v28 =>
  (slM s1 s9 s1.length).bind fun v30 =>
  (ap 16 v28 v30).bind fun v32 =>
  some (.next (v32, w64 (s2 + 1)))
  else
  some (.next (s1, w64 (s2 + 1)))
def spec_PlacesOf_L2_k (s1 : (List ByteArray)) (s2 : Int) (s7 : ByteArray) (x : (Int) ⊕ ((List ByteArray))) : Option (Ctl ((List ByteArray) × Int) (List ByteArray) (List ByteArray)) := match x with
  | .inl t => spec_PlacesOf_L2_a s1 s2 s7 t
  | .inr y => some (.ret y)
def spec_PlacesOf_j1 (s1 : (List ByteArray)) (s2 : Int) (s7 : ByteArray) : Option (Ctl ((List ByteArray) × Int) (List ByteArray) (List ByteArray)) :=
  (loopM (spec_PlacesOf_L2 s1 s7) big 0).bind (spec_PlacesOf_L2_k s1 s2 s7)
def spec_PlacesOf_L1_b (a0 : Network) (s1 : (List ByteArray)) (s2 : Int) : Option (Ctl ((List ByteArray) × Int) (List ByteArray) (List ByteArray)) :=
  bif (decide (s2 < (w64 (2 * (a0.Legs.length : Int))))) then
  (gi a0.Legs (w64 (Int.tdiv s2 2))).bind fun v5 =>
  bif ((Int.tmod s2 2) == 1) then
  (gi a0.Legs (w64 (Int.tdiv s2 2))).bind fun v39 =>
  spec_PlacesOf_j1 s1 s2 v39.To
  else
  spec_PlacesOf_j1 s1 s2 v5.From
  else
  some (.brk s1)
def spec_PlacesOf_L1 (a0 : Network) (s : (List ByteArray) × Int) : Option (Ctl ((List ByteArray) × Int) (List ByteArray) (List ByteArray)) := spec_PlacesOf_L1_b a0 s.1 s.2
def spec_PlacesOf_L1_s (a0 : Network) (s1 : (List ByteArray)) (s2 : Int) : St := ⟨[(1, .o (.c (.ptr 0 0))), (3, .o (.c (.sl 1))), (4, .o (.c (.v (.int .i64 s2))))], [(0, .box 36 [.rs 6 (a0.Legs.map Leg.enc), .rs 1 (a0.Off.map encI), .v (.int .i64 a0.Change)]), (1, .row 9 1 (s1.map encS))]⟩
def spec_PlacesOf_L1_S (a0 : Network) (s : (List ByteArray) × Int) : St := spec_PlacesOf_L1_s a0 s.1 s.2
def spec_PlacesOf_L1_a (s3 : (List ByteArray)) : Option (List ByteArray) :=
  some s3
def spec_PlacesOf_L1_k (x : ((List ByteArray)) ⊕ ((List ByteArray))) : Option (List ByteArray) := match x with
  | .inl t => spec_PlacesOf_L1_a t
  | .inr y => some y
def spec_PlacesOf (a0 : Network) : Option (List ByteArray) :=
  (loopM (spec_PlacesOf_L1 a0) big (([] : List ByteArray), 0)).bind (spec_PlacesOf_L1_k)
theorem spec_PlacesOf_ok (a0 : Network) (r : (List ByteArray)) (hM : spec_PlacesOf a0 = some r) :
    Con Try.prog 84 [.agg [.rs 6 (a0.Legs.map Leg.enc), .rs 1 (a0.Off.map encI), .v (.int .i64 a0.Change)]] [] (.o (.c (.sl 1000))) [] [(1000, .row 9 1 (r.map encS))] := by
  unfold spec_PlacesOf at hM
  refine cn (N := 72) (pids := []) Try_mixed Try.func84 (by kernel_rfl) (by kernel_rfl) (by kernel_rfl) rfl fun ρ g w R => ?_
  have K1 : ∀ (s3 : (List ByteArray)), spec_PlacesOf_L1_a s3 = some r → Gr R [.code (cAt Try.f84 [1, 1, 1])] (⟨[(3, .o (.c (.sl 1)))], [(1, .row 9 1 (s3.map encS))]⟩) := by
    intro s3 hM
    unfold spec_PlacesOf_L1_a at hM
    have hE : some s3 = some r := hM
    have hE := Option.some.inj hE
    subst hE
    exact pr R 9999 [] [.sw 1 1000] [] [1000] True.intro (by kernel_rfl)
  refine pc R 9999 [.new 0, .new 1] [.keep [1, 3, 4] [0, 1]] (k' := [.code (.loop (cAt Try.f84 [1, 1, 0, 1, 0, 0])), .blk 0, .code (cAt Try.f84 [1, 1, 1])]) (S' := spec_PlacesOf_L1_S a0 (([] : List ByteArray), 0)) True.intro (by kernel_rfl) ?_
  refine lq (spec_PlacesOf_L1_S a0) (body := spec_PlacesOf_L1 a0) (k := spec_PlacesOf_L1_k) hM fun m1 s c1 hM hK1 => ?_
  obtain ⟨s1, s2⟩ := s
  have hM : spec_PlacesOf_L1_b a0 s1 s2 = some c1 := hM
  unfold spec_PlacesOf_L1_b at hM
  rcases cond_cases hM with ⟨h4, hM⟩ | ⟨h4, hM⟩
  · obtain ⟨v5, h6, hM⟩ := bind_some hM
    have J1 : ∀ (s7 : ByteArray), spec_PlacesOf_j1 s1 s2 s7 = some c1 → Gr R [.code (cAt Try.f84 [1, 1, 0, 1, 0, 0, 1, 0, 0, 1, 1]), .blk 1, .code (cAt Try.f84 [1, 1, 0, 1, 0, 0, 1, 1]), .inv (Jr R (spec_PlacesOf_L1_S a0) (Mk (spec_PlacesOf_L1 a0) (spec_PlacesOf_L1_k) r) (m1 + 1)), .blk 0, .code (cAt Try.f84 [1, 1, 1])] (⟨[(1, .o (.c (.ptr 0 0))), (3, .o (.c (.sl 1))), (4, .o (.c (.v (.int .i64 s2)))), (5, .o (.c (.v (.string s7))))], [(0, .box 36 [.rs 6 (a0.Legs.map Leg.enc), .rs 1 (a0.Off.map encI), .v (.int .i64 a0.Change)]), (1, .row 9 1 (s1.map encS))]⟩) := by
      intro s7 hM
      unfold spec_PlacesOf_j1 at hM
      have K2 : ∀ (s9 : Int), spec_PlacesOf_L2_a s1 s2 s7 s9 = some c1 → Gr R [.code (cAt Try.f84 [1, 1, 0, 1, 0, 0, 1, 0, 0, 1, 1, 1, 1]), .blk 1, .code (cAt Try.f84 [1, 1, 0, 1, 0, 0, 1, 1]), .inv (Jr R (spec_PlacesOf_L1_S a0) (Mk (spec_PlacesOf_L1 a0) (spec_PlacesOf_L1_k) r) (m1 + 1)), .blk 0, .code (cAt Try.f84 [1, 1, 1])] (⟨[(1, .o (.c (.ptr 0 0))), (3, .o (.c (.sl 1))), (4, .o (.c (.v (.int .i64 s2)))), (5, .o (.c (.v (.string s7)))), (6, .o (.c (.v (.int .i64 s9))))], [(0, .box 36 [.rs 6 (a0.Legs.map Leg.enc), .rs 1 (a0.Off.map encI), .v (.int .i64 a0.Change)]), (1, .row 9 1 (s1.map encS))]⟩) := by
        intro s9 hM
        unfold spec_PlacesOf_L2_a at hM
        rcases cond_cases hM with ⟨h10, hM⟩ | ⟨h10, hM⟩
        · obtain ⟨v11, h12, hM⟩ := bind_some hM
          obtain ⟨v13, h14, hM⟩ := bind_some hM
          obtain ⟨v15, h16, hM⟩ := bind_some hM
          obtain ⟨v17, h18, hM⟩ := bind_some hM
          obtain ⟨v19, h20, hM⟩ := bind_some hM
          have hE : some (Ctl.next (v19, w64 (s2 + 1))) = some c1 := hM
          have hE := Option.some.inj hE
          subst hE
          exact pc R 9999 [.ln (s1.length), .as 51 true, .xo [[.new 2], [], [], [.ad (.fz 1), .nm (v11.map encS)], [.new 3, .nm (v13.map encS)], [], [.new 4], [.new 5, .nm (v15.map encS)], [], [], [.nm (v17.map encS)], [.new 6, .nm (v19.map encS)], []] [.keep [1, 3, 4] [0, 6]] (spec_PlacesOf_x7 a0 s2 v19)] [.sw 6 1, .keep [1, 3, 4] [0, 1]] (And.intro (lenm encS s1) (And.intro h10 (And.intro (slM_ok encS h12) (And.intro (slM_okL encS h18) (And.intro (ap_ok encS h14) (And.intro (ap_ok encS h16) (And.intro (ap_ok encS h20) (And.intro (rfl : (spec_PlacesOf_x7 a0 s2 v19) = (spec_PlacesOf_x7 a0 s2 v19)) (And.intro (ap_ok encS h14) (And.intro (ap_ok encS h16) (And.intro (ap_ok encS h20) (And.intro (rfl : (spec_PlacesOf_x7 a0 s2 v19) = (spec_PlacesOf_x7 a0 s2 v19)) (And.intro (ap_ok encS h14) (And.intro (ap_ok encS h16) (And.intro (ap_ok encS h20) (And.intro (rfl : (spec_PlacesOf_x7 a0 s2 v19) = (spec_PlacesOf_x7 a0 s2 v19)) True.intro)))))))))))))))) (by kernel_rfl) (li (Sf := spec_PlacesOf_L1_S a0) (M := Mk (spec_PlacesOf_L1 a0) (spec_PlacesOf_L1_k) r) (k := [.blk 0, .code (cAt Try.f84 [1, 1, 1])]) (Nat.lt_succ_self m1) hK1)
        · obtain ⟨v21, h22, hM⟩ := bind_some hM
          rcases cond_cases hM with ⟨h23, hM⟩ | ⟨h23, hM⟩
          · obtain ⟨v24, h25, hM⟩ := bind_some hM
            obtain ⟨v26, h27, hM⟩ := bind_some hM
            obtain ⟨v28, h29, hM⟩ := bind_some hM
            obtain ⟨v30, h31, hM⟩ := bind_some hM
            obtain ⟨v32, h33, hM⟩ := bind_some hM
            have hE : some (Ctl.next (v32, w64 (s2 + 1))) = some c1 := hM
            have hE := Option.some.inj hE
            subst hE
            exact pc R 9999 [.ln (s1.length), .as 51 false, .ix (encS v21), .as 58 true, .xo [[.new 7], [], [], [.ad (.fz 1), .nm (v24.map encS)], [.new 8, .nm (v26.map encS)], [], [.new 9], [.new 10, .nm (v28.map encS)], [], [], [.nm (v30.map encS)], [.new 11, .nm (v32.map encS)], []] [.keep [1, 3, 4] [0, 11]] (spec_PlacesOf_x8 a0 s2 v32)] [.sw 11 1, .keep [1, 3, 4] [0, 1]] (And.intro (lenm encS s1) (And.intro h10 (And.intro (gi_lt encS h22) (And.intro ((gi_map encS h22).2) (And.intro h23 (And.intro (slM_ok encS h25) (And.intro (slM_okL encS h31) (And.intro (ap_ok encS h27) (And.intro (ap_ok encS h29) (And.intro (ap_ok encS h33) (And.intro (rfl : (spec_PlacesOf_x8 a0 s2 v32) = (spec_PlacesOf_x8 a0 s2 v32)) (And.intro (ap_ok encS h27) (And.intro (ap_ok encS h29) (And.intro (ap_ok encS h33) (And.intro (rfl : (spec_PlacesOf_x8 a0 s2 v32) = (spec_PlacesOf_x8 a0 s2 v32)) (And.intro (ap_ok encS h27) (And.intro (ap_ok encS h29) (And.intro (ap_ok encS h33) (And.intro (rfl : (spec_PlacesOf_x8 a0 s2 v32) = (spec_PlacesOf_x8 a0 s2 v32)) True.intro))))))))))))))))))) (by kernel_rfl) (li (Sf := spec_PlacesOf_L1_S a0) (M := Mk (spec_PlacesOf_L1 a0) (spec_PlacesOf_L1_k) r) (k := [.blk 0, .code (cAt Try.f84 [1, 1, 1])]) (Nat.lt_succ_self m1) hK1)
          · have hE : some (Ctl.next (s1, w64 (s2 + 1))) = some c1 := hM
            have hE := Option.some.inj hE
            subst hE
            exact pc R 9999 [.ln (s1.length), .as 51 false, .ix (encS v21), .as 58 false] [.keep [1, 3, 4] [0, 1]] (And.intro (lenm encS s1) (And.intro h10 (And.intro (gi_lt encS h22) (And.intro ((gi_map encS h22).2) (And.intro h23 True.intro))))) (by kernel_rfl) (li (Sf := spec_PlacesOf_L1_S a0) (M := Mk (spec_PlacesOf_L1 a0) (spec_PlacesOf_L1_k) r) (k := [.blk 0, .code (cAt Try.f84 [1, 1, 1])]) (Nat.lt_succ_self m1) hK1)
      refine pc R 9999 [] [.keep [1, 3, 4, 5, 6] [0, 1]] (k' := [.code (.loop (cAt Try.f84 [1, 1, 0, 1, 0, 0, 1, 0, 0, 1, 1, 1, 0, 0, 0])), .blk 2, .code (cAt Try.f84 [1, 1, 0, 1, 0, 0, 1, 0, 0, 1, 1, 1, 1]), .blk 1, .code (cAt Try.f84 [1, 1, 0, 1, 0, 0, 1, 1]), .inv (Jr R (spec_PlacesOf_L1_S a0) (Mk (spec_PlacesOf_L1 a0) (spec_PlacesOf_L1_k) r) (m1 + 1)), .blk 0, .code (cAt Try.f84 [1, 1, 1])]) (S' := spec_PlacesOf_L2_S a0 s1 s2 s7 0) True.intro (by kernel_rfl) ?_
      refine lq (spec_PlacesOf_L2_S a0 s1 s2 s7) (body := spec_PlacesOf_L2 s1 s7) (k := spec_PlacesOf_L2_k s1 s2 s7) hM fun m2 s c2 hM hK2 => ?_
      obtain ⟨s8, hs⟩ : ∃ z, z = s := ⟨_, rfl⟩
      subst hs
      have hM : spec_PlacesOf_L2_b s1 s7 s8 = some c2 := hM
      unfold spec_PlacesOf_L2_b at hM
      rcases cond_cases hM with ⟨h34, hM⟩ | ⟨h34, hM⟩
      · obtain ⟨v35, h36, hM⟩ := bind_some hM
        rcases cond_cases hM with ⟨h37, hM⟩ | ⟨h37, hM⟩
        · have hE : some (Ctl.next (w64 (s8 + 1))) = some c2 := hM
          have hE := Option.some.inj hE
          subst hE
          exact pc R 9999 [.ln (s1.length), .as 37 true, .ix (encS v35), .as 44 true] [.keep [1, 3, 4, 5, 6] [0, 1]] (And.intro (lenm encS s1) (And.intro h34 (And.intro (gi_lt encS h36) (And.intro ((gi_map encS h36).2) (And.intro h37 True.intro))))) (by kernel_rfl) (li (Sf := spec_PlacesOf_L2_S a0 s1 s2 s7) (M := Mk (spec_PlacesOf_L2 s1 s7) (spec_PlacesOf_L2_k s1 s2 s7) c1) (k := [.blk 2, .code (cAt Try.f84 [1, 1, 0, 1, 0, 0, 1, 0, 0, 1, 1, 1, 1]), .blk 1, .code (cAt Try.f84 [1, 1, 0, 1, 0, 0, 1, 1]), .inv (Jr R (spec_PlacesOf_L1_S a0) (Mk (spec_PlacesOf_L1 a0) (spec_PlacesOf_L1_k) r) (m1 + 1)), .blk 0, .code (cAt Try.f84 [1, 1, 1])]) (Nat.lt_succ_self m2) hK2)
        · have hE : some (Ctl.brk s8) = some c2 := hM
          have hE := Option.some.inj hE
          subst hE
          exact pc R 5 [.ln (s1.length), .as 37 true, .ix (encS v35), .as 44 false] [.keep [1, 3, 4, 5, 6] [0, 1]] (And.intro (lenm encS s1) (And.intro h34 (And.intro (gi_lt encS h36) (And.intro ((gi_map encS h36).2) (And.intro h37 True.intro))))) (by kernel_rfl) (K2 s8 hK2)
      · have hE : some (Ctl.brk s8) = some c2 := hM
        have hE := Option.some.inj hE
        subst hE
        exact pc R 5 [.ln (s1.length), .as 37 false] [.keep [1, 3, 4, 5, 6] [0, 1]] (And.intro (lenm encS s1) (And.intro h34 True.intro)) (by kernel_rfl) (K2 s8 hK2)
    rcases cond_cases hM with ⟨h38, hM⟩ | ⟨h38, hM⟩
    · obtain ⟨v39, h40, hM⟩ := bind_some hM
      exact pc R 14 [.ln (a0.Legs.length), .as 13 true, .ix (Leg.enc v5), .as 25 true, .ix (Leg.enc v39)] [.keep [1, 3, 4, 5] [0, 1]] (And.intro (lenm Leg.enc a0.Legs) (And.intro h4 (And.intro (gi_map Leg.enc h6) (And.intro h38 (And.intro (gi_map Leg.enc h40) True.intro))))) (by kernel_rfl) (J1 v39.To hM)
    · exact pc R 14 [.ln (a0.Legs.length), .as 13 true, .ix (Leg.enc v5), .as 25 false] [.keep [1, 3, 4, 5] [0, 1]] (And.intro (lenm Leg.enc a0.Legs) (And.intro h4 (And.intro (gi_map Leg.enc h6) (And.intro h38 True.intro)))) (by kernel_rfl) (J1 v5.From hM)
  · have hE : some (Ctl.brk s1) = some c1 := hM
    have hE := Option.some.inj hE
    subst hE
    exact pc R 5 [.ln (a0.Legs.length), .as 13 false] [.keep [3] [1]] (And.intro (lenm Leg.enc a0.Legs) (And.intro h4 True.intro)) (by kernel_rfl) (K1 s1 hK1)

-- loop.example/g03014/spec.l4Of
def spec_l4Of (a0 : l1Cur) (a1 : Network) : Option (ByteArray × l1Cur) :=
  (spec_PlacesOf a1).bind fun v1 =>
  (spec_l1Once a0 9).bind fun v3 =>
  bif v3.1 then
  (spec_l1Place v3.2).bind fun v6 =>
  some v6
  else
  (spec_l1Below v3.2 (v1.length : Int)).bind fun v8 =>
  (gi v1 v8.1).bind fun v10 =>
  some (v10, v8.2)
theorem spec_l4Of_ok (a0 : l1Cur) (a1 : Network) (r : ByteArray × l1Cur) (hM : spec_l4Of a0 a1 = some r) :
    Con Try.prog 56 [.c (.ptr 900 0), .agg [.sl 901, .sl 921, .v (.int .i64 a1.Change)]] [(900, .box 119 [.rs 1 (a0.b.map encU8), .v (.int .i64 a0.i), .v (.int .i64 a0.h)]), (901, .row 95 6 (a1.Legs.map Leg.enc)), (921, .row 3 1 (a1.Off.map encI))] (.o (.c (.v (.string r.1)))) [(900, .box 119 [.rs 1 (r.2.b.map encU8), .v (.int .i64 r.2.i), .v (.int .i64 r.2.h)]), (901, .row 95 6 (a1.Legs.map Leg.enc)), (921, .row 3 1 (a1.Off.map encI))] [] := by
  unfold spec_l4Of at hM
  refine cn (N := 19) (pids := [900, 901, 921]) Try_mixed Try.func56 (by kernel_rfl) (by kernel_rfl) (by kernel_rfl) rfl fun ρ g w R => ?_
  obtain ⟨v1, h2, hM⟩ := bind_some hM
  obtain ⟨v3, h4, hM⟩ := bind_some hM
  rcases cond_cases hM with ⟨h5, hM⟩ | ⟨h5, hM⟩
  · obtain ⟨v6, h7, hM⟩ := bind_some hM
    have hE : some v6 = some r := hM
    have hE := Option.some.inj hE
    subst hE
    exact pr R 9999 [.new 0, .call false [] (.o (.c (.sl 1))) [] [(1, .row 9 1 (v1.map encS))], .call true [900] (.o (.c (.v (.bool v3.1)))) [(900, .box 119 [.rs 1 (v3.2.b.map encU8), .v (.int .i64 v3.2.i), .v (.int .i64 v3.2.h)])] [], .as 9 true, .call true [900] (.o (.c (.v (.string v6.1)))) [(900, .box 119 [.rs 1 (v6.2.b.map encU8), .v (.int .i64 v6.2.i), .v (.int .i64 v6.2.h)])] []] [] [900, 901, 921] [] (And.intro (And.intro (con_sw 1000 1 (spec_PlacesOf_ok a1 v1 h2)) (rfl : ([] : List Nat) = [])) (And.intro (And.intro (con_sw 900 900 (spec_l1Once_ok a0 9 v3 h4)) (rfl : ([900] : List Nat) = [900])) (And.intro h5 (And.intro (And.intro (con_sw 900 900 (spec_l1Place_ok v3.2 v6 h7)) (rfl : ([900] : List Nat) = [900])) True.intro)))) (by kernel_rfl)
  · obtain ⟨v8, h9, hM⟩ := bind_some hM
    obtain ⟨v10, h11, hM⟩ := bind_some hM
    have hE : some (v10, v8.2) = some r := hM
    have hE := Option.some.inj hE
    subst hE
    exact pr R 9999 [.new 0, .call false [] (.o (.c (.sl 1))) [] [(1, .row 9 1 (v1.map encS))], .call true [900] (.o (.c (.v (.bool v3.1)))) [(900, .box 119 [.rs 1 (v3.2.b.map encU8), .v (.int .i64 v3.2.i), .v (.int .i64 v3.2.h)])] [], .as 9 false, .ln (v1.length), .call true [900] (.o (.c (.v (.int .i64 v8.1)))) [(900, .box 119 [.rs 1 (v8.2.b.map encU8), .v (.int .i64 v8.2.i), .v (.int .i64 v8.2.h)])] [], .ix (encS v10)] [] [900, 901, 921] [] (And.intro (And.intro (con_sw 1000 1 (spec_PlacesOf_ok a1 v1 h2)) (rfl : ([] : List Nat) = [])) (And.intro (And.intro (con_sw 900 900 (spec_l1Once_ok a0 9 v3 h4)) (rfl : ([900] : List Nat) = [900])) (And.intro h5 (And.intro (lenm encS v1) (And.intro (And.intro (con_sw 900 900 (spec_l1Below_ok v3.2 (v1.length : Int) v8 h9)) (rfl : ([900] : List Nat) = [900])) (And.intro (gi_lt encS h11) (And.intro ((gi_map encS h11).2) True.intro))))))) (by kernel_rfl)

-- loop.example/g03014/spec.l4Index
def spec_l4Index_L1_b (a0 : (List ByteArray)) (a1 : ByteArray) (s1 : Int) : Option (Ctl Int Unit Int) :=
  bif (decide (s1 < (a0.length : Int))) then
  (gi a0 s1).bind fun v3 =>
  bif (v3.toList == a1.toList) then
  some (.ret s1)
  else
  some (.next (w64 (s1 + 1)))
  else
  some (.brk ())
def spec_l4Index_L1 (a0 : (List ByteArray)) (a1 : ByteArray) (s : Int) : Option (Ctl Int Unit Int) := spec_l4Index_L1_b a0 a1 s
def spec_l4Index_L1_s (a0 : (List ByteArray)) (a1 : ByteArray) (s1 : Int) : St := ⟨[(0, .o (.c (.rs 1 (a0.map encS)))), (1, .o (.c (.v (.string a1)))), (5, .o (.c (.v (.int .i64 s1))))], []⟩
def spec_l4Index_L1_S (a0 : (List ByteArray)) (a1 : ByteArray) (s : Int) : St := spec_l4Index_L1_s a0 a1 s
def spec_l4Index_L1_a : Option Int :=
  some (-1)
def spec_l4Index_L1_k (x : (Unit) ⊕ (Int)) : Option Int := match x with
  | .inl t => spec_l4Index_L1_a
  | .inr y => some y
def spec_l4Index (a0 : (List ByteArray)) (a1 : ByteArray) : Option Int :=
  (loopM (spec_l4Index_L1 a0 a1) big 0).bind (spec_l4Index_L1_k)
theorem spec_l4Index_ok (a0 : (List ByteArray)) (a1 : ByteArray) (r : Int) (hM : spec_l4Index a0 a1 = some r) :
    Con Try.prog 103 [.c (.rs 1 (a0.map encS)), .c (.v (.string a1))] [] (.o (.c (.v (.int .i64 r)))) [] [] := by
  unfold spec_l4Index at hM
  refine cn (N := 19) (pids := []) Try_mixed Try.func103 (by kernel_rfl) (by kernel_rfl) (by kernel_rfl) rfl fun ρ g w R => ?_
  have K1 : ∀ (_ : Unit), spec_l4Index_L1_a = some r → Gr R [.code (cAt Try.f103 [1, 1])] (⟨[], []⟩) := by
    intro _ hM
    unfold spec_l4Index_L1_a at hM
    have hE : some (-1) = some r := hM
    have hE := Option.some.inj hE
    subst hE
    exact pr R 9999 [] [] [] [] True.intro (by kernel_rfl)
  refine pc R 9999 [] [.keep [0, 1, 5] []] (k' := [.code (.loop (cAt Try.f103 [1, 0, 1, 0, 0])), .blk 0, .code (cAt Try.f103 [1, 1])]) (S' := spec_l4Index_L1_S a0 a1 0) True.intro (by kernel_rfl) ?_
  refine lq (spec_l4Index_L1_S a0 a1) (body := spec_l4Index_L1 a0 a1) (k := spec_l4Index_L1_k) hM fun m1 s c1 hM hK1 => ?_
  obtain ⟨s1, hs⟩ : ∃ z, z = s := ⟨_, rfl⟩
  subst hs
  have hM : spec_l4Index_L1_b a0 a1 s1 = some c1 := hM
  unfold spec_l4Index_L1_b at hM
  rcases cond_cases hM with ⟨h2, hM⟩ | ⟨h2, hM⟩
  · obtain ⟨v3, h4, hM⟩ := bind_some hM
    rcases cond_cases hM with ⟨h5, hM⟩ | ⟨h5, hM⟩
    · have hE : some (Ctl.ret s1) = some c1 := hM
      have hE := Option.some.inj hE
      subst hE
      have hE : some s1 = some r := hK1
      have hE := Option.some.inj hE
      subst hE
      exact pr R 9999 [.ln (a0.length), .as 9 true, .ix (encS v3), .as 17 true] [] [] [] (And.intro (lenm encS a0) (And.intro h2 (And.intro (gi_map encS h4) (And.intro h5 True.intro)))) (by kernel_rfl)
    · have hE : some (Ctl.next (w64 (s1 + 1))) = some c1 := hM
      have hE := Option.some.inj hE
      subst hE
      exact pc R 9999 [.ln (a0.length), .as 9 true, .ix (encS v3), .as 17 false] [.keep [0, 1, 5] []] (And.intro (lenm encS a0) (And.intro h2 (And.intro (gi_map encS h4) (And.intro h5 True.intro)))) (by kernel_rfl) (li (Sf := spec_l4Index_L1_S a0 a1) (M := Mk (spec_l4Index_L1 a0 a1) (spec_l4Index_L1_k) r) (k := [.blk 0, .code (cAt Try.f103 [1, 1])]) (Nat.lt_succ_self m1) hK1)
  · have hE : some (Ctl.brk ()) = some c1 := hM
    have hE := Option.some.inj hE
    subst hE
    exact pc R 5 [.ln (a0.length), .as 9 false] [.keep [] []] (And.intro (lenm encS a0) (And.intro h2 True.intro)) (by kernel_rfl) (K1 () hK1)

-- loop.example/g03014/spec.l1In
def spec_l1In (a0 : Int) (a1 : Int) (a2 : Int) : Option Bool :=
  bif (decide (a0 ≥ a1)) then
  some (decide (a0 ≤ a2))
  else
  some false
theorem spec_l1In_ok (a0 : Int) (a1 : Int) (a2 : Int) (r : Bool) (hM : spec_l1In a0 a1 a2 = some r) :
    Con Try.prog 68 [.c (.v (.int .i64 a0)), .c (.v (.int .i64 a1)), .c (.v (.int .i64 a2))] [] (.o (.c (.v (.bool r)))) [] [] := by
  unfold spec_l1In at hM
  refine cn (N := 15) (pids := []) Try_mixed Try.func68 (by kernel_rfl) (by kernel_rfl) (by kernel_rfl) rfl fun ρ g w R => ?_
  rcases cond_cases hM with ⟨h1, hM⟩ | ⟨h1, hM⟩
  · have hE : some (decide (a0 ≤ a2)) = some r := hM
    have hE := Option.some.inj hE
    subst hE
    exact pr R 9999 [.as 10 true] [] [] [] (And.intro h1 True.intro) (by kernel_rfl)
  · have hE : some false = some r := hM
    have hE := Option.some.inj hE
    subst hE
    exact pr R 9999 [.as 10 false] [] [] [] (And.intro h1 True.intro) (by kernel_rfl)

-- loop.example/g03014/spec.IsPlace
def spec_IsPlace_L1_b (a0 : ByteArray) (s2 : Int) : Option (Ctl Int Unit Bool) :=
  bif (decide (s2 < 3)) then
  (siM a0 s2).bind fun v4 =>
  (spec_l1In (w64 v4) 65 90).bind fun v6 =>
  bif (!v6) then
  some (.ret false)
  else
  some (.next (w64 (s2 + 1)))
  else
  some (.brk ())
def spec_IsPlace_L1 (a0 : ByteArray) (s : Int) : Option (Ctl Int Unit Bool) := spec_IsPlace_L1_b a0 s
def spec_IsPlace_L1_s (a0 : ByteArray) (s2 : Int) : St := ⟨[(0, .o (.c (.v (.string a0)))), (3, .o (.c (.v (.int .i64 s2))))], []⟩
def spec_IsPlace_L1_S (a0 : ByteArray) (s : Int) : St := spec_IsPlace_L1_s a0 s
def spec_IsPlace_L1_a : Option Bool :=
  some true
def spec_IsPlace_L1_k (x : (Unit) ⊕ (Bool)) : Option Bool := match x with
  | .inl t => spec_IsPlace_L1_a
  | .inr y => some y
def spec_IsPlace (a0 : ByteArray) : Option Bool :=
  bif ((a0.size : Int) != 3) then
  some false
  else
  (loopM (spec_IsPlace_L1 a0) big 0).bind (spec_IsPlace_L1_k)
theorem spec_IsPlace_ok (a0 : ByteArray) (r : Bool) (hM : spec_IsPlace a0 = some r) :
    Con Try.prog 112 [.c (.v (.string a0))] [] (.o (.c (.v (.bool r)))) [] [] := by
  unfold spec_IsPlace at hM
  refine cn (N := 17) (pids := []) Try_mixed Try.func112 (by kernel_rfl) (by kernel_rfl) (by kernel_rfl) rfl fun ρ g w R => ?_
  rcases cond_cases hM with ⟨h1, hM⟩ | ⟨h1, hM⟩
  · have hE : some false = some r := hM
    have hE := Option.some.inj hE
    subst hE
    exact pr R 9999 [.as 6 true] [] [] [] (And.intro h1 True.intro) (by kernel_rfl)
  · have K1 : ∀ (_ : Unit), spec_IsPlace_L1_a = some r → Gr R [.code (cAt Try.f112 [1, 1, 1])] (⟨[], []⟩) := by
      intro _ hM
      unfold spec_IsPlace_L1_a at hM
      have hE : some true = some r := hM
      have hE := Option.some.inj hE
      subst hE
      exact pr R 9999 [] [] [] [] True.intro (by kernel_rfl)
    refine pc R 9999 [.as 6 false] [.keep [0, 3] []] (k' := [.code (.loop (cAt Try.f112 [1, 1, 0, 1, 0, 0])), .blk 0, .code (cAt Try.f112 [1, 1, 1])]) (S' := spec_IsPlace_L1_S a0 0) (And.intro h1 True.intro) (by kernel_rfl) ?_
    refine lq (spec_IsPlace_L1_S a0) (body := spec_IsPlace_L1 a0) (k := spec_IsPlace_L1_k) hM fun m1 s c1 hM hK1 => ?_
    obtain ⟨s2, hs⟩ : ∃ z, z = s := ⟨_, rfl⟩
    subst hs
    have hM : spec_IsPlace_L1_b a0 s2 = some c1 := hM
    unfold spec_IsPlace_L1_b at hM
    rcases cond_cases hM with ⟨h3, hM⟩ | ⟨h3, hM⟩
    · obtain ⟨v4, h5, hM⟩ := bind_some hM
      obtain ⟨v6, h7, hM⟩ := bind_some hM
      rcases cond_cases hM with ⟨h8, hM⟩ | ⟨h8, hM⟩
      · have hE : some (Ctl.ret false) = some c1 := hM
        have hE := Option.some.inj hE
        subst hE
        have hE : some false = some r := hK1
        have hE := Option.some.inj hE
        subst hE
        exact pr R 9999 [.as 8 true, .ix [.int .u8 v4], .call false [] (.o (.c (.v (.bool v6)))) [] [], .as 16 true] [] [] [] (And.intro h3 (And.intro (siM_ok h5) (And.intro (spec_l1In_ok (w64 v4) 65 90 v6 h7) (And.intro h8 True.intro)))) (by kernel_rfl)
      · have hE : some (Ctl.next (w64 (s2 + 1))) = some c1 := hM
        have hE := Option.some.inj hE
        subst hE
        exact pc R 9999 [.as 8 true, .ix [.int .u8 v4], .call false [] (.o (.c (.v (.bool v6)))) [] [], .as 16 false] [.keep [0, 3] []] (And.intro h3 (And.intro (siM_ok h5) (And.intro (spec_l1In_ok (w64 v4) 65 90 v6 h7) (And.intro h8 True.intro)))) (by kernel_rfl) (li (Sf := spec_IsPlace_L1_S a0) (M := Mk (spec_IsPlace_L1 a0) (spec_IsPlace_L1_k) r) (k := [.blk 0, .code (cAt Try.f112 [1, 1, 1])]) (Nat.lt_succ_self m1) hK1)
    · have hE : some (Ctl.brk ()) = some c1 := hM
      have hE := Option.some.inj hE
      subst hE
      exact pc R 5 [.as 8 false] [.keep [] []] (And.intro h3 True.intro) (by kernel_rfl) (K1 () hK1)

-- loop.example/g03014/spec.IsLeg
def spec_IsLeg (a0 : Leg) : Option Bool :=
  (spec_IsPlace a0.From).bind fun v1 =>
  bif v1 then
  (spec_IsPlace a0.To).bind fun v4 =>
  bif v4 then
  bif (!(a0.From.toList == a0.To.toList)) then
  (spec_l1In a0.Start 0 1439).bind fun v8 =>
  bif v8 then
  (spec_l1In a0.Takes 1 4320).bind fun v11 =>
  bif v11 then
  (spec_l1In a0.Days 1 127).bind fun v14 =>
  bif v14 then
  (spec_l1In a0.Room 0 1000000).bind fun v17 =>
  some v17
  else
  some false
  else
  some false
  else
  some false
  else
  some false
  else
  some false
  else
  some false
theorem spec_IsLeg_ok (a0 : Leg) (r : Bool) (hM : spec_IsLeg a0 = some r) :
    Con Try.prog 89 [.c (.v (.agg (Leg.enc a0).toArray))] [] (.o (.c (.v (.bool r)))) [] [] := by
  unfold spec_IsLeg at hM
  refine cn (N := 38) (pids := []) Try_mixed Try.func89 (by kernel_rfl) (by kernel_rfl) (by kernel_rfl) rfl fun ρ g w R => ?_
  obtain ⟨v1, h2, hM⟩ := bind_some hM
  rcases cond_cases hM with ⟨h3, hM⟩ | ⟨h3, hM⟩
  · obtain ⟨v4, h5, hM⟩ := bind_some hM
    rcases cond_cases hM with ⟨h6, hM⟩ | ⟨h6, hM⟩
    · rcases cond_cases hM with ⟨h7, hM⟩ | ⟨h7, hM⟩
      · obtain ⟨v8, h9, hM⟩ := bind_some hM
        rcases cond_cases hM with ⟨h10, hM⟩ | ⟨h10, hM⟩
        · obtain ⟨v11, h12, hM⟩ := bind_some hM
          rcases cond_cases hM with ⟨h13, hM⟩ | ⟨h13, hM⟩
          · obtain ⟨v14, h15, hM⟩ := bind_some hM
            rcases cond_cases hM with ⟨h16, hM⟩ | ⟨h16, hM⟩
            · obtain ⟨v17, h18, hM⟩ := bind_some hM
              have hE : some v17 = some r := hM
              have hE := Option.some.inj hE
              subst hE
              exact pr R 9999 [.new 0, .call false [] (.o (.c (.v (.bool v1)))) [] [], .as 6 true, .call false [] (.o (.c (.v (.bool v4)))) [] [], .as 11 true, .as 18 true, .call false [] (.o (.c (.v (.bool v8)))) [] [], .as 23 true, .call false [] (.o (.c (.v (.bool v11)))) [] [], .as 28 true, .call false [] (.o (.c (.v (.bool v14)))) [] [], .as 33 true, .call false [] (.o (.c (.v (.bool v17)))) [] []] [] [] [] (And.intro (spec_IsPlace_ok a0.From v1 h2) (And.intro h3 (And.intro (spec_IsPlace_ok a0.To v4 h5) (And.intro h6 (And.intro h7 (And.intro (spec_l1In_ok a0.Start 0 1439 v8 h9) (And.intro h10 (And.intro (spec_l1In_ok a0.Takes 1 4320 v11 h12) (And.intro h13 (And.intro (spec_l1In_ok a0.Days 1 127 v14 h15) (And.intro h16 (And.intro (spec_l1In_ok a0.Room 0 1000000 v17 h18) True.intro)))))))))))) (by kernel_rfl)
            · have hE : some false = some r := hM
              have hE := Option.some.inj hE
              subst hE
              exact pr R 9999 [.new 0, .call false [] (.o (.c (.v (.bool v1)))) [] [], .as 6 true, .call false [] (.o (.c (.v (.bool v4)))) [] [], .as 11 true, .as 18 true, .call false [] (.o (.c (.v (.bool v8)))) [] [], .as 23 true, .call false [] (.o (.c (.v (.bool v11)))) [] [], .as 28 true, .call false [] (.o (.c (.v (.bool v14)))) [] [], .as 33 false] [] [] [] (And.intro (spec_IsPlace_ok a0.From v1 h2) (And.intro h3 (And.intro (spec_IsPlace_ok a0.To v4 h5) (And.intro h6 (And.intro h7 (And.intro (spec_l1In_ok a0.Start 0 1439 v8 h9) (And.intro h10 (And.intro (spec_l1In_ok a0.Takes 1 4320 v11 h12) (And.intro h13 (And.intro (spec_l1In_ok a0.Days 1 127 v14 h15) (And.intro h16 True.intro))))))))))) (by kernel_rfl)
          · have hE : some false = some r := hM
            have hE := Option.some.inj hE
            subst hE
            exact pr R 9999 [.new 0, .call false [] (.o (.c (.v (.bool v1)))) [] [], .as 6 true, .call false [] (.o (.c (.v (.bool v4)))) [] [], .as 11 true, .as 18 true, .call false [] (.o (.c (.v (.bool v8)))) [] [], .as 23 true, .call false [] (.o (.c (.v (.bool v11)))) [] [], .as 28 false] [] [] [] (And.intro (spec_IsPlace_ok a0.From v1 h2) (And.intro h3 (And.intro (spec_IsPlace_ok a0.To v4 h5) (And.intro h6 (And.intro h7 (And.intro (spec_l1In_ok a0.Start 0 1439 v8 h9) (And.intro h10 (And.intro (spec_l1In_ok a0.Takes 1 4320 v11 h12) (And.intro h13 True.intro))))))))) (by kernel_rfl)
        · have hE : some false = some r := hM
          have hE := Option.some.inj hE
          subst hE
          exact pr R 9999 [.new 0, .call false [] (.o (.c (.v (.bool v1)))) [] [], .as 6 true, .call false [] (.o (.c (.v (.bool v4)))) [] [], .as 11 true, .as 18 true, .call false [] (.o (.c (.v (.bool v8)))) [] [], .as 23 false] [] [] [] (And.intro (spec_IsPlace_ok a0.From v1 h2) (And.intro h3 (And.intro (spec_IsPlace_ok a0.To v4 h5) (And.intro h6 (And.intro h7 (And.intro (spec_l1In_ok a0.Start 0 1439 v8 h9) (And.intro h10 True.intro))))))) (by kernel_rfl)
      · have hE : some false = some r := hM
        have hE := Option.some.inj hE
        subst hE
        exact pr R 9999 [.new 0, .call false [] (.o (.c (.v (.bool v1)))) [] [], .as 6 true, .call false [] (.o (.c (.v (.bool v4)))) [] [], .as 11 true, .as 18 false] [] [] [] (And.intro (spec_IsPlace_ok a0.From v1 h2) (And.intro h3 (And.intro (spec_IsPlace_ok a0.To v4 h5) (And.intro h6 (And.intro h7 True.intro))))) (by kernel_rfl)
    · have hE : some false = some r := hM
      have hE := Option.some.inj hE
      subst hE
      exact pr R 9999 [.new 0, .call false [] (.o (.c (.v (.bool v1)))) [] [], .as 6 true, .call false [] (.o (.c (.v (.bool v4)))) [] [], .as 11 false] [] [] [] (And.intro (spec_IsPlace_ok a0.From v1 h2) (And.intro h3 (And.intro (spec_IsPlace_ok a0.To v4 h5) (And.intro h6 True.intro)))) (by kernel_rfl)
  · have hE : some false = some r := hM
    have hE := Option.some.inj hE
    subst hE
    exact pr R 9999 [.new 0, .call false [] (.o (.c (.v (.bool v1)))) [] [], .as 6 false] [] [] [] (And.intro (spec_IsPlace_ok a0.From v1 h2) (And.intro h3 True.intro)) (by kernel_rfl)

-- loop.example/g03014/spec.IsNetwork
def spec_IsNetwork_L2_b (a0 : Network) (s2 : Int) : Option (Ctl Int Unit Bool) :=
  bif (decide (s2 < (a0.Off.length : Int))) then
  (gi a0.Off s2).bind fun v8 =>
  (spec_l1In v8 0 60).bind fun v10 =>
  bif (!v10) then
  some (.ret false)
  else
  bif (decide (s2 > 0)) then
  (gi a0.Off (w64 (s2 - 1))).bind fun v14 =>
  (gi a0.Off s2).bind fun v16 =>
  bif (decide (v14 ≥ v16)) then
  some (.ret false)
  else
  some (.next (w64 (s2 + 1)))
  else
  some (.next (w64 (s2 + 1)))
  else
  some (.brk ())
def spec_IsNetwork_L2 (a0 : Network) (s : Int) : Option (Ctl Int Unit Bool) := spec_IsNetwork_L2_b a0 s
def spec_IsNetwork_L2_s (a0 : Network) (s2 : Int) : St := ⟨[(1, .o (.c (.ptr 0 0))), (4, .o (.c (.v (.int .i64 s2))))], [(0, .box 36 [.rs 6 (a0.Legs.map Leg.enc), .rs 1 (a0.Off.map encI), .v (.int .i64 a0.Change)])]⟩
def spec_IsNetwork_L2_S (a0 : Network) (s : Int) : St := spec_IsNetwork_L2_s a0 s
def spec_IsNetwork_L2_a (a0 : Network) : Option Bool :=
  bif (decide ((a0.Legs.length : Int) ≤ 20)) then
  bif (decide ((a0.Off.length : Int) ≤ 10)) then
  (spec_l1In a0.Change 0 240).bind fun v5 =>
  some v5
  else
  some false
  else
  some false
def spec_IsNetwork_L2_k (a0 : Network) (x : (Unit) ⊕ (Bool)) : Option Bool := match x with
  | .inl t => spec_IsNetwork_L2_a a0
  | .inr y => some y
def spec_IsNetwork_L1_b (a0 : Network) (s1 : Int) : Option (Ctl Int Unit Bool) :=
  bif (decide (s1 < (a0.Legs.length : Int))) then
  (gi a0.Legs s1).bind fun v20 =>
  (spec_IsLeg v20).bind fun v22 =>
  bif (!v22) then
  some (.ret false)
  else
  some (.next (w64 (s1 + 1)))
  else
  some (.brk ())
def spec_IsNetwork_L1 (a0 : Network) (s : Int) : Option (Ctl Int Unit Bool) := spec_IsNetwork_L1_b a0 s
def spec_IsNetwork_L1_s (a0 : Network) (s1 : Int) : St := ⟨[(1, .o (.c (.ptr 0 0))), (3, .o (.c (.v (.int .i64 s1))))], [(0, .box 36 [.rs 6 (a0.Legs.map Leg.enc), .rs 1 (a0.Off.map encI), .v (.int .i64 a0.Change)])]⟩
def spec_IsNetwork_L1_S (a0 : Network) (s : Int) : St := spec_IsNetwork_L1_s a0 s
def spec_IsNetwork_L1_a (a0 : Network) : Option Bool :=
  (loopM (spec_IsNetwork_L2 a0) big 0).bind (spec_IsNetwork_L2_k a0)
def spec_IsNetwork_L1_k (a0 : Network) (x : (Unit) ⊕ (Bool)) : Option Bool := match x with
  | .inl t => spec_IsNetwork_L1_a a0
  | .inr y => some y
def spec_IsNetwork (a0 : Network) : Option Bool :=
  (loopM (spec_IsNetwork_L1 a0) big 0).bind (spec_IsNetwork_L1_k a0)
theorem spec_IsNetwork_ok (a0 : Network) (r : Bool) (hM : spec_IsNetwork a0 = some r) :
    Con Try.prog 66 [.agg [.rs 6 (a0.Legs.map Leg.enc), .rs 1 (a0.Off.map encI), .v (.int .i64 a0.Change)]] [] (.o (.c (.v (.bool r)))) [] [] := by
  unfold spec_IsNetwork at hM
  refine cn (N := 66) (pids := []) Try_mixed Try.func66 (by kernel_rfl) (by kernel_rfl) (by kernel_rfl) rfl fun ρ g w R => ?_
  have K1 : ∀ (_ : Unit), spec_IsNetwork_L1_a a0 = some r → Gr R [.code (cAt Try.f66 [1, 1])] (⟨[(1, .o (.c (.ptr 0 0)))], [(0, .box 36 [.rs 6 (a0.Legs.map Leg.enc), .rs 1 (a0.Off.map encI), .v (.int .i64 a0.Change)])]⟩) := by
    intro _ hM
    unfold spec_IsNetwork_L1_a at hM
    have K2 : ∀ (_ : Unit), spec_IsNetwork_L2_a a0 = some r → Gr R [.code (cAt Try.f66 [1, 1, 1])] (⟨[(1, .o (.c (.ptr 0 0)))], [(0, .box 36 [.rs 6 (a0.Legs.map Leg.enc), .rs 1 (a0.Off.map encI), .v (.int .i64 a0.Change)])]⟩) := by
      intro _ hM
      unfold spec_IsNetwork_L2_a at hM
      rcases cond_cases hM with ⟨h3, hM⟩ | ⟨h3, hM⟩
      · rcases cond_cases hM with ⟨h4, hM⟩ | ⟨h4, hM⟩
        · obtain ⟨v5, h6, hM⟩ := bind_some hM
          have hE : some v5 = some r := hM
          have hE := Option.some.inj hE
          subst hE
          exact pr R 9999 [.ln (a0.Legs.length), .as 55 true, .ln (a0.Off.length), .as 61 true, .call false [] (.o (.c (.v (.bool v5)))) [] []] [] [] [] (And.intro (lenm Leg.enc a0.Legs) (And.intro h3 (And.intro (lenm encI a0.Off) (And.intro h4 (And.intro (spec_l1In_ok a0.Change 0 240 v5 h6) True.intro))))) (by kernel_rfl)
        · have hE : some false = some r := hM
          have hE := Option.some.inj hE
          subst hE
          exact pr R 9999 [.ln (a0.Legs.length), .as 55 true, .ln (a0.Off.length), .as 61 false] [] [] [] (And.intro (lenm Leg.enc a0.Legs) (And.intro h3 (And.intro (lenm encI a0.Off) (And.intro h4 True.intro)))) (by kernel_rfl)
      · have hE : some false = some r := hM
        have hE := Option.some.inj hE
        subst hE
        exact pr R 9999 [.ln (a0.Legs.length), .as 55 false] [] [] [] (And.intro (lenm Leg.enc a0.Legs) (And.intro h3 True.intro)) (by kernel_rfl)
    refine pc R 9999 [] [.keep [1, 4] [0]] (k' := [.code (.loop (cAt Try.f66 [1, 1, 0, 1, 0, 0])), .blk 2, .code (cAt Try.f66 [1, 1, 1])]) (S' := spec_IsNetwork_L2_S a0 0) True.intro (by kernel_rfl) ?_
    refine lq (spec_IsNetwork_L2_S a0) (body := spec_IsNetwork_L2 a0) (k := spec_IsNetwork_L2_k a0) hM fun m2 s c2 hM hK2 => ?_
    obtain ⟨s2, hs⟩ : ∃ z, z = s := ⟨_, rfl⟩
    subst hs
    have hM : spec_IsNetwork_L2_b a0 s2 = some c2 := hM
    unfold spec_IsNetwork_L2_b at hM
    rcases cond_cases hM with ⟨h7, hM⟩ | ⟨h7, hM⟩
    · obtain ⟨v8, h9, hM⟩ := bind_some hM
      obtain ⟨v10, h11, hM⟩ := bind_some hM
      rcases cond_cases hM with ⟨h12, hM⟩ | ⟨h12, hM⟩
      · have hE : some (Ctl.ret false) = some c2 := hM
        have hE := Option.some.inj hE
        subst hE
        have hE : some false = some r := hK2
        have hE := Option.some.inj hE
        subst hE
        exact pr R 9999 [.ln (a0.Off.length), .as 23 true, .ix (encI v8), .call false [] (.o (.c (.v (.bool v10)))) [] [], .as 33 true] [] [] [] (And.intro (lenm encI a0.Off) (And.intro h7 (And.intro (gi_map encI h9) (And.intro (spec_l1In_ok v8 0 60 v10 h11) (And.intro h12 True.intro))))) (by kernel_rfl)
      · rcases cond_cases hM with ⟨h13, hM⟩ | ⟨h13, hM⟩
        · obtain ⟨v14, h15, hM⟩ := bind_some hM
          obtain ⟨v16, h17, hM⟩ := bind_some hM
          rcases cond_cases hM with ⟨h18, hM⟩ | ⟨h18, hM⟩
          · have hE : some (Ctl.ret false) = some c2 := hM
            have hE := Option.some.inj hE
            subst hE
            have hE : some false = some r := hK2
            have hE := Option.some.inj hE
            subst hE
            exact pr R 9999 [.ln (a0.Off.length), .as 23 true, .ix (encI v8), .call false [] (.o (.c (.v (.bool v10)))) [] [], .as 33 false, .as 36 true, .ix (encI v14), .ix (encI v16), .as 50 true] [] [] [] (And.intro (lenm encI a0.Off) (And.intro h7 (And.intro (gi_map encI h9) (And.intro (spec_l1In_ok v8 0 60 v10 h11) (And.intro h12 (And.intro h13 (And.intro (gi_map encI h15) (And.intro (gi_map encI h17) (And.intro h18 True.intro))))))))) (by kernel_rfl)
          · have hE : some (Ctl.next (w64 (s2 + 1))) = some c2 := hM
            have hE := Option.some.inj hE
            subst hE
            exact pc R 9999 [.ln (a0.Off.length), .as 23 true, .ix (encI v8), .call false [] (.o (.c (.v (.bool v10)))) [] [], .as 33 false, .as 36 true, .ix (encI v14), .ix (encI v16), .as 50 false] [.keep [1, 4] [0]] (And.intro (lenm encI a0.Off) (And.intro h7 (And.intro (gi_map encI h9) (And.intro (spec_l1In_ok v8 0 60 v10 h11) (And.intro h12 (And.intro h13 (And.intro (gi_map encI h15) (And.intro (gi_map encI h17) (And.intro h18 True.intro))))))))) (by kernel_rfl) (li (Sf := spec_IsNetwork_L2_S a0) (M := Mk (spec_IsNetwork_L2 a0) (spec_IsNetwork_L2_k a0) r) (k := [.blk 2, .code (cAt Try.f66 [1, 1, 1])]) (Nat.lt_succ_self m2) hK2)
        · have hE : some (Ctl.next (w64 (s2 + 1))) = some c2 := hM
          have hE := Option.some.inj hE
          subst hE
          exact pc R 9999 [.ln (a0.Off.length), .as 23 true, .ix (encI v8), .call false [] (.o (.c (.v (.bool v10)))) [] [], .as 33 false, .as 36 false] [.keep [1, 4] [0]] (And.intro (lenm encI a0.Off) (And.intro h7 (And.intro (gi_map encI h9) (And.intro (spec_l1In_ok v8 0 60 v10 h11) (And.intro h12 (And.intro h13 True.intro)))))) (by kernel_rfl) (li (Sf := spec_IsNetwork_L2_S a0) (M := Mk (spec_IsNetwork_L2 a0) (spec_IsNetwork_L2_k a0) r) (k := [.blk 2, .code (cAt Try.f66 [1, 1, 1])]) (Nat.lt_succ_self m2) hK2)
    · have hE : some (Ctl.brk ()) = some c2 := hM
      have hE := Option.some.inj hE
      subst hE
      exact pc R 5 [.ln (a0.Off.length), .as 23 false] [.keep [1] [0]] (And.intro (lenm encI a0.Off) (And.intro h7 True.intro)) (by kernel_rfl) (K2 () hK2)
  refine pc R 9999 [.new 0] [.keep [1, 3] [0]] (k' := [.code (.loop (cAt Try.f66 [1, 0, 1, 0, 0])), .blk 0, .code (cAt Try.f66 [1, 1])]) (S' := spec_IsNetwork_L1_S a0 0) True.intro (by kernel_rfl) ?_
  refine lq (spec_IsNetwork_L1_S a0) (body := spec_IsNetwork_L1 a0) (k := spec_IsNetwork_L1_k a0) hM fun m1 s c1 hM hK1 => ?_
  obtain ⟨s1, hs⟩ : ∃ z, z = s := ⟨_, rfl⟩
  subst hs
  have hM : spec_IsNetwork_L1_b a0 s1 = some c1 := hM
  unfold spec_IsNetwork_L1_b at hM
  rcases cond_cases hM with ⟨h19, hM⟩ | ⟨h19, hM⟩
  · obtain ⟨v20, h21, hM⟩ := bind_some hM
    obtain ⟨v22, h23, hM⟩ := bind_some hM
    rcases cond_cases hM with ⟨h24, hM⟩ | ⟨h24, hM⟩
    · have hE : some (Ctl.ret false) = some c1 := hM
      have hE := Option.some.inj hE
      subst hE
      have hE : some false = some r := hK1
      have hE := Option.some.inj hE
      subst hE
      exact pr R 9999 [.ln (a0.Legs.length), .as 9 true, .ix (Leg.enc v20), .call false [] (.o (.c (.v (.bool v22)))) [] [], .as 18 true] [] [] [] (And.intro (lenm Leg.enc a0.Legs) (And.intro h19 (And.intro (gi_map Leg.enc h21) (And.intro (spec_IsLeg_ok v20 v22 h23) (And.intro h24 True.intro))))) (by kernel_rfl)
    · have hE : some (Ctl.next (w64 (s1 + 1))) = some c1 := hM
      have hE := Option.some.inj hE
      subst hE
      exact pc R 9999 [.ln (a0.Legs.length), .as 9 true, .ix (Leg.enc v20), .call false [] (.o (.c (.v (.bool v22)))) [] [], .as 18 false] [.keep [1, 3] [0]] (And.intro (lenm Leg.enc a0.Legs) (And.intro h19 (And.intro (gi_map Leg.enc h21) (And.intro (spec_IsLeg_ok v20 v22 h23) (And.intro h24 True.intro))))) (by kernel_rfl) (li (Sf := spec_IsNetwork_L1_S a0) (M := Mk (spec_IsNetwork_L1 a0) (spec_IsNetwork_L1_k a0) r) (k := [.blk 0, .code (cAt Try.f66 [1, 1])]) (Nat.lt_succ_self m1) hK1)
  · have hE : some (Ctl.brk ()) = some c1 := hM
    have hE := Option.some.inj hE
    subst hE
    exact pc R 5 [.ln (a0.Legs.length), .as 9 false] [.keep [1] [0]] (And.intro (lenm Leg.enc a0.Legs) (And.intro h19 True.intro)) (by kernel_rfl) (K1 () hK1)

-- loop.example/g03014/spec.l1Has
def spec_l1Has_L1_b (a0 : (List Int)) (a1 : Int) (s1 : Int) : Option (Ctl Int Unit Bool) :=
  bif (decide (s1 < (a0.length : Int))) then
  (gi a0 s1).bind fun v3 =>
  bif (v3 == a1) then
  some (.ret true)
  else
  some (.next (w64 (s1 + 1)))
  else
  some (.brk ())
def spec_l1Has_L1 (a0 : (List Int)) (a1 : Int) (s : Int) : Option (Ctl Int Unit Bool) := spec_l1Has_L1_b a0 a1 s
def spec_l1Has_L1_s (a0 : (List Int)) (a1 : Int) (s1 : Int) : St := ⟨[(0, .o (.c (.rs 1 (a0.map encI)))), (1, .o (.c (.v (.int .i64 a1)))), (5, .o (.c (.v (.int .i64 s1))))], []⟩
def spec_l1Has_L1_S (a0 : (List Int)) (a1 : Int) (s : Int) : St := spec_l1Has_L1_s a0 a1 s
def spec_l1Has_L1_a : Option Bool :=
  some false
def spec_l1Has_L1_k (x : (Unit) ⊕ (Bool)) : Option Bool := match x with
  | .inl t => spec_l1Has_L1_a
  | .inr y => some y
def spec_l1Has (a0 : (List Int)) (a1 : Int) : Option Bool :=
  (loopM (spec_l1Has_L1 a0 a1) big 0).bind (spec_l1Has_L1_k)
theorem spec_l1Has_ok (a0 : (List Int)) (a1 : Int) (r : Bool) (hM : spec_l1Has a0 a1 = some r) :
    Con Try.prog 90 [.c (.rs 1 (a0.map encI)), .c (.v (.int .i64 a1))] [] (.o (.c (.v (.bool r)))) [] [] := by
  unfold spec_l1Has at hM
  refine cn (N := 18) (pids := []) Try_mixed Try.func90 (by kernel_rfl) (by kernel_rfl) (by kernel_rfl) rfl fun ρ g w R => ?_
  have K1 : ∀ (_ : Unit), spec_l1Has_L1_a = some r → Gr R [.code (cAt Try.f90 [1, 1])] (⟨[], []⟩) := by
    intro _ hM
    unfold spec_l1Has_L1_a at hM
    have hE : some false = some r := hM
    have hE := Option.some.inj hE
    subst hE
    exact pr R 9999 [] [] [] [] True.intro (by kernel_rfl)
  refine pc R 9999 [] [.keep [0, 1, 5] []] (k' := [.code (.loop (cAt Try.f90 [1, 0, 1, 0, 0])), .blk 0, .code (cAt Try.f90 [1, 1])]) (S' := spec_l1Has_L1_S a0 a1 0) True.intro (by kernel_rfl) ?_
  refine lq (spec_l1Has_L1_S a0 a1) (body := spec_l1Has_L1 a0 a1) (k := spec_l1Has_L1_k) hM fun m1 s c1 hM hK1 => ?_
  obtain ⟨s1, hs⟩ : ∃ z, z = s := ⟨_, rfl⟩
  subst hs
  have hM : spec_l1Has_L1_b a0 a1 s1 = some c1 := hM
  unfold spec_l1Has_L1_b at hM
  rcases cond_cases hM with ⟨h2, hM⟩ | ⟨h2, hM⟩
  · obtain ⟨v3, h4, hM⟩ := bind_some hM
    rcases cond_cases hM with ⟨h5, hM⟩ | ⟨h5, hM⟩
    · have hE : some (Ctl.ret true) = some c1 := hM
      have hE := Option.some.inj hE
      subst hE
      have hE : some true = some r := hK1
      have hE := Option.some.inj hE
      subst hE
      exact pr R 9999 [.ln (a0.length), .as 9 true, .ix (encI v3), .as 17 true] [] [] [] (And.intro (lenm encI a0) (And.intro h2 (And.intro (gi_map encI h4) (And.intro h5 True.intro)))) (by kernel_rfl)
    · have hE : some (Ctl.next (w64 (s1 + 1))) = some c1 := hM
      have hE := Option.some.inj hE
      subst hE
      exact pc R 9999 [.ln (a0.length), .as 9 true, .ix (encI v3), .as 17 false] [.keep [0, 1, 5] []] (And.intro (lenm encI a0) (And.intro h2 (And.intro (gi_map encI h4) (And.intro h5 True.intro)))) (by kernel_rfl) (li (Sf := spec_l1Has_L1_S a0 a1) (M := Mk (spec_l1Has_L1 a0 a1) (spec_l1Has_L1_k) r) (k := [.blk 0, .code (cAt Try.f90 [1, 1])]) (Nat.lt_succ_self m1) hK1)
  · have hE : some (Ctl.brk ()) = some c1 := hM
    have hE := Option.some.inj hE
    subst hE
    exact pc R 5 [.ln (a0.length), .as 9 false] [.keep [] []] (And.intro (lenm encI a0) (And.intro h2 True.intro)) (by kernel_rfl) (K1 () hK1)

-- loop.example/g03014/spec.l3Runs
def spec_l3Runs (a0 : Network) (a1 : Int) (a2 : Int) : Option Bool :=
  (spec_l1In a1 0 (w64 ((a0.Legs.length : Int) - 1))).bind fun v1 =>
  bif v1 then
  (spec_l1In a2 0 60).bind fun v4 =>
  bif v4 then
  (gi a0.Legs a1).bind fun v7 =>
  (shrM v7.Days (Int.tmod a2 7)).bind fun v9 =>
  bif ((w64 ((BitVec.ofInt 64 v9 &&& BitVec.ofInt 64 1).toNat)) == 1) then
  (spec_l1Has a0.Off a2).bind fun v12 =>
  some (!v12)
  else
  some false
  else
  some false
  else
  some false
theorem spec_l3Runs_ok (a0 : Network) (a1 : Int) (a2 : Int) (r : Bool) (hM : spec_l3Runs a0 a1 a2 = some r) :
    Con Try.prog 67 [.agg [.rs 6 (a0.Legs.map Leg.enc), .rs 1 (a0.Off.map encI), .v (.int .i64 a0.Change)], .c (.v (.int .i64 a1)), .c (.v (.int .i64 a2))] [] (.o (.c (.v (.bool r)))) [] [] := by
  unfold spec_l3Runs at hM
  refine cn (N := 37) (pids := []) Try_mixed Try.func67 (by kernel_rfl) (by kernel_rfl) (by kernel_rfl) rfl fun ρ g w R => ?_
  obtain ⟨v1, h2, hM⟩ := bind_some hM
  rcases cond_cases hM with ⟨h3, hM⟩ | ⟨h3, hM⟩
  · obtain ⟨v4, h5, hM⟩ := bind_some hM
    rcases cond_cases hM with ⟨h6, hM⟩ | ⟨h6, hM⟩
    · obtain ⟨v7, h8, hM⟩ := bind_some hM
      obtain ⟨v9, h10, hM⟩ := bind_some hM
      rcases cond_cases hM with ⟨h11, hM⟩ | ⟨h11, hM⟩
      · obtain ⟨v12, h13, hM⟩ := bind_some hM
        have hE : some (!v12) = some r := hM
        have hE := Option.some.inj hE
        subst hE
        exact pr R 9999 [.new 0, .ln (a0.Legs.length), .call false [] (.o (.c (.v (.bool v1)))) [] [], .as 13 true, .call false [] (.o (.c (.v (.bool v4)))) [] [], .as 17 true, .ix (Leg.enc v7), .run 26 (.int .i64 v9), .as 30 true, .call false [] (.o (.c (.v (.bool v12)))) [] []] [] [] [] (And.intro (lenm Leg.enc a0.Legs) (And.intro (spec_l1In_ok a1 0 (w64 ((a0.Legs.length : Int) - 1)) v1 h2) (And.intro h3 (And.intro (spec_l1In_ok a2 0 60 v4 h5) (And.intro h6 (And.intro (gi_map Leg.enc h8) (And.intro (shrM_run (P := Try.prog) (t := 3) (x := .tmp 0) (y := .tmp 0) h10) (And.intro h11 (And.intro (spec_l1Has_ok a0.Off a2 v12 h13) True.intro))))))))) (by kernel_rfl)
      · have hE : some false = some r := hM
        have hE := Option.some.inj hE
        subst hE
        exact pr R 9999 [.new 0, .ln (a0.Legs.length), .call false [] (.o (.c (.v (.bool v1)))) [] [], .as 13 true, .call false [] (.o (.c (.v (.bool v4)))) [] [], .as 17 true, .ix (Leg.enc v7), .run 26 (.int .i64 v9), .as 30 false] [] [] [] (And.intro (lenm Leg.enc a0.Legs) (And.intro (spec_l1In_ok a1 0 (w64 ((a0.Legs.length : Int) - 1)) v1 h2) (And.intro h3 (And.intro (spec_l1In_ok a2 0 60 v4 h5) (And.intro h6 (And.intro (gi_map Leg.enc h8) (And.intro (shrM_run (P := Try.prog) (t := 3) (x := .tmp 0) (y := .tmp 0) h10) (And.intro h11 True.intro)))))))) (by kernel_rfl)
    · have hE : some false = some r := hM
      have hE := Option.some.inj hE
      subst hE
      exact pr R 9999 [.new 0, .ln (a0.Legs.length), .call false [] (.o (.c (.v (.bool v1)))) [] [], .as 13 true, .call false [] (.o (.c (.v (.bool v4)))) [] [], .as 17 false] [] [] [] (And.intro (lenm Leg.enc a0.Legs) (And.intro (spec_l1In_ok a1 0 (w64 ((a0.Legs.length : Int) - 1)) v1 h2) (And.intro h3 (And.intro (spec_l1In_ok a2 0 60 v4 h5) (And.intro h6 True.intro))))) (by kernel_rfl)
  · have hE : some false = some r := hM
    have hE := Option.some.inj hE
    subst hE
    exact pr R 9999 [.new 0, .ln (a0.Legs.length), .call false [] (.o (.c (.v (.bool v1)))) [] [], .as 13 false] [] [] [] (And.intro (lenm Leg.enc a0.Legs) (And.intro (spec_l1In_ok a1 0 (w64 ((a0.Legs.length : Int) - 1)) v1 h2) (And.intro h3 True.intro))) (by kernel_rfl)

-- loop.example/g03014/spec.l6Before
def spec_l6Before (a0 : Booking) (a1 : Booking) : Option Bool :=
  bif (a0.Trip.Day != a1.Trip.Day) then
  some (decide (a0.Trip.Day < a1.Trip.Day))
  else
  bif (a0.Trip.Leg != a1.Trip.Leg) then
  some (decide (a0.Trip.Leg < a1.Trip.Leg))
  else
  some (decide (a0.Thing < a1.Thing))
theorem spec_l6Before_ok (a0 : Booking) (a1 : Booking) (r : Bool) (hM : spec_l6Before a0 a1 = some r) :
    Con Try.prog 69 [.c (.v (.agg (Booking.enc a0).toArray)), .c (.v (.agg (Booking.enc a1).toArray))] [] (.o (.c (.v (.bool r)))) [] [] := by
  unfold spec_l6Before at hM
  refine cn (N := 40) (pids := []) Try_mixed Try.func69 (by kernel_rfl) (by kernel_rfl) (by kernel_rfl) rfl fun ρ g w R => ?_
  rcases cond_cases hM with ⟨h1, hM⟩ | ⟨h1, hM⟩
  · have hE : some (decide (a0.Trip.Day < a1.Trip.Day)) = some r := hM
    have hE := Option.some.inj hE
    subst hE
    exact pr R 9999 [.new 0, .new 1, .as 5 true] [] [] [] (And.intro h1 True.intro) (by kernel_rfl)
  · rcases cond_cases hM with ⟨h2, hM⟩ | ⟨h2, hM⟩
    · have hE : some (decide (a0.Trip.Leg < a1.Trip.Leg)) = some r := hM
      have hE := Option.some.inj hE
      subst hE
      exact pr R 9999 [.new 0, .new 1, .as 5 false, .as 20 true] [] [] [] (And.intro h1 (And.intro h2 True.intro)) (by kernel_rfl)
    · have hE : some (decide (a0.Thing < a1.Thing)) = some r := hM
      have hE := Option.some.inj hE
      subst hE
      exact pr R 9999 [.new 0, .new 1, .as 5 false, .as 20 false] [] [] [] (And.intro h1 (And.intro h2 True.intro)) (by kernel_rfl)

-- loop.example/g03014/spec.LoadOf
def spec_LoadOf_L1_b (a0 : (List Booking)) (a1 : Trip) (s1 : Int) (s2 : Int) : Option (Ctl (Int × Int) Int Int) :=
  bif (decide (s2 < (a0.length : Int))) then
  (gi a0 s2).bind fun v5 =>
  bif (decide (v5.Trip = a1)) then
  (gi a0 s2).bind fun v8 =>
  some (.next (w64 (s1 + v8.Weight), w64 (s2 + 1)))
  else
  some (.next (s1, w64 (s2 + 1)))
  else
  some (.brk s1)
def spec_LoadOf_L1 (a0 : (List Booking)) (a1 : Trip) (s : Int × Int) : Option (Ctl (Int × Int) Int Int) := spec_LoadOf_L1_b a0 a1 s.1 s.2
def spec_LoadOf_L1_s (a0 : (List Booking)) (a1 : Trip) (s1 : Int) (s2 : Int) : St := ⟨[(0, .o (.c (.rs 4 (a0.map Booking.enc)))), (3, .o (.c (.ptr 0 0))), (5, .o (.c (.v (.int .i64 s1)))), (6, .o (.c (.v (.int .i64 s2))))], [(0, .box 55 [.v (.int .i64 a1.Leg), .v (.int .i64 a1.Day)])]⟩
def spec_LoadOf_L1_S (a0 : (List Booking)) (a1 : Trip) (s : Int × Int) : St := spec_LoadOf_L1_s a0 a1 s.1 s.2
def spec_LoadOf_L1_a (s3 : Int) : Option Int :=
  some s3
def spec_LoadOf_L1_k (x : (Int) ⊕ (Int)) : Option Int := match x with
  | .inl t => spec_LoadOf_L1_a t
  | .inr y => some y
def spec_LoadOf (a0 : (List Booking)) (a1 : Trip) : Option Int :=
  (loopM (spec_LoadOf_L1 a0 a1) big (0, 0)).bind (spec_LoadOf_L1_k)
theorem spec_LoadOf_ok (a0 : (List Booking)) (a1 : Trip) (r : Int) (hM : spec_LoadOf a0 a1 = some r) :
    Con Try.prog 70 [.c (.rs 4 (a0.map Booking.enc)), .c (.v (.agg (Trip.enc a1).toArray))] [] (.o (.c (.v (.int .i64 r)))) [] [] := by
  unfold spec_LoadOf at hM
  refine cn (N := 28) (pids := []) Try_mixed Try.func70 (by kernel_rfl) (by kernel_rfl) (by kernel_rfl) rfl fun ρ g w R => ?_
  have K1 : ∀ (s3 : Int), spec_LoadOf_L1_a s3 = some r → Gr R [.code (cAt Try.f70 [1, 1, 1])] (⟨[(5, .o (.c (.v (.int .i64 s3))))], []⟩) := by
    intro s3 hM
    unfold spec_LoadOf_L1_a at hM
    have hE : some s3 = some r := hM
    have hE := Option.some.inj hE
    subst hE
    exact pr R 9999 [] [] [] [] True.intro (by kernel_rfl)
  refine pc R 9999 [.new 0] [.keep [0, 3, 5, 6] [0]] (k' := [.code (.loop (cAt Try.f70 [1, 1, 0, 1, 0, 0])), .blk 0, .code (cAt Try.f70 [1, 1, 1])]) (S' := spec_LoadOf_L1_S a0 a1 (0, 0)) True.intro (by kernel_rfl) ?_
  refine lq (spec_LoadOf_L1_S a0 a1) (body := spec_LoadOf_L1 a0 a1) (k := spec_LoadOf_L1_k) hM fun m1 s c1 hM hK1 => ?_
  obtain ⟨s1, s2⟩ := s
  have hM : spec_LoadOf_L1_b a0 a1 s1 s2 = some c1 := hM
  unfold spec_LoadOf_L1_b at hM
  rcases cond_cases hM with ⟨h4, hM⟩ | ⟨h4, hM⟩
  · obtain ⟨v5, h6, hM⟩ := bind_some hM
    rcases cond_cases hM with ⟨h7, hM⟩ | ⟨h7, hM⟩
    · obtain ⟨v8, h9, hM⟩ := bind_some hM
      have hE : some (Ctl.next (w64 (s1 + v8.Weight), w64 (s2 + 1))) = some c1 := hM
      have hE := Option.some.inj hE
      subst hE
      exact pc R 9999 [.ln (a0.length), .as 10 true, .ix (Booking.enc v5), .run 19 (.bool (decide (v5.Trip = a1))), .as 19 true, .ix (Booking.enc v8)] [.keep [0, 3, 5, 6] [0]] (And.intro (lenm Booking.enc a0) (And.intro h4 (And.intro (gi_map Booking.enc h6) (And.intro (Trip_eql55 v5.Trip a1) (And.intro h7 (And.intro (gi_map Booking.enc h9) True.intro)))))) (by kernel_rfl) (li (Sf := spec_LoadOf_L1_S a0 a1) (M := Mk (spec_LoadOf_L1 a0 a1) (spec_LoadOf_L1_k) r) (k := [.blk 0, .code (cAt Try.f70 [1, 1, 1])]) (Nat.lt_succ_self m1) hK1)
    · have hE : some (Ctl.next (s1, w64 (s2 + 1))) = some c1 := hM
      have hE := Option.some.inj hE
      subst hE
      exact pc R 9999 [.ln (a0.length), .as 10 true, .ix (Booking.enc v5), .run 19 (.bool (decide (v5.Trip = a1))), .as 19 false] [.keep [0, 3, 5, 6] [0]] (And.intro (lenm Booking.enc a0) (And.intro h4 (And.intro (gi_map Booking.enc h6) (And.intro (Trip_eql55 v5.Trip a1) (And.intro h7 True.intro))))) (by kernel_rfl) (li (Sf := spec_LoadOf_L1_S a0 a1) (M := Mk (spec_LoadOf_L1 a0 a1) (spec_LoadOf_L1_k) r) (k := [.blk 0, .code (cAt Try.f70 [1, 1, 1])]) (Nat.lt_succ_self m1) hK1)
  · have hE : some (Ctl.brk s1) = some c1 := hM
    have hE := Option.some.inj hE
    subst hE
    exact pc R 5 [.ln (a0.length), .as 10 false] [.keep [5] []] (And.intro (lenm Booking.enc a0) (And.intro h4 True.intro)) (by kernel_rfl) (K1 s1 hK1)

-- loop.example/g03014/spec.AreBookings
def spec_AreBookings_L2_b (a0 : Network) (a1 : (List Booking)) (s6 : Int) : Option (Ctl Int Unit Bool) :=
  bif (decide (s6 < (a1.length : Int))) then
  (gi a1 s6).bind fun v8 =>
  (spec_LoadOf a1 v8.Trip).bind fun v10 =>
  (gi a1 s6).bind fun v12 =>
  (gi a0.Legs v12.Trip.Leg).bind fun v14 =>
  bif (decide (v10 > v14.Room)) then
  some (.ret false)
  else
  some (.next (w64 (s6 + 1)))
  else
  some (.brk ())
def spec_AreBookings_L2 (a0 : Network) (a1 : (List Booking)) (s : Int) : Option (Ctl Int Unit Bool) := spec_AreBookings_L2_b a0 a1 s
def spec_AreBookings_L2_s (a0 : Network) (a1 : (List Booking)) (s6 : Int) : St := ⟨[(1, .o (.c (.rs 4 (a1.map Booking.enc)))), (2, .o (.c (.ptr 0 0))), (7, .o (.c (.v (.int .i64 s6))))], [(0, .box 36 [.rs 6 (a0.Legs.map Leg.enc), .rs 1 (a0.Off.map encI), .v (.int .i64 a0.Change)])]⟩
def spec_AreBookings_L2_S (a0 : Network) (a1 : (List Booking)) (s : Int) : St := spec_AreBookings_L2_s a0 a1 s
def spec_AreBookings_L2_a : Option Bool :=
  some true
def spec_AreBookings_L2_k (x : (Unit) ⊕ (Bool)) : Option Bool := match x with
  | .inl t => spec_AreBookings_L2_a
  | .inr y => some y
def spec_AreBookings_L1_b (a0 : Network) (a1 : (List Booking)) (s5 : Int) : Option (Ctl Int Unit Bool) :=
  bif (decide (s5 < (a1.length : Int))) then
  (gi a1 s5).bind fun v18 =>
  (spec_l3Runs a0 v18.Trip.Leg v18.Trip.Day).bind fun v20 =>
  bif (!v20) then
  some (.ret false)
  else
  (spec_l1In v18.Thing 1 9999).bind fun v23 =>
  bif (!v23) then
  some (.ret false)
  else
  (spec_l1In v18.Weight 1 1000000).bind fun v26 =>
  bif (!v26) then
  some (.ret false)
  else
  bif (decide (s5 > 0)) then
  (gi a1 (w64 (s5 - 1))).bind fun v30 =>
  (spec_l6Before v30 v18).bind fun v32 =>
  bif (!v32) then
  some (.ret false)
  else
  some (.next (w64 (s5 + 1)))
  else
  some (.next (w64 (s5 + 1)))
  else
  some (.brk ())
def spec_AreBookings_L1 (a0 : Network) (a1 : (List Booking)) (s : Int) : Option (Ctl Int Unit Bool) := spec_AreBookings_L1_b a0 a1 s
def spec_AreBookings_L1_s (a0 : Network) (a1 : (List Booking)) (s5 : Int) : St := ⟨[(1, .o (.c (.rs 4 (a1.map Booking.enc)))), (2, .o (.c (.ptr 0 0))), (5, .o (.c (.v (.int .i64 s5))))], [(0, .box 36 [.rs 6 (a0.Legs.map Leg.enc), .rs 1 (a0.Off.map encI), .v (.int .i64 a0.Change)])]⟩
def spec_AreBookings_L1_S (a0 : Network) (a1 : (List Booking)) (s : Int) : St := spec_AreBookings_L1_s a0 a1 s
def spec_AreBookings_L1_a (a0 : Network) (a1 : (List Booking)) : Option Bool :=
  (loopM (spec_AreBookings_L2 a0 a1) big 0).bind (spec_AreBookings_L2_k)
def spec_AreBookings_L1_k (a0 : Network) (a1 : (List Booking)) (x : (Unit) ⊕ (Bool)) : Option Bool := match x with
  | .inl t => spec_AreBookings_L1_a a0 a1
  | .inr y => some y
def spec_AreBookings (a0 : Network) (a1 : (List Booking)) : Option Bool :=
  (spec_IsNetwork a0).bind fun v1 =>
  bif (!v1) then
  some false
  else
  bif (decide ((a1.length : Int) > 120)) then
  some false
  else
  (loopM (spec_AreBookings_L1 a0 a1) big 0).bind (spec_AreBookings_L1_k a0 a1)
theorem spec_AreBookings_ok (a0 : Network) (a1 : (List Booking)) (r : Bool) (hM : spec_AreBookings a0 a1 = some r) :
    Con Try.prog 33 [.agg [.rs 6 (a0.Legs.map Leg.enc), .rs 1 (a0.Off.map encI), .v (.int .i64 a0.Change)], .c (.rs 4 (a1.map Booking.enc))] [] (.o (.c (.v (.bool r)))) [] [] := by
  unfold spec_AreBookings at hM
  refine cn (N := 86) (pids := []) Try_mixed Try.func33 (by kernel_rfl) (by kernel_rfl) (by kernel_rfl) rfl fun ρ g w R => ?_
  obtain ⟨v1, h2, hM⟩ := bind_some hM
  rcases cond_cases hM with ⟨h3, hM⟩ | ⟨h3, hM⟩
  · have hE : some false = some r := hM
    have hE := Option.some.inj hE
    subst hE
    exact pr R 9999 [.new 0, .call false [] (.o (.c (.v (.bool v1)))) [] [], .as 11 true] [] [] [] (And.intro (spec_IsNetwork_ok a0 v1 h2) (And.intro h3 True.intro)) (by kernel_rfl)
  · rcases cond_cases hM with ⟨h4, hM⟩ | ⟨h4, hM⟩
    · have hE : some false = some r := hM
      have hE := Option.some.inj hE
      subst hE
      exact pr R 9999 [.new 0, .call false [] (.o (.c (.v (.bool v1)))) [] [], .as 11 false, .ln (a1.length), .as 15 true] [] [] [] (And.intro (spec_IsNetwork_ok a0 v1 h2) (And.intro h3 (And.intro (lenm Booking.enc a1) (And.intro h4 True.intro)))) (by kernel_rfl)
    · have K1 : ∀ (_ : Unit), spec_AreBookings_L1_a a0 a1 = some r → Gr R [.code (cAt Try.f33 [1, 1, 1])] (⟨[(1, .o (.c (.rs 4 (a1.map Booking.enc)))), (2, .o (.c (.ptr 0 0)))], [(0, .box 36 [.rs 6 (a0.Legs.map Leg.enc), .rs 1 (a0.Off.map encI), .v (.int .i64 a0.Change)])]⟩) := by
        intro _ hM
        unfold spec_AreBookings_L1_a at hM
        have K2 : ∀ (_ : Unit), spec_AreBookings_L2_a = some r → Gr R [.code (cAt Try.f33 [1, 1, 1, 1])] (⟨[], []⟩) := by
          intro _ hM
          unfold spec_AreBookings_L2_a at hM
          have hE : some true = some r := hM
          have hE := Option.some.inj hE
          subst hE
          exact pr R 9999 [] [] [] [] True.intro (by kernel_rfl)
        refine pc R 9999 [] [.keep [1, 2, 7] [0]] (k' := [.code (.loop (cAt Try.f33 [1, 1, 1, 0, 1, 0, 0])), .blk 2, .code (cAt Try.f33 [1, 1, 1, 1])]) (S' := spec_AreBookings_L2_S a0 a1 0) True.intro (by kernel_rfl) ?_
        refine lq (spec_AreBookings_L2_S a0 a1) (body := spec_AreBookings_L2 a0 a1) (k := spec_AreBookings_L2_k) hM fun m2 s c2 hM hK2 => ?_
        obtain ⟨s6, hs⟩ : ∃ z, z = s := ⟨_, rfl⟩
        subst hs
        have hM : spec_AreBookings_L2_b a0 a1 s6 = some c2 := hM
        unfold spec_AreBookings_L2_b at hM
        rcases cond_cases hM with ⟨h7, hM⟩ | ⟨h7, hM⟩
        · obtain ⟨v8, h9, hM⟩ := bind_some hM
          obtain ⟨v10, h11, hM⟩ := bind_some hM
          obtain ⟨v12, h13, hM⟩ := bind_some hM
          obtain ⟨v14, h15, hM⟩ := bind_some hM
          rcases cond_cases hM with ⟨h16, hM⟩ | ⟨h16, hM⟩
          · have hE : some (Ctl.ret false) = some c2 := hM
            have hE := Option.some.inj hE
            subst hE
            have hE : some false = some r := hK2
            have hE := Option.some.inj hE
            subst hE
            exact pr R 9999 [.ln (a1.length), .as 64 true, .ix (Booking.enc v8), .call false [] (.o (.c (.v (.int .i64 v10)))) [] [], .ix (Booking.enc v12), .ix (Leg.enc v14), .as 85 true] [] [] [] (And.intro (lenm Booking.enc a1) (And.intro h7 (And.intro (gi_map Booking.enc h9) (And.intro (spec_LoadOf_ok a1 v8.Trip v10 h11) (And.intro (gi_map Booking.enc h13) (And.intro (gi_map Leg.enc h15) (And.intro h16 True.intro))))))) (by kernel_rfl)
          · have hE : some (Ctl.next (w64 (s6 + 1))) = some c2 := hM
            have hE := Option.some.inj hE
            subst hE
            exact pc R 9999 [.ln (a1.length), .as 64 true, .ix (Booking.enc v8), .call false [] (.o (.c (.v (.int .i64 v10)))) [] [], .ix (Booking.enc v12), .ix (Leg.enc v14), .as 85 false] [.keep [1, 2, 7] [0]] (And.intro (lenm Booking.enc a1) (And.intro h7 (And.intro (gi_map Booking.enc h9) (And.intro (spec_LoadOf_ok a1 v8.Trip v10 h11) (And.intro (gi_map Booking.enc h13) (And.intro (gi_map Leg.enc h15) (And.intro h16 True.intro))))))) (by kernel_rfl) (li (Sf := spec_AreBookings_L2_S a0 a1) (M := Mk (spec_AreBookings_L2 a0 a1) (spec_AreBookings_L2_k) r) (k := [.blk 2, .code (cAt Try.f33 [1, 1, 1, 1])]) (Nat.lt_succ_self m2) hK2)
        · have hE : some (Ctl.brk ()) = some c2 := hM
          have hE := Option.some.inj hE
          subst hE
          exact pc R 5 [.ln (a1.length), .as 64 false] [.keep [] []] (And.intro (lenm Booking.enc a1) (And.intro h7 True.intro)) (by kernel_rfl) (K2 () hK2)
      refine pc R 9999 [.new 0, .call false [] (.o (.c (.v (.bool v1)))) [] [], .as 11 false, .ln (a1.length), .as 15 false] [.keep [1, 2, 5] [0]] (k' := [.code (.loop (cAt Try.f33 [1, 1, 0, 1, 0, 0])), .blk 0, .code (cAt Try.f33 [1, 1, 1])]) (S' := spec_AreBookings_L1_S a0 a1 0) (And.intro (spec_IsNetwork_ok a0 v1 h2) (And.intro h3 (And.intro (lenm Booking.enc a1) (And.intro h4 True.intro)))) (by kernel_rfl) ?_
      refine lq (spec_AreBookings_L1_S a0 a1) (body := spec_AreBookings_L1 a0 a1) (k := spec_AreBookings_L1_k a0 a1) hM fun m1 s c1 hM hK1 => ?_
      obtain ⟨s5, hs⟩ : ∃ z, z = s := ⟨_, rfl⟩
      subst hs
      have hM : spec_AreBookings_L1_b a0 a1 s5 = some c1 := hM
      unfold spec_AreBookings_L1_b at hM
      rcases cond_cases hM with ⟨h17, hM⟩ | ⟨h17, hM⟩
      · obtain ⟨v18, h19, hM⟩ := bind_some hM
        obtain ⟨v20, h21, hM⟩ := bind_some hM
        rcases cond_cases hM with ⟨h22, hM⟩ | ⟨h22, hM⟩
        · have hE : some (Ctl.ret false) = some c1 := hM
          have hE := Option.some.inj hE
          subst hE
          have hE : some false = some r := hK1
          have hE := Option.some.inj hE
          subst hE
          exact pr R 9999 [.ln (a1.length), .as 19 true, .ix (Booking.enc v18), .new 1, .call false [] (.o (.c (.v (.bool v20)))) [] [], .as 35 true] [] [] [] (And.intro (lenm Booking.enc a1) (And.intro h17 (And.intro (gi_map Booking.enc h19) (And.intro (spec_l3Runs_ok a0 v18.Trip.Leg v18.Trip.Day v20 h21) (And.intro h22 True.intro))))) (by kernel_rfl)
        · obtain ⟨v23, h24, hM⟩ := bind_some hM
          rcases cond_cases hM with ⟨h25, hM⟩ | ⟨h25, hM⟩
          · have hE : some (Ctl.ret false) = some c1 := hM
            have hE := Option.some.inj hE
            subst hE
            have hE : some false = some r := hK1
            have hE := Option.some.inj hE
            subst hE
            exact pr R 9999 [.ln (a1.length), .as 19 true, .ix (Booking.enc v18), .new 1, .call false [] (.o (.c (.v (.bool v20)))) [] [], .as 35 false, .call false [] (.o (.c (.v (.bool v23)))) [] [], .as 41 true] [] [] [] (And.intro (lenm Booking.enc a1) (And.intro h17 (And.intro (gi_map Booking.enc h19) (And.intro (spec_l3Runs_ok a0 v18.Trip.Leg v18.Trip.Day v20 h21) (And.intro h22 (And.intro (spec_l1In_ok v18.Thing 1 9999 v23 h24) (And.intro h25 True.intro))))))) (by kernel_rfl)
          · obtain ⟨v26, h27, hM⟩ := bind_some hM
            rcases cond_cases hM with ⟨h28, hM⟩ | ⟨h28, hM⟩
            · have hE : some (Ctl.ret false) = some c1 := hM
              have hE := Option.some.inj hE
              subst hE
              have hE : some false = some r := hK1
              have hE := Option.some.inj hE
              subst hE
              exact pr R 9999 [.ln (a1.length), .as 19 true, .ix (Booking.enc v18), .new 1, .call false [] (.o (.c (.v (.bool v20)))) [] [], .as 35 false, .call false [] (.o (.c (.v (.bool v23)))) [] [], .as 41 false, .call false [] (.o (.c (.v (.bool v26)))) [] [], .as 47 true] [] [] [] (And.intro (lenm Booking.enc a1) (And.intro h17 (And.intro (gi_map Booking.enc h19) (And.intro (spec_l3Runs_ok a0 v18.Trip.Leg v18.Trip.Day v20 h21) (And.intro h22 (And.intro (spec_l1In_ok v18.Thing 1 9999 v23 h24) (And.intro h25 (And.intro (spec_l1In_ok v18.Weight 1 1000000 v26 h27) (And.intro h28 True.intro))))))))) (by kernel_rfl)
            · rcases cond_cases hM with ⟨h29, hM⟩ | ⟨h29, hM⟩
              · obtain ⟨v30, h31, hM⟩ := bind_some hM
                obtain ⟨v32, h33, hM⟩ := bind_some hM
                rcases cond_cases hM with ⟨h34, hM⟩ | ⟨h34, hM⟩
                · have hE : some (Ctl.ret false) = some c1 := hM
                  have hE := Option.some.inj hE
                  subst hE
                  have hE : some false = some r := hK1
                  have hE := Option.some.inj hE
                  subst hE
                  exact pr R 9999 [.ln (a1.length), .as 19 true, .ix (Booking.enc v18), .new 1, .call false [] (.o (.c (.v (.bool v20)))) [] [], .as 35 false, .call false [] (.o (.c (.v (.bool v23)))) [] [], .as 41 false, .call false [] (.o (.c (.v (.bool v26)))) [] [], .as 47 false, .as 50 true, .ix (Booking.enc v30), .call false [] (.o (.c (.v (.bool v32)))) [] [], .as 60 true] [] [] [] (And.intro (lenm Booking.enc a1) (And.intro h17 (And.intro (gi_map Booking.enc h19) (And.intro (spec_l3Runs_ok a0 v18.Trip.Leg v18.Trip.Day v20 h21) (And.intro h22 (And.intro (spec_l1In_ok v18.Thing 1 9999 v23 h24) (And.intro h25 (And.intro (spec_l1In_ok v18.Weight 1 1000000 v26 h27) (And.intro h28 (And.intro h29 (And.intro (gi_map Booking.enc h31) (And.intro (spec_l6Before_ok v30 v18 v32 h33) (And.intro h34 True.intro))))))))))))) (by kernel_rfl)
                · have hE : some (Ctl.next (w64 (s5 + 1))) = some c1 := hM
                  have hE := Option.some.inj hE
                  subst hE
                  exact pc R 9999 [.ln (a1.length), .as 19 true, .ix (Booking.enc v18), .new 1, .call false [] (.o (.c (.v (.bool v20)))) [] [], .as 35 false, .call false [] (.o (.c (.v (.bool v23)))) [] [], .as 41 false, .call false [] (.o (.c (.v (.bool v26)))) [] [], .as 47 false, .as 50 true, .ix (Booking.enc v30), .call false [] (.o (.c (.v (.bool v32)))) [] [], .as 60 false] [.keep [1, 2, 5] [0]] (And.intro (lenm Booking.enc a1) (And.intro h17 (And.intro (gi_map Booking.enc h19) (And.intro (spec_l3Runs_ok a0 v18.Trip.Leg v18.Trip.Day v20 h21) (And.intro h22 (And.intro (spec_l1In_ok v18.Thing 1 9999 v23 h24) (And.intro h25 (And.intro (spec_l1In_ok v18.Weight 1 1000000 v26 h27) (And.intro h28 (And.intro h29 (And.intro (gi_map Booking.enc h31) (And.intro (spec_l6Before_ok v30 v18 v32 h33) (And.intro h34 True.intro))))))))))))) (by kernel_rfl) (li (Sf := spec_AreBookings_L1_S a0 a1) (M := Mk (spec_AreBookings_L1 a0 a1) (spec_AreBookings_L1_k a0 a1) r) (k := [.blk 0, .code (cAt Try.f33 [1, 1, 1])]) (Nat.lt_succ_self m1) hK1)
              · have hE : some (Ctl.next (w64 (s5 + 1))) = some c1 := hM
                have hE := Option.some.inj hE
                subst hE
                exact pc R 9999 [.ln (a1.length), .as 19 true, .ix (Booking.enc v18), .new 1, .call false [] (.o (.c (.v (.bool v20)))) [] [], .as 35 false, .call false [] (.o (.c (.v (.bool v23)))) [] [], .as 41 false, .call false [] (.o (.c (.v (.bool v26)))) [] [], .as 47 false, .as 50 false] [.keep [1, 2, 5] [0]] (And.intro (lenm Booking.enc a1) (And.intro h17 (And.intro (gi_map Booking.enc h19) (And.intro (spec_l3Runs_ok a0 v18.Trip.Leg v18.Trip.Day v20 h21) (And.intro h22 (And.intro (spec_l1In_ok v18.Thing 1 9999 v23 h24) (And.intro h25 (And.intro (spec_l1In_ok v18.Weight 1 1000000 v26 h27) (And.intro h28 (And.intro h29 True.intro)))))))))) (by kernel_rfl) (li (Sf := spec_AreBookings_L1_S a0 a1) (M := Mk (spec_AreBookings_L1 a0 a1) (spec_AreBookings_L1_k a0 a1) r) (k := [.blk 0, .code (cAt Try.f33 [1, 1, 1])]) (Nat.lt_succ_self m1) hK1)
      · have hE : some (Ctl.brk ()) = some c1 := hM
        have hE := Option.some.inj hE
        subst hE
        exact pc R 5 [.ln (a1.length), .as 19 false] [.keep [1, 2] [0]] (And.intro (lenm Booking.enc a1) (And.intro h17 True.intro)) (by kernel_rfl) (K1 () hK1)

-- loop.example/g03014/spec.Max
def spec_Max (a0 : Int) (a1 : Int) : Option Int :=
  bif (decide (a1 > a0)) then
  some a1
  else
  some a0
theorem spec_Max_ok (a0 : Int) (a1 : Int) (r : Int) (hM : spec_Max a0 a1 = some r) :
    Con Try.prog 122 [.c (.v (.int .i64 a0)), .c (.v (.int .i64 a1))] [] (.o (.c (.v (.int .i64 r)))) [] [] := by
  unfold spec_Max at hM
  refine cn (N := 10) (pids := []) Try_mixed Try.func122 (by kernel_rfl) (by kernel_rfl) (by kernel_rfl) rfl fun ρ g w R => ?_
  rcases cond_cases hM with ⟨h1, hM⟩ | ⟨h1, hM⟩
  · have hE : some a1 = some r := hM
    have hE := Option.some.inj hE
    subst hE
    exact pr R 9999 [.as 7 true] [] [] [] (And.intro h1 True.intro) (by kernel_rfl)
  · have hE : some a0 = some r := hM
    have hE := Option.some.inj hE
    subst hE
    exact pr R 9999 [.as 7 false] [] [] [] (And.intro h1 True.intro) (by kernel_rfl)

-- loop.example/g03014/spec.l4First
def spec_l4First_L1_b (a0 : (List ByteArray)) (a1 : Int) (a2 : Int) (s1 : (List Int)) (s2 : Int) : Option (Ctl ((List Int) × Int) (List Int) (List Int)) :=
  bif (decide (s2 < (a0.length : Int))) then
  bif (s2 == a1) then
  (spec_Max a2 0).bind fun v6 =>
  (ap 8 s1 ([v6] : List Int)).bind fun v8 =>
  some (.next (v8, w64 (s2 + 1)))
  else
  (ap 8 s1 ([(-1)] : List Int)).bind fun v10 =>
  some (.next (v10, w64 (s2 + 1)))
  else
  some (.brk s1)
def spec_l4First_L1 (a0 : (List ByteArray)) (a1 : Int) (a2 : Int) (s : (List Int) × Int) : Option (Ctl ((List Int) × Int) (List Int) (List Int)) := spec_l4First_L1_b a0 a1 a2 s.1 s.2
def spec_l4First_L1_s (a0 : (List ByteArray)) (a1 : Int) (a2 : Int) (s1 : (List Int)) (s2 : Int) : St := ⟨[(0, .o (.c (.rs 1 (a0.map encS)))), (1, .o (.c (.v (.int .i64 a1)))), (2, .o (.c (.v (.int .i64 a2)))), (7, .o (.c (.sl 0))), (8, .o (.c (.v (.int .i64 s2))))], [(0, .row 3 1 (s1.map encI))]⟩
def spec_l4First_L1_S (a0 : (List ByteArray)) (a1 : Int) (a2 : Int) (s : (List Int) × Int) : St := spec_l4First_L1_s a0 a1 a2 s.1 s.2
def spec_l4First_L1_a (s3 : (List Int)) : Option (List Int) :=
  some s3
def spec_l4First_L1_k (x : ((List Int)) ⊕ ((List Int))) : Option (List Int) := match x with
  | .inl t => spec_l4First_L1_a t
  | .inr y => some y
def spec_l4First (a0 : (List ByteArray)) (a1 : Int) (a2 : Int) : Option (List Int) :=
  (loopM (spec_l4First_L1 a0 a1 a2) big (([] : List Int), 0)).bind (spec_l4First_L1_k)
theorem spec_l4First_ok (a0 : (List ByteArray)) (a1 : Int) (a2 : Int) (r : (List Int)) (hM : spec_l4First a0 a1 a2 = some r) :
    Con Try.prog 114 [.c (.rs 1 (a0.map encS)), .c (.v (.int .i64 a1)), .c (.v (.int .i64 a2))] [] (.o (.c (.sl 1000))) [] [(1000, .row 3 1 (r.map encI))] := by
  unfold spec_l4First at hM
  refine cn (N := 28) (pids := []) Try_mixed Try.func114 (by kernel_rfl) (by kernel_rfl) (by kernel_rfl) rfl fun ρ g w R => ?_
  have K1 : ∀ (s3 : (List Int)), spec_l4First_L1_a s3 = some r → Gr R [.code (cAt Try.f114 [1, 1, 1])] (⟨[(7, .o (.c (.sl 0)))], [(0, .row 3 1 (s3.map encI))]⟩) := by
    intro s3 hM
    unfold spec_l4First_L1_a at hM
    have hE : some s3 = some r := hM
    have hE := Option.some.inj hE
    subst hE
    exact pr R 9999 [] [.sw 0 1000] [] [1000] True.intro (by kernel_rfl)
  refine pc R 9999 [.new 0] [.keep [0, 1, 2, 7, 8] [0]] (k' := [.code (.loop (cAt Try.f114 [1, 1, 0, 1, 0, 0])), .blk 0, .code (cAt Try.f114 [1, 1, 1])]) (S' := spec_l4First_L1_S a0 a1 a2 (([] : List Int), 0)) True.intro (by kernel_rfl) ?_
  refine lq (spec_l4First_L1_S a0 a1 a2) (body := spec_l4First_L1 a0 a1 a2) (k := spec_l4First_L1_k) hM fun m1 s c1 hM hK1 => ?_
  obtain ⟨s1, s2⟩ := s
  have hM : spec_l4First_L1_b a0 a1 a2 s1 s2 = some c1 := hM
  unfold spec_l4First_L1_b at hM
  rcases cond_cases hM with ⟨h4, hM⟩ | ⟨h4, hM⟩
  · rcases cond_cases hM with ⟨h5, hM⟩ | ⟨h5, hM⟩
    · obtain ⟨v6, h7, hM⟩ := bind_some hM
      obtain ⟨v8, h9, hM⟩ := bind_some hM
      have hE : some (Ctl.next (v8, w64 (s2 + 1))) = some c1 := hM
      have hE := Option.some.inj hE
      subst hE
      exact pc R 9999 [.ln (a0.length), .as 13 true, .as 18 true, .call false [] (.o (.c (.v (.int .i64 v6)))) [] [], .new 1, .new 2, .nm (v8.map encI)] [.sw 2 0, .keep [0, 1, 2, 7, 8] [0]] (And.intro (lenm encS a0) (And.intro h4 (And.intro h5 (And.intro (spec_Max_ok a2 0 v6 h7) (And.intro (ap_ok encI h9) True.intro))))) (by kernel_rfl) (li (Sf := spec_l4First_L1_S a0 a1 a2) (M := Mk (spec_l4First_L1 a0 a1 a2) (spec_l4First_L1_k) r) (k := [.blk 0, .code (cAt Try.f114 [1, 1, 1])]) (Nat.lt_succ_self m1) hK1)
    · obtain ⟨v10, h11, hM⟩ := bind_some hM
      have hE : some (Ctl.next (v10, w64 (s2 + 1))) = some c1 := hM
      have hE := Option.some.inj hE
      subst hE
      exact pc R 9999 [.ln (a0.length), .as 13 true, .as 18 false, .new 3, .new 4, .nm (v10.map encI)] [.sw 4 0, .keep [0, 1, 2, 7, 8] [0]] (And.intro (lenm encS a0) (And.intro h4 (And.intro h5 (And.intro (ap_ok encI h11) True.intro)))) (by kernel_rfl) (li (Sf := spec_l4First_L1_S a0 a1 a2) (M := Mk (spec_l4First_L1 a0 a1 a2) (spec_l4First_L1_k) r) (k := [.blk 0, .code (cAt Try.f114 [1, 1, 1])]) (Nat.lt_succ_self m1) hK1)
  · have hE : some (Ctl.brk s1) = some c1 := hM
    have hE := Option.some.inj hE
    subst hE
    exact pc R 5 [.ln (a0.length), .as 13 false] [.keep [7] [0]] (And.intro (lenm encS a0) (And.intro h4 True.intro)) (by kernel_rfl) (K1 s1 hK1)

-- loop.example/g03014/spec.l1Ints
def spec_l1Ints (a0 : (List Int)) : Option (List Int) :=
  (ap 8 ([] : List Int) a0).bind fun v1 =>
  some v1
theorem spec_l1Ints_ok (a0 : (List Int)) (r : (List Int)) (hM : spec_l1Ints a0 = some r) :
    Con Try.prog 123 [.c (.rs 1 (a0.map encI))] [] (.o (.c (.sl 1000))) [] [(1000, .row 3 1 (r.map encI))] := by
  unfold spec_l1Ints at hM
  refine cn (N := 6) (pids := []) Try_mixed Try.func123 (by kernel_rfl) (by kernel_rfl) (by kernel_rfl) rfl fun ρ g w R => ?_
  obtain ⟨v1, h2, hM⟩ := bind_some hM
  have hE : some v1 = some r := hM
  have hE := Option.some.inj hE
  subst hE
  exact pr R 9999 [.new 0, .new 1, .nm (v1.map encI)] [.sw 1 1000] [] [1000] (And.intro (ap_ok encI h2) True.intro) (by kernel_rfl)

-- loop.example/g03014/spec.l4Ready
def spec_l4Ready (a0 : Network) (a1 : Int) (a2 : Bool) : Option Int :=
  bif a2 then
  some a1
  else
  some (w64 (a1 + a0.Change))
theorem spec_l4Ready_ok (a0 : Network) (a1 : Int) (a2 : Bool) (r : Int) (hM : spec_l4Ready a0 a1 a2 = some r) :
    Con Try.prog 117 [.agg [.rs 6 (a0.Legs.map Leg.enc), .rs 1 (a0.Off.map encI), .v (.int .i64 a0.Change)], .c (.v (.int .i64 a1)), .c (.v (.bool a2))] [] (.o (.c (.v (.int .i64 r)))) [] [] := by
  unfold spec_l4Ready at hM
  refine cn (N := 13) (pids := []) Try_mixed Try.func117 (by kernel_rfl) (by kernel_rfl) (by kernel_rfl) rfl fun ρ g w R => ?_
  rcases cond_cases hM with ⟨h1, hM⟩ | ⟨h1, hM⟩
  · have hE : some a1 = some r := hM
    have hE := Option.some.inj hE
    subst hE
    exact pr R 9999 [.new 0, .as 7 true] [] [] [] (And.intro h1 True.intro) (by kernel_rfl)
  · have hE : some (w64 (a1 + a0.Change)) = some r := hM
    have hE := Option.some.inj hE
    subst hE
    exact pr R 9999 [.new 0, .as 7 false] [] [] [] (And.intro h1 True.intro) (by kernel_rfl)

-- loop.example/g03014/spec.l3Starts
def spec_l3Starts (a0 : Network) (a1 : Trip) : Option Int :=
  (gi a0.Legs a1.Leg).bind fun v1 =>
  some (w64 ((w64 (a1.Day * 1440)) + v1.Start))
theorem spec_l3Starts_ok (a0 : Network) (a1 : Trip) (r : Int) (hM : spec_l3Starts a0 a1 = some r) :
    Con Try.prog 120 [.agg [.rs 6 (a0.Legs.map Leg.enc), .rs 1 (a0.Off.map encI), .v (.int .i64 a0.Change)], .c (.v (.agg (Trip.enc a1).toArray))] [] (.o (.c (.v (.int .i64 r)))) [] [] := by
  unfold spec_l3Starts at hM
  refine cn (N := 16) (pids := []) Try_mixed Try.func120 (by kernel_rfl) (by kernel_rfl) (by kernel_rfl) rfl fun ρ g w R => ?_
  obtain ⟨v1, h2, hM⟩ := bind_some hM
  have hE : some (w64 ((w64 (a1.Day * 1440)) + v1.Start)) = some r := hM
  have hE := Option.some.inj hE
  subst hE
  exact pr R 9999 [.new 0, .new 1, .ix (Leg.enc v1)] [] [] [] (And.intro (gi_map Leg.enc h2) True.intro) (by kernel_rfl)

-- loop.example/g03014/spec.l6Closed
def spec_l6Closed_L1_b (a0 : (List Trip)) (a1 : Trip) (s1 : Int) : Option (Ctl Int Unit Bool) :=
  bif (decide (s1 < (a0.length : Int))) then
  (gi a0 s1).bind fun v3 =>
  bif (decide (v3 = a1)) then
  some (.ret true)
  else
  some (.next (w64 (s1 + 1)))
  else
  some (.brk ())
def spec_l6Closed_L1 (a0 : (List Trip)) (a1 : Trip) (s : Int) : Option (Ctl Int Unit Bool) := spec_l6Closed_L1_b a0 a1 s
def spec_l6Closed_L1_s (a0 : (List Trip)) (a1 : Trip) (s1 : Int) : St := ⟨[(0, .o (.c (.rs 2 (a0.map Trip.enc)))), (3, .o (.c (.ptr 0 0))), (5, .o (.c (.v (.int .i64 s1))))], [(0, .box 55 [.v (.int .i64 a1.Leg), .v (.int .i64 a1.Day)])]⟩
def spec_l6Closed_L1_S (a0 : (List Trip)) (a1 : Trip) (s : Int) : St := spec_l6Closed_L1_s a0 a1 s
def spec_l6Closed_L1_a : Option Bool :=
  some false
def spec_l6Closed_L1_k (x : (Unit) ⊕ (Bool)) : Option Bool := match x with
  | .inl t => spec_l6Closed_L1_a
  | .inr y => some y
def spec_l6Closed (a0 : (List Trip)) (a1 : Trip) : Option Bool :=
  (loopM (spec_l6Closed_L1 a0 a1) big 0).bind (spec_l6Closed_L1_k)
theorem spec_l6Closed_ok (a0 : (List Trip)) (a1 : Trip) (r : Bool) (hM : spec_l6Closed a0 a1 = some r) :
    Con Try.prog 124 [.c (.rs 2 (a0.map Trip.enc)), .c (.v (.agg (Trip.enc a1).toArray))] [] (.o (.c (.v (.bool r)))) [] [] := by
  unfold spec_l6Closed at hM
  refine cn (N := 18) (pids := []) Try_mixed Try.func124 (by kernel_rfl) (by kernel_rfl) (by kernel_rfl) rfl fun ρ g w R => ?_
  have K1 : ∀ (_ : Unit), spec_l6Closed_L1_a = some r → Gr R [.code (cAt Try.f124 [1, 1])] (⟨[], []⟩) := by
    intro _ hM
    unfold spec_l6Closed_L1_a at hM
    have hE : some false = some r := hM
    have hE := Option.some.inj hE
    subst hE
    exact pr R 9999 [] [] [] [] True.intro (by kernel_rfl)
  refine pc R 9999 [.new 0] [.keep [0, 3, 5] [0]] (k' := [.code (.loop (cAt Try.f124 [1, 0, 1, 0, 0])), .blk 0, .code (cAt Try.f124 [1, 1])]) (S' := spec_l6Closed_L1_S a0 a1 0) True.intro (by kernel_rfl) ?_
  refine lq (spec_l6Closed_L1_S a0 a1) (body := spec_l6Closed_L1 a0 a1) (k := spec_l6Closed_L1_k) hM fun m1 s c1 hM hK1 => ?_
  obtain ⟨s1, hs⟩ : ∃ z, z = s := ⟨_, rfl⟩
  subst hs
  have hM : spec_l6Closed_L1_b a0 a1 s1 = some c1 := hM
  unfold spec_l6Closed_L1_b at hM
  rcases cond_cases hM with ⟨h2, hM⟩ | ⟨h2, hM⟩
  · obtain ⟨v3, h4, hM⟩ := bind_some hM
    rcases cond_cases hM with ⟨h5, hM⟩ | ⟨h5, hM⟩
    · have hE : some (Ctl.ret true) = some c1 := hM
      have hE := Option.some.inj hE
      subst hE
      have hE : some true = some r := hK1
      have hE := Option.some.inj hE
      subst hE
      exact pr R 9999 [.ln (a0.length), .as 9 true, .ix (Trip.enc v3), .run 17 (.bool (decide (v3 = a1))), .as 17 true] [] [] [] (And.intro (lenm Trip.enc a0) (And.intro h2 (And.intro (gi_map Trip.enc h4) (And.intro (Trip_eql55 v3 a1) (And.intro h5 True.intro))))) (by kernel_rfl)
    · have hE : some (Ctl.next (w64 (s1 + 1))) = some c1 := hM
      have hE := Option.some.inj hE
      subst hE
      exact pc R 9999 [.ln (a0.length), .as 9 true, .ix (Trip.enc v3), .run 17 (.bool (decide (v3 = a1))), .as 17 false] [.keep [0, 3, 5] [0]] (And.intro (lenm Trip.enc a0) (And.intro h2 (And.intro (gi_map Trip.enc h4) (And.intro (Trip_eql55 v3 a1) (And.intro h5 True.intro))))) (by kernel_rfl) (li (Sf := spec_l6Closed_L1_S a0 a1) (M := Mk (spec_l6Closed_L1 a0 a1) (spec_l6Closed_L1_k) r) (k := [.blk 0, .code (cAt Try.f124 [1, 1])]) (Nat.lt_succ_self m1) hK1)
  · have hE : some (Ctl.brk ()) = some c1 := hM
    have hE := Option.some.inj hE
    subst hE
    exact pc R 5 [.ln (a0.length), .as 9 false] [.keep [] []] (And.intro (lenm Trip.enc a0) (And.intro h2 True.intro)) (by kernel_rfl) (K1 () hK1)

-- loop.example/g03014/spec.l6Next
def spec_l6Next_L1_b (a0 : Network) (a1 : (List Booking)) (a2 : (List Trip)) (a3 : Int) (a4 : Int) (a5 : Int) (s1 : Int) : Option (Ctl Int Unit Int) :=
  bif (decide (s1 ≤ 60)) then
  (spec_l3Runs a0 a3 s1).bind fun v3 =>
  bif v3 then
  (spec_l3Starts a0 (Trip.mk ((Trip.mk a3 s1).Leg) ((Trip.mk a3 s1).Day))).bind fun v6 =>
  bif (decide (v6 ≥ a4)) then
  (spec_l6Closed a2 (Trip.mk ((Trip.mk a3 s1).Leg) ((Trip.mk a3 s1).Day))).bind fun v9 =>
  bif (!v9) then
  (gi a0.Legs a3).bind fun v12 =>
  (spec_LoadOf a1 (Trip.mk ((Trip.mk a3 s1).Leg) ((Trip.mk a3 s1).Day))).bind fun v14 =>
  bif (decide ((w64 (v12.Room - v14)) ≥ a5)) then
  some (.ret s1)
  else
  some (.next (w64 (s1 + 1)))
  else
  some (.next (w64 (s1 + 1)))
  else
  some (.next (w64 (s1 + 1)))
  else
  some (.next (w64 (s1 + 1)))
  else
  some (.brk ())
def spec_l6Next_L1 (a0 : Network) (a1 : (List Booking)) (a2 : (List Trip)) (a3 : Int) (a4 : Int) (a5 : Int) (s : Int) : Option (Ctl Int Unit Int) := spec_l6Next_L1_b a0 a1 a2 a3 a4 a5 s
def spec_l6Next_L1_s (a0 : Network) (a1 : (List Booking)) (a2 : (List Trip)) (a3 : Int) (a4 : Int) (a5 : Int) (s1 : Int) : St := ⟨[(1, .o (.c (.rs 4 (a1.map Booking.enc)))), (2, .o (.c (.rs 2 (a2.map Trip.enc)))), (3, .o (.c (.v (.int .i64 a3)))), (4, .o (.c (.v (.int .i64 a4)))), (5, .o (.c (.v (.int .i64 a5)))), (6, .o (.c (.ptr 0 0))), (13, .o (.c (.v (.int .i64 s1))))], [(0, .box 36 [.rs 6 (a0.Legs.map Leg.enc), .rs 1 (a0.Off.map encI), .v (.int .i64 a0.Change)])]⟩
def spec_l6Next_L1_S (a0 : Network) (a1 : (List Booking)) (a2 : (List Trip)) (a3 : Int) (a4 : Int) (a5 : Int) (s : Int) : St := spec_l6Next_L1_s a0 a1 a2 a3 a4 a5 s
def spec_l6Next_L1_a : Option Int :=
  some (-1)
def spec_l6Next_L1_k (x : (Unit) ⊕ (Int)) : Option Int := match x with
  | .inl t => spec_l6Next_L1_a
  | .inr y => some y
def spec_l6Next (a0 : Network) (a1 : (List Booking)) (a2 : (List Trip)) (a3 : Int) (a4 : Int) (a5 : Int) : Option Int :=
  (loopM (spec_l6Next_L1 a0 a1 a2 a3 a4 a5) big 0).bind (spec_l6Next_L1_k)
theorem spec_l6Next_ok (a0 : Network) (a1 : (List Booking)) (a2 : (List Trip)) (a3 : Int) (a4 : Int) (a5 : Int) (r : Int) (hM : spec_l6Next a0 a1 a2 a3 a4 a5 = some r) :
    Con Try.prog 116 [.agg [.rs 6 (a0.Legs.map Leg.enc), .rs 1 (a0.Off.map encI), .v (.int .i64 a0.Change)], .c (.rs 4 (a1.map Booking.enc)), .c (.rs 2 (a2.map Trip.enc)), .c (.v (.int .i64 a3)), .c (.v (.int .i64 a4)), .c (.v (.int .i64 a5))] [] (.o (.c (.v (.int .i64 r)))) [] [] := by
  unfold spec_l6Next at hM
  refine cn (N := 54) (pids := []) Try_mixed Try.func116 (by kernel_rfl) (by kernel_rfl) (by kernel_rfl) rfl fun ρ g w R => ?_
  have K1 : ∀ (_ : Unit), spec_l6Next_L1_a = some r → Gr R [.code (cAt Try.f116 [1, 1])] (⟨[], []⟩) := by
    intro _ hM
    unfold spec_l6Next_L1_a at hM
    have hE : some (-1) = some r := hM
    have hE := Option.some.inj hE
    subst hE
    exact pr R 9999 [] [] [] [] True.intro (by kernel_rfl)
  refine pc R 9999 [.new 0] [.keep [1, 2, 3, 4, 5, 6, 13] [0]] (k' := [.code (.loop (cAt Try.f116 [1, 0, 1, 0, 0])), .blk 0, .code (cAt Try.f116 [1, 1])]) (S' := spec_l6Next_L1_S a0 a1 a2 a3 a4 a5 0) True.intro (by kernel_rfl) ?_
  refine lq (spec_l6Next_L1_S a0 a1 a2 a3 a4 a5) (body := spec_l6Next_L1 a0 a1 a2 a3 a4 a5) (k := spec_l6Next_L1_k) hM fun m1 s c1 hM hK1 => ?_
  obtain ⟨s1, hs⟩ : ∃ z, z = s := ⟨_, rfl⟩
  subst hs
  have hM : spec_l6Next_L1_b a0 a1 a2 a3 a4 a5 s1 = some c1 := hM
  unfold spec_l6Next_L1_b at hM
  rcases cond_cases hM with ⟨h2, hM⟩ | ⟨h2, hM⟩
  · obtain ⟨v3, h4, hM⟩ := bind_some hM
    rcases cond_cases hM with ⟨h5, hM⟩ | ⟨h5, hM⟩
    · obtain ⟨v6, h7, hM⟩ := bind_some hM
      rcases cond_cases hM with ⟨h8, hM⟩ | ⟨h8, hM⟩
      · obtain ⟨v9, h10, hM⟩ := bind_some hM
        rcases cond_cases hM with ⟨h11, hM⟩ | ⟨h11, hM⟩
        · obtain ⟨v12, h13, hM⟩ := bind_some hM
          obtain ⟨v14, h15, hM⟩ := bind_some hM
          rcases cond_cases hM with ⟨h16, hM⟩ | ⟨h16, hM⟩
          · have hE : some (Ctl.ret s1) = some c1 := hM
            have hE := Option.some.inj hE
            subst hE
            have hE : some s1 = some r := hK1
            have hE := Option.some.inj hE
            subst hE
            exact pr R 9999 [.as 16 true, .new 1, .call false [] (.o (.c (.v (.bool v3)))) [] [], .as 26 true, .call false [] (.o (.c (.v (.int .i64 v6)))) [] [], .as 33 true, .call false [] (.o (.c (.v (.bool v9)))) [] [], .as 39 true, .ix (Leg.enc v12), .call false [] (.o (.c (.v (.int .i64 v14)))) [] [], .as 52 true] [] [] [] (And.intro h2 (And.intro (spec_l3Runs_ok a0 a3 s1 v3 h4) (And.intro h5 (And.intro (spec_l3Starts_ok a0 (Trip.mk ((Trip.mk a3 s1).Leg) ((Trip.mk a3 s1).Day)) v6 h7) (And.intro h8 (And.intro (spec_l6Closed_ok a2 (Trip.mk ((Trip.mk a3 s1).Leg) ((Trip.mk a3 s1).Day)) v9 h10) (And.intro h11 (And.intro (gi_map Leg.enc h13) (And.intro (spec_LoadOf_ok a1 (Trip.mk ((Trip.mk a3 s1).Leg) ((Trip.mk a3 s1).Day)) v14 h15) (And.intro h16 True.intro)))))))))) (by kernel_rfl)
          · have hE : some (Ctl.next (w64 (s1 + 1))) = some c1 := hM
            have hE := Option.some.inj hE
            subst hE
            exact pc R 9999 [.as 16 true, .new 1, .call false [] (.o (.c (.v (.bool v3)))) [] [], .as 26 true, .call false [] (.o (.c (.v (.int .i64 v6)))) [] [], .as 33 true, .call false [] (.o (.c (.v (.bool v9)))) [] [], .as 39 true, .ix (Leg.enc v12), .call false [] (.o (.c (.v (.int .i64 v14)))) [] [], .as 52 false] [.keep [1, 2, 3, 4, 5, 6, 13] [0]] (And.intro h2 (And.intro (spec_l3Runs_ok a0 a3 s1 v3 h4) (And.intro h5 (And.intro (spec_l3Starts_ok a0 (Trip.mk ((Trip.mk a3 s1).Leg) ((Trip.mk a3 s1).Day)) v6 h7) (And.intro h8 (And.intro (spec_l6Closed_ok a2 (Trip.mk ((Trip.mk a3 s1).Leg) ((Trip.mk a3 s1).Day)) v9 h10) (And.intro h11 (And.intro (gi_map Leg.enc h13) (And.intro (spec_LoadOf_ok a1 (Trip.mk ((Trip.mk a3 s1).Leg) ((Trip.mk a3 s1).Day)) v14 h15) (And.intro h16 True.intro)))))))))) (by kernel_rfl) (li (Sf := spec_l6Next_L1_S a0 a1 a2 a3 a4 a5) (M := Mk (spec_l6Next_L1 a0 a1 a2 a3 a4 a5) (spec_l6Next_L1_k) r) (k := [.blk 0, .code (cAt Try.f116 [1, 1])]) (Nat.lt_succ_self m1) hK1)
        · have hE : some (Ctl.next (w64 (s1 + 1))) = some c1 := hM
          have hE := Option.some.inj hE
          subst hE
          exact pc R 9999 [.as 16 true, .new 1, .call false [] (.o (.c (.v (.bool v3)))) [] [], .as 26 true, .call false [] (.o (.c (.v (.int .i64 v6)))) [] [], .as 33 true, .call false [] (.o (.c (.v (.bool v9)))) [] [], .as 39 false] [.keep [1, 2, 3, 4, 5, 6, 13] [0]] (And.intro h2 (And.intro (spec_l3Runs_ok a0 a3 s1 v3 h4) (And.intro h5 (And.intro (spec_l3Starts_ok a0 (Trip.mk ((Trip.mk a3 s1).Leg) ((Trip.mk a3 s1).Day)) v6 h7) (And.intro h8 (And.intro (spec_l6Closed_ok a2 (Trip.mk ((Trip.mk a3 s1).Leg) ((Trip.mk a3 s1).Day)) v9 h10) (And.intro h11 True.intro))))))) (by kernel_rfl) (li (Sf := spec_l6Next_L1_S a0 a1 a2 a3 a4 a5) (M := Mk (spec_l6Next_L1 a0 a1 a2 a3 a4 a5) (spec_l6Next_L1_k) r) (k := [.blk 0, .code (cAt Try.f116 [1, 1])]) (Nat.lt_succ_self m1) hK1)
      · have hE : some (Ctl.next (w64 (s1 + 1))) = some c1 := hM
        have hE := Option.some.inj hE
        subst hE
        exact pc R 9999 [.as 16 true, .new 1, .call false [] (.o (.c (.v (.bool v3)))) [] [], .as 26 true, .call false [] (.o (.c (.v (.int .i64 v6)))) [] [], .as 33 false] [.keep [1, 2, 3, 4, 5, 6, 13] [0]] (And.intro h2 (And.intro (spec_l3Runs_ok a0 a3 s1 v3 h4) (And.intro h5 (And.intro (spec_l3Starts_ok a0 (Trip.mk ((Trip.mk a3 s1).Leg) ((Trip.mk a3 s1).Day)) v6 h7) (And.intro h8 True.intro))))) (by kernel_rfl) (li (Sf := spec_l6Next_L1_S a0 a1 a2 a3 a4 a5) (M := Mk (spec_l6Next_L1 a0 a1 a2 a3 a4 a5) (spec_l6Next_L1_k) r) (k := [.blk 0, .code (cAt Try.f116 [1, 1])]) (Nat.lt_succ_self m1) hK1)
    · have hE : some (Ctl.next (w64 (s1 + 1))) = some c1 := hM
      have hE := Option.some.inj hE
      subst hE
      exact pc R 9999 [.as 16 true, .new 1, .call false [] (.o (.c (.v (.bool v3)))) [] [], .as 26 false] [.keep [1, 2, 3, 4, 5, 6, 13] [0]] (And.intro h2 (And.intro (spec_l3Runs_ok a0 a3 s1 v3 h4) (And.intro h5 True.intro))) (by kernel_rfl) (li (Sf := spec_l6Next_L1_S a0 a1 a2 a3 a4 a5) (M := Mk (spec_l6Next_L1 a0 a1 a2 a3 a4 a5) (spec_l6Next_L1_k) r) (k := [.blk 0, .code (cAt Try.f116 [1, 1])]) (Nat.lt_succ_self m1) hK1)
  · have hE : some (Ctl.brk ()) = some c1 := hM
    have hE := Option.some.inj hE
    subst hE
    exact pc R 5 [.as 16 false] [.keep [] []] (And.intro h2 True.intro) (by kernel_rfl) (K1 () hK1)

-- loop.example/g03014/spec.l3Ends
def spec_l3Ends (a0 : Network) (a1 : Trip) : Option Int :=
  (spec_l3Starts a0 a1).bind fun v1 =>
  (gi a0.Legs a1.Leg).bind fun v3 =>
  some (w64 (v1 + v3.Takes))
theorem spec_l3Ends_ok (a0 : Network) (a1 : Trip) (r : Int) (hM : spec_l3Ends a0 a1 = some r) :
    Con Try.prog 118 [.agg [.rs 6 (a0.Legs.map Leg.enc), .rs 1 (a0.Off.map encI), .v (.int .i64 a0.Change)], .c (.v (.agg (Trip.enc a1).toArray))] [] (.o (.c (.v (.int .i64 r)))) [] [] := by
  unfold spec_l3Ends at hM
  refine cn (N := 16) (pids := []) Try_mixed Try.func118 (by kernel_rfl) (by kernel_rfl) (by kernel_rfl) rfl fun ρ g w R => ?_
  obtain ⟨v1, h2, hM⟩ := bind_some hM
  obtain ⟨v3, h4, hM⟩ := bind_some hM
  have hE : some (w64 (v1 + v3.Takes)) = some r := hM
  have hE := Option.some.inj hE
  subst hE
  exact pr R 9999 [.new 0, .new 1, .call false [] (.o (.c (.v (.int .i64 v1)))) [] [], .ix (Leg.enc v3)] [] [] [] (And.intro (spec_l3Starts_ok a0 a1 v1 h2) (And.intro (gi_map Leg.enc h4) True.intro)) (by kernel_rfl)

-- loop.example/g03014/spec.l6Round
def spec_l6Round_L1_b (a0 : Network) (a1 : (List Booking)) (a2 : (List Trip)) (a3 : Int) (a4 : (List ByteArray)) (a5 : (List Int)) (a6 : Int) (s3 : (List Int)) (s4 : Int) : Option (Ctl ((List Int) × Int) (List Int) (List Int)) :=
  bif (decide (s4 < (a0.Legs.length : Int))) then
  (gi a0.Legs s4).bind fun v7 =>
  (spec_l4Index a4 v7.From).bind fun v9 =>
  (gi a0.Legs s4).bind fun v11 =>
  (spec_l4Index a4 v11.To).bind fun v13 =>
  (gi a5 v9).bind fun v15 =>
  bif (decide (v15 < 0)) then
  some (.next (s3, w64 (s4 + 1)))
  else
  (gi a5 v9).bind fun v18 =>
  (spec_l4Ready a0 v18 (v9 == a6)).bind fun v20 =>
  (spec_l6Next a0 a1 a2 s4 v20 a3).bind fun v22 =>
  bif (decide (v22 < 0)) then
  some (.next (s3, w64 (s4 + 1)))
  else
  (spec_l3Ends a0 (Trip.mk s4 v22)).bind fun v25 =>
  (gi s3 v13).bind fun v27 =>
  bif (decide (v27 < 0)) then
  (gi s3 v13).bind fun v30 =>
  some (.next (List.set s3 (Int.toNat v13) v25, w64 (s4 + 1)))
  else
  (gi s3 v13).bind fun v32 =>
  bif (decide (v25 < v32)) then
  (gi s3 v13).bind fun v35 =>
  some (.next (List.set s3 (Int.toNat v13) v25, w64 (s4 + 1)))
  else
  some (.next (s3, w64 (s4 + 1)))
  else
  some (.brk s3)
def spec_l6Round_L1 (a0 : Network) (a1 : (List Booking)) (a2 : (List Trip)) (a3 : Int) (a4 : (List ByteArray)) (a5 : (List Int)) (a6 : Int) (s : (List Int) × Int) : Option (Ctl ((List Int) × Int) (List Int) (List Int)) := spec_l6Round_L1_b a0 a1 a2 a3 a4 a5 a6 s.1 s.2
def spec_l6Round_L1_s (a0 : Network) (a1 : (List Booking)) (a2 : (List Trip)) (a3 : Int) (a4 : (List ByteArray)) (a5 : (List Int)) (a6 : Int) (s3 : (List Int)) (s4 : Int) : St := ⟨[(1, .o (.c (.rs 4 (a1.map Booking.enc)))), (2, .o (.c (.rs 2 (a2.map Trip.enc)))), (3, .o (.c (.v (.int .i64 a3)))), (4, .o (.c (.rs 1 (a4.map encS)))), (5, .o (.c (.rs 1 (a5.map encI)))), (6, .o (.c (.v (.int .i64 a6)))), (7, .o (.c (.ptr 0 0))), (15, .o (.c (.sl 1))), (16, .o (.c (.v (.int .i64 s4))))], [(0, .box 36 [.rs 6 (a0.Legs.map Leg.enc), .rs 1 (a0.Off.map encI), .v (.int .i64 a0.Change)]), (1, .row 3 1 (s3.map encI))]⟩
def spec_l6Round_L1_S (a0 : Network) (a1 : (List Booking)) (a2 : (List Trip)) (a3 : Int) (a4 : (List ByteArray)) (a5 : (List Int)) (a6 : Int) (s : (List Int) × Int) : St := spec_l6Round_L1_s a0 a1 a2 a3 a4 a5 a6 s.1 s.2
def spec_l6Round_L1_a (s5 : (List Int)) : Option (List Int) :=
  some s5
def spec_l6Round_L1_k (x : ((List Int)) ⊕ ((List Int))) : Option (List Int) := match x with
  | .inl t => spec_l6Round_L1_a t
  | .inr y => some y
def spec_l6Round (a0 : Network) (a1 : (List Booking)) (a2 : (List Trip)) (a3 : Int) (a4 : (List ByteArray)) (a5 : (List Int)) (a6 : Int) : Option (List Int) :=
  (spec_l1Ints a5).bind fun v1 =>
  (loopM (spec_l6Round_L1 a0 a1 a2 a3 a4 a5 a6) big (v1, 0)).bind (spec_l6Round_L1_k)
theorem spec_l6Round_ok (a0 : Network) (a1 : (List Booking)) (a2 : (List Trip)) (a3 : Int) (a4 : (List ByteArray)) (a5 : (List Int)) (a6 : Int) (r : (List Int)) (hM : spec_l6Round a0 a1 a2 a3 a4 a5 a6 = some r) :
    Con Try.prog 115 [.agg [.rs 6 (a0.Legs.map Leg.enc), .rs 1 (a0.Off.map encI), .v (.int .i64 a0.Change)], .c (.rs 4 (a1.map Booking.enc)), .c (.rs 2 (a2.map Trip.enc)), .c (.v (.int .i64 a3)), .c (.rs 1 (a4.map encS)), .c (.rs 1 (a5.map encI)), .c (.v (.int .i64 a6))] [] (.o (.c (.sl 1000))) [] [(1000, .row 3 1 (r.map encI))] := by
  unfold spec_l6Round at hM
  refine cn (N := 91) (pids := []) Try_mixed Try.func115 (by kernel_rfl) (by kernel_rfl) (by kernel_rfl) rfl fun ρ g w R => ?_
  obtain ⟨v1, h2, hM⟩ := bind_some hM
  have K1 : ∀ (s5 : (List Int)), spec_l6Round_L1_a s5 = some r → Gr R [.code (cAt Try.f115 [1, 1, 1])] (⟨[(15, .o (.c (.sl 1)))], [(1, .row 3 1 (s5.map encI))]⟩) := by
    intro s5 hM
    unfold spec_l6Round_L1_a at hM
    have hE : some s5 = some r := hM
    have hE := Option.some.inj hE
    subst hE
    exact pr R 9999 [] [.sw 1 1000] [] [1000] True.intro (by kernel_rfl)
  refine pc R 9999 [.new 0, .call false [] (.o (.c (.sl 1))) [] [(1, .row 3 1 (v1.map encI))]] [.keep [1, 2, 3, 4, 5, 6, 7, 15, 16] [0, 1]] (k' := [.code (.loop (cAt Try.f115 [1, 1, 0, 1, 0, 0])), .blk 0, .code (cAt Try.f115 [1, 1, 1])]) (S' := spec_l6Round_L1_S a0 a1 a2 a3 a4 a5 a6 (v1, 0)) (And.intro (And.intro (con_sw 1000 1 (spec_l1Ints_ok a5 v1 h2)) (rfl : ([] : List Nat) = [])) True.intro) (by kernel_rfl) ?_
  refine lq (spec_l6Round_L1_S a0 a1 a2 a3 a4 a5 a6) (body := spec_l6Round_L1 a0 a1 a2 a3 a4 a5 a6) (k := spec_l6Round_L1_k) hM fun m1 s c1 hM hK1 => ?_
  obtain ⟨s3, s4⟩ := s
  have hM : spec_l6Round_L1_b a0 a1 a2 a3 a4 a5 a6 s3 s4 = some c1 := hM
  unfold spec_l6Round_L1_b at hM
  rcases cond_cases hM with ⟨h6, hM⟩ | ⟨h6, hM⟩
  · obtain ⟨v7, h8, hM⟩ := bind_some hM
    obtain ⟨v9, h10, hM⟩ := bind_some hM
    obtain ⟨v11, h12, hM⟩ := bind_some hM
    obtain ⟨v13, h14, hM⟩ := bind_some hM
    obtain ⟨v15, h16, hM⟩ := bind_some hM
    rcases cond_cases hM with ⟨h17, hM⟩ | ⟨h17, hM⟩
    · have hE : some (Ctl.next (s3, w64 (s4 + 1))) = some c1 := hM
      have hE := Option.some.inj hE
      subst hE
      exact pc R 9999 [.ln (a0.Legs.length), .as 27 true, .ix (Leg.enc v7), .call false [] (.o (.c (.v (.int .i64 v9)))) [] [], .ix (Leg.enc v11), .call false [] (.o (.c (.v (.int .i64 v13)))) [] [], .ix (encI v15), .as 50 true] [.keep [1, 2, 3, 4, 5, 6, 7, 15, 16] [0, 1]] (And.intro (lenm Leg.enc a0.Legs) (And.intro h6 (And.intro (gi_map Leg.enc h8) (And.intro (spec_l4Index_ok a4 v7.From v9 h10) (And.intro (gi_map Leg.enc h12) (And.intro (spec_l4Index_ok a4 v11.To v13 h14) (And.intro (gi_map encI h16) (And.intro h17 True.intro)))))))) (by kernel_rfl) (li (Sf := spec_l6Round_L1_S a0 a1 a2 a3 a4 a5 a6) (M := Mk (spec_l6Round_L1 a0 a1 a2 a3 a4 a5 a6) (spec_l6Round_L1_k) r) (k := [.blk 0, .code (cAt Try.f115 [1, 1, 1])]) (Nat.lt_succ_self m1) hK1)
    · obtain ⟨v18, h19, hM⟩ := bind_some hM
      obtain ⟨v20, h21, hM⟩ := bind_some hM
      obtain ⟨v22, h23, hM⟩ := bind_some hM
      rcases cond_cases hM with ⟨h24, hM⟩ | ⟨h24, hM⟩
      · have hE : some (Ctl.next (s3, w64 (s4 + 1))) = some c1 := hM
        have hE := Option.some.inj hE
        subst hE
        exact pc R 9999 [.ln (a0.Legs.length), .as 27 true, .ix (Leg.enc v7), .call false [] (.o (.c (.v (.int .i64 v9)))) [] [], .ix (Leg.enc v11), .call false [] (.o (.c (.v (.int .i64 v13)))) [] [], .ix (encI v15), .as 50 false, .ix (encI v18), .call false [] (.o (.c (.v (.int .i64 v20)))) [] [], .call false [] (.o (.c (.v (.int .i64 v22)))) [] [], .as 67 true] [.keep [1, 2, 3, 4, 5, 6, 7, 15, 16] [0, 1]] (And.intro (lenm Leg.enc a0.Legs) (And.intro h6 (And.intro (gi_map Leg.enc h8) (And.intro (spec_l4Index_ok a4 v7.From v9 h10) (And.intro (gi_map Leg.enc h12) (And.intro (spec_l4Index_ok a4 v11.To v13 h14) (And.intro (gi_map encI h16) (And.intro h17 (And.intro (gi_map encI h19) (And.intro (spec_l4Ready_ok a0 v18 (v9 == a6) v20 h21) (And.intro (spec_l6Next_ok a0 a1 a2 s4 v20 a3 v22 h23) (And.intro h24 True.intro)))))))))))) (by kernel_rfl) (li (Sf := spec_l6Round_L1_S a0 a1 a2 a3 a4 a5 a6) (M := Mk (spec_l6Round_L1 a0 a1 a2 a3 a4 a5 a6) (spec_l6Round_L1_k) r) (k := [.blk 0, .code (cAt Try.f115 [1, 1, 1])]) (Nat.lt_succ_self m1) hK1)
      · obtain ⟨v25, h26, hM⟩ := bind_some hM
        obtain ⟨v27, h28, hM⟩ := bind_some hM
        rcases cond_cases hM with ⟨h29, hM⟩ | ⟨h29, hM⟩
        · obtain ⟨v30, h31, hM⟩ := bind_some hM
          have hE : some (Ctl.next (List.set s3 (Int.toNat v13) v25, w64 (s4 + 1))) = some c1 := hM
          have hE := Option.some.inj hE
          subst hE
          exact pc R 9999 [.ln (a0.Legs.length), .as 27 true, .ix (Leg.enc v7), .call false [] (.o (.c (.v (.int .i64 v9)))) [] [], .ix (Leg.enc v11), .call false [] (.o (.c (.v (.int .i64 v13)))) [] [], .ix (encI v15), .as 50 false, .ix (encI v18), .call false [] (.o (.c (.v (.int .i64 v20)))) [] [], .call false [] (.o (.c (.v (.int .i64 v22)))) [] [], .as 67 false, .call false [] (.o (.c (.v (.int .i64 v25)))) [] [], .ix (encI v27), .as 78 true, .ix (encI v30), .nm ((List.set s3 (Int.toNat v13) v25).map encI)] [.keep [1, 2, 3, 4, 5, 6, 7, 15, 16] [0, 1]] (And.intro (lenm Leg.enc a0.Legs) (And.intro h6 (And.intro (gi_map Leg.enc h8) (And.intro (spec_l4Index_ok a4 v7.From v9 h10) (And.intro (gi_map Leg.enc h12) (And.intro (spec_l4Index_ok a4 v11.To v13 h14) (And.intro (gi_map encI h16) (And.intro h17 (And.intro (gi_map encI h19) (And.intro (spec_l4Ready_ok a0 v18 (v9 == a6) v20 h21) (And.intro (spec_l6Next_ok a0 a1 a2 s4 v20 a3 v22 h23) (And.intro h24 (And.intro (spec_l3Ends_ok a0 (Trip.mk s4 v22) v25 h26) (And.intro (gi_lt encI h28) (And.intro ((gi_map encI h28).2) (And.intro h29 (And.intro (gi_lt encI h31) (And.intro (And.intro (gi_map encI h31).2 (set_map encI s3 (Int.toNat v13) v25)) True.intro)))))))))))))))))) (by kernel_rfl) (li (Sf := spec_l6Round_L1_S a0 a1 a2 a3 a4 a5 a6) (M := Mk (spec_l6Round_L1 a0 a1 a2 a3 a4 a5 a6) (spec_l6Round_L1_k) r) (k := [.blk 0, .code (cAt Try.f115 [1, 1, 1])]) (Nat.lt_succ_self m1) hK1)
        · obtain ⟨v32, h33, hM⟩ := bind_some hM
          rcases cond_cases hM with ⟨h34, hM⟩ | ⟨h34, hM⟩
          · obtain ⟨v35, h36, hM⟩ := bind_some hM
            have hE : some (Ctl.next (List.set s3 (Int.toNat v13) v25, w64 (s4 + 1))) = some c1 := hM
            have hE := Option.some.inj hE
            subst hE
            exact pc R 9999 [.ln (a0.Legs.length), .as 27 true, .ix (Leg.enc v7), .call false [] (.o (.c (.v (.int .i64 v9)))) [] [], .ix (Leg.enc v11), .call false [] (.o (.c (.v (.int .i64 v13)))) [] [], .ix (encI v15), .as 50 false, .ix (encI v18), .call false [] (.o (.c (.v (.int .i64 v20)))) [] [], .call false [] (.o (.c (.v (.int .i64 v22)))) [] [], .as 67 false, .call false [] (.o (.c (.v (.int .i64 v25)))) [] [], .ix (encI v27), .as 78 false, .ix (encI v32), .as 85 true, .ix (encI v35), .nm ((List.set s3 (Int.toNat v13) v25).map encI)] [.keep [1, 2, 3, 4, 5, 6, 7, 15, 16] [0, 1]] (And.intro (lenm Leg.enc a0.Legs) (And.intro h6 (And.intro (gi_map Leg.enc h8) (And.intro (spec_l4Index_ok a4 v7.From v9 h10) (And.intro (gi_map Leg.enc h12) (And.intro (spec_l4Index_ok a4 v11.To v13 h14) (And.intro (gi_map encI h16) (And.intro h17 (And.intro (gi_map encI h19) (And.intro (spec_l4Ready_ok a0 v18 (v9 == a6) v20 h21) (And.intro (spec_l6Next_ok a0 a1 a2 s4 v20 a3 v22 h23) (And.intro h24 (And.intro (spec_l3Ends_ok a0 (Trip.mk s4 v22) v25 h26) (And.intro (gi_lt encI h28) (And.intro ((gi_map encI h28).2) (And.intro h29 (And.intro (gi_lt encI h33) (And.intro ((gi_map encI h33).2) (And.intro h34 (And.intro (gi_lt encI h36) (And.intro (And.intro (gi_map encI h36).2 (set_map encI s3 (Int.toNat v13) v25)) True.intro))))))))))))))))))))) (by kernel_rfl) (li (Sf := spec_l6Round_L1_S a0 a1 a2 a3 a4 a5 a6) (M := Mk (spec_l6Round_L1 a0 a1 a2 a3 a4 a5 a6) (spec_l6Round_L1_k) r) (k := [.blk 0, .code (cAt Try.f115 [1, 1, 1])]) (Nat.lt_succ_self m1) hK1)
          · have hE : some (Ctl.next (s3, w64 (s4 + 1))) = some c1 := hM
            have hE := Option.some.inj hE
            subst hE
            exact pc R 9999 [.ln (a0.Legs.length), .as 27 true, .ix (Leg.enc v7), .call false [] (.o (.c (.v (.int .i64 v9)))) [] [], .ix (Leg.enc v11), .call false [] (.o (.c (.v (.int .i64 v13)))) [] [], .ix (encI v15), .as 50 false, .ix (encI v18), .call false [] (.o (.c (.v (.int .i64 v20)))) [] [], .call false [] (.o (.c (.v (.int .i64 v22)))) [] [], .as 67 false, .call false [] (.o (.c (.v (.int .i64 v25)))) [] [], .ix (encI v27), .as 78 false, .ix (encI v32), .as 85 false] [.keep [1, 2, 3, 4, 5, 6, 7, 15, 16] [0, 1]] (And.intro (lenm Leg.enc a0.Legs) (And.intro h6 (And.intro (gi_map Leg.enc h8) (And.intro (spec_l4Index_ok a4 v7.From v9 h10) (And.intro (gi_map Leg.enc h12) (And.intro (spec_l4Index_ok a4 v11.To v13 h14) (And.intro (gi_map encI h16) (And.intro h17 (And.intro (gi_map encI h19) (And.intro (spec_l4Ready_ok a0 v18 (v9 == a6) v20 h21) (And.intro (spec_l6Next_ok a0 a1 a2 s4 v20 a3 v22 h23) (And.intro h24 (And.intro (spec_l3Ends_ok a0 (Trip.mk s4 v22) v25 h26) (And.intro (gi_lt encI h28) (And.intro ((gi_map encI h28).2) (And.intro h29 (And.intro (gi_lt encI h33) (And.intro ((gi_map encI h33).2) (And.intro h34 True.intro))))))))))))))))))) (by kernel_rfl) (li (Sf := spec_l6Round_L1_S a0 a1 a2 a3 a4 a5 a6) (M := Mk (spec_l6Round_L1 a0 a1 a2 a3 a4 a5 a6) (spec_l6Round_L1_k) r) (k := [.blk 0, .code (cAt Try.f115 [1, 1, 1])]) (Nat.lt_succ_self m1) hK1)
  · have hE : some (Ctl.brk s3) = some c1 := hM
    have hE := Option.some.inj hE
    subst hE
    exact pc R 5 [.ln (a0.Legs.length), .as 27 false] [.keep [15] [1]] (And.intro (lenm Leg.enc a0.Legs) (And.intro h6 True.intro)) (by kernel_rfl) (K1 s3 hK1)

-- loop.example/g03014/spec.BestFree
def spec_BestFree_L1_b (a0 : Network) (a1 : (List Booking)) (a2 : (List Trip)) (a5 : Int) (a6 : Int) (v1 : (List ByteArray)) (v3 : Int) (s14 : (List Int)) (s15 : Int) : Option (Ctl ((List Int) × Int) (List Int) (List Int)) :=
  bif (decide (s15 < a6)) then
  bif (decide (s15 < (v1.length : Int))) then
  (spec_l6Round a0 a1 a2 a5 v1 s14 v3).bind fun v19 =>
  some (.next (v19, w64 (s15 + 1)))
  else
  some (.brk s14)
  else
  some (.brk s14)
def spec_BestFree_L1 (a0 : Network) (a1 : (List Booking)) (a2 : (List Trip)) (a5 : Int) (a6 : Int) (v1 : (List ByteArray)) (v3 : Int) (s : (List Int) × Int) : Option (Ctl ((List Int) × Int) (List Int) (List Int)) := spec_BestFree_L1_b a0 a1 a2 a5 a6 v1 v3 s.1 s.2
def spec_BestFree_L1_s (a0 : Network) (a1 : (List Booking)) (a2 : (List Trip)) (a5 : Int) (a6 : Int) (v1 : (List ByteArray)) (v3 : Int) (s14 : (List Int)) (s15 : Int) : St := ⟨[(1, .o (.c (.rs 4 (a1.map Booking.enc)))), (2, .o (.c (.rs 2 (a2.map Trip.enc)))), (5, .o (.c (.v (.int .i64 a5)))), (6, .o (.c (.v (.int .i64 a6)))), (7, .o (.c (.ptr 0 0))), (15, .o (.c (.sl 1))), (16, .o (.c (.v (.int .i64 v3)))), (17, .o (.c (.sl 7))), (18, .o (.c (.v (.int .i64 s15))))], [(0, .box 36 [.rs 6 (a0.Legs.map Leg.enc), .rs 1 (a0.Off.map encI), .v (.int .i64 a0.Change)]), (1, .row 9 1 (v1.map encS)), (7, .row 3 1 (s14.map encI))]⟩
def spec_BestFree_L1_S (a0 : Network) (a1 : (List Booking)) (a2 : (List Trip)) (a5 : Int) (a6 : Int) (v1 : (List ByteArray)) (v3 : Int) (s : (List Int) × Int) : St := spec_BestFree_L1_s a0 a1 a2 a5 a6 v1 v3 s.1 s.2
def spec_BestFree_L1_a (s16 : (List Int)) : Option (List Int) :=
  some s16
def spec_BestFree_L1_k (x : ((List Int)) ⊕ ((List Int))) : Option (List Int) := match x with
  | .inl t => spec_BestFree_L1_a t
  | .inr y => some y
def spec_BestFree (a0 : Network) (a1 : (List Booking)) (a2 : (List Trip)) (a3 : ByteArray) (a4 : Int) (a5 : Int) (a6 : Int) : Option (List Int) :=
  (spec_PlacesOf a0).bind fun v1 =>
  (spec_l4Index v1 a3).bind fun v3 =>
  (spec_AreBookings a0 a1).bind fun v5 =>
  bif (!v5) then
  some ([] : List Int)
  else
  bif (decide (v3 < 0)) then
  some ([] : List Int)
  else
  bif (decide (a4 > 100000)) then
  some ([] : List Int)
  else
  bif (decide (a5 < 1)) then
  some ([] : List Int)
  else
  bif (decide (a6 < 0)) then
  some ([] : List Int)
  else
  (spec_l4First v1 v3 a4).bind fun v12 =>
  (loopM (spec_BestFree_L1 a0 a1 a2 a5 a6 v1 v3) big (v12, 0)).bind (spec_BestFree_L1_k)
theorem spec_BestFree_ok (a0 : Network) (a1 : (List Booking)) (a2 : (List Trip)) (a3 : ByteArray) (a4 : Int) (a5 : Int) (a6 : Int) (r : (List Int)) (hM : spec_BestFree a0 a1 a2 a3 a4 a5 a6 = some r) :
    Con Try.prog 104 [.agg [.rs 6 (a0.Legs.map Leg.enc), .rs 1 (a0.Off.map encI), .v (.int .i64 a0.Change)], .c (.rs 4 (a1.map Booking.enc)), .c (.rs 2 (a2.map Trip.enc)), .c (.v (.string a3)), .c (.v (.int .i64 a4)), .c (.v (.int .i64 a5)), .c (.v (.int .i64 a6))] [] (.o (.c (.sl 1000))) [] [(1000, .row 3 1 (r.map encI))] := by
  unfold spec_BestFree at hM
  refine cn (N := 69) (pids := []) Try_mixed Try.func104 (by kernel_rfl) (by kernel_rfl) (by kernel_rfl) rfl fun ρ g w R => ?_
  obtain ⟨v1, h2, hM⟩ := bind_some hM
  obtain ⟨v3, h4, hM⟩ := bind_some hM
  obtain ⟨v5, h6, hM⟩ := bind_some hM
  rcases cond_cases hM with ⟨h7, hM⟩ | ⟨h7, hM⟩
  · have hE : some ([] : List Int) = some r := hM
    have hE := Option.some.inj hE
    subst hE
    exact pr R 9999 [.new 0, .call false [] (.o (.c (.sl 1))) [] [(1, .row 9 1 (v1.map encS))], .call false [] (.o (.c (.v (.int .i64 v3)))) [] [], .call false [] (.o (.c (.v (.bool v5)))) [] [], .as 28 true, .new 2] [.sw 2 1000] [] [1000] (And.intro (And.intro (con_sw 1000 1 (spec_PlacesOf_ok a0 v1 h2)) (rfl : ([] : List Nat) = [])) (And.intro (spec_l4Index_ok v1 a3 v3 h4) (And.intro (spec_AreBookings_ok a0 a1 v5 h6) (And.intro h7 True.intro)))) (by kernel_rfl)
  · rcases cond_cases hM with ⟨h8, hM⟩ | ⟨h8, hM⟩
    · have hE : some ([] : List Int) = some r := hM
      have hE := Option.some.inj hE
      subst hE
      exact pr R 9999 [.new 0, .call false [] (.o (.c (.sl 1))) [] [(1, .row 9 1 (v1.map encS))], .call false [] (.o (.c (.v (.int .i64 v3)))) [] [], .call false [] (.o (.c (.v (.bool v5)))) [] [], .as 28 false, .as 32 true, .new 3] [.sw 3 1000] [] [1000] (And.intro (And.intro (con_sw 1000 1 (spec_PlacesOf_ok a0 v1 h2)) (rfl : ([] : List Nat) = [])) (And.intro (spec_l4Index_ok v1 a3 v3 h4) (And.intro (spec_AreBookings_ok a0 a1 v5 h6) (And.intro h7 (And.intro h8 True.intro))))) (by kernel_rfl)
    · rcases cond_cases hM with ⟨h9, hM⟩ | ⟨h9, hM⟩
      · have hE : some ([] : List Int) = some r := hM
        have hE := Option.some.inj hE
        subst hE
        exact pr R 9999 [.new 0, .call false [] (.o (.c (.sl 1))) [] [(1, .row 9 1 (v1.map encS))], .call false [] (.o (.c (.v (.int .i64 v3)))) [] [], .call false [] (.o (.c (.v (.bool v5)))) [] [], .as 28 false, .as 32 false, .as 36 true, .new 4] [.sw 4 1000] [] [1000] (And.intro (And.intro (con_sw 1000 1 (spec_PlacesOf_ok a0 v1 h2)) (rfl : ([] : List Nat) = [])) (And.intro (spec_l4Index_ok v1 a3 v3 h4) (And.intro (spec_AreBookings_ok a0 a1 v5 h6) (And.intro h7 (And.intro h8 (And.intro h9 True.intro)))))) (by kernel_rfl)
      · rcases cond_cases hM with ⟨h10, hM⟩ | ⟨h10, hM⟩
        · have hE : some ([] : List Int) = some r := hM
          have hE := Option.some.inj hE
          subst hE
          exact pr R 9999 [.new 0, .call false [] (.o (.c (.sl 1))) [] [(1, .row 9 1 (v1.map encS))], .call false [] (.o (.c (.v (.int .i64 v3)))) [] [], .call false [] (.o (.c (.v (.bool v5)))) [] [], .as 28 false, .as 32 false, .as 36 false, .as 40 true, .new 5] [.sw 5 1000] [] [1000] (And.intro (And.intro (con_sw 1000 1 (spec_PlacesOf_ok a0 v1 h2)) (rfl : ([] : List Nat) = [])) (And.intro (spec_l4Index_ok v1 a3 v3 h4) (And.intro (spec_AreBookings_ok a0 a1 v5 h6) (And.intro h7 (And.intro h8 (And.intro h9 (And.intro h10 True.intro))))))) (by kernel_rfl)
        · rcases cond_cases hM with ⟨h11, hM⟩ | ⟨h11, hM⟩
          · have hE : some ([] : List Int) = some r := hM
            have hE := Option.some.inj hE
            subst hE
            exact pr R 9999 [.new 0, .call false [] (.o (.c (.sl 1))) [] [(1, .row 9 1 (v1.map encS))], .call false [] (.o (.c (.v (.int .i64 v3)))) [] [], .call false [] (.o (.c (.v (.bool v5)))) [] [], .as 28 false, .as 32 false, .as 36 false, .as 40 false, .as 43 true, .new 6] [.sw 6 1000] [] [1000] (And.intro (And.intro (con_sw 1000 1 (spec_PlacesOf_ok a0 v1 h2)) (rfl : ([] : List Nat) = [])) (And.intro (spec_l4Index_ok v1 a3 v3 h4) (And.intro (spec_AreBookings_ok a0 a1 v5 h6) (And.intro h7 (And.intro h8 (And.intro h9 (And.intro h10 (And.intro h11 True.intro)))))))) (by kernel_rfl)
          · obtain ⟨v12, h13, hM⟩ := bind_some hM
            have K1 : ∀ (s16 : (List Int)), spec_BestFree_L1_a s16 = some r → Gr R [.code (cAt Try.f104 [1, 1, 1, 1, 1, 1])] (⟨[(17, .o (.c (.sl 7)))], [(7, .row 3 1 (s16.map encI))]⟩) := by
              intro s16 hM
              unfold spec_BestFree_L1_a at hM
              have hE : some s16 = some r := hM
              have hE := Option.some.inj hE
              subst hE
              exact pr R 9999 [] [.sw 7 1000] [] [1000] True.intro (by kernel_rfl)
            refine pc R 9999 [.new 0, .call false [] (.o (.c (.sl 1))) [] [(1, .row 9 1 (v1.map encS))], .call false [] (.o (.c (.v (.int .i64 v3)))) [] [], .call false [] (.o (.c (.v (.bool v5)))) [] [], .as 28 false, .as 32 false, .as 36 false, .as 40 false, .as 43 false, .call false [] (.o (.c (.sl 7))) [] [(7, .row 3 1 (v12.map encI))]] [.keep [1, 2, 5, 6, 7, 15, 16, 17, 18] [0, 1, 7]] (k' := [.code (.loop (cAt Try.f104 [1, 1, 1, 1, 1, 0, 1, 0, 0])), .blk 0, .code (cAt Try.f104 [1, 1, 1, 1, 1, 1])]) (S' := spec_BestFree_L1_S a0 a1 a2 a5 a6 v1 v3 (v12, 0)) (And.intro (And.intro (con_sw 1000 1 (spec_PlacesOf_ok a0 v1 h2)) (rfl : ([] : List Nat) = [])) (And.intro (spec_l4Index_ok v1 a3 v3 h4) (And.intro (spec_AreBookings_ok a0 a1 v5 h6) (And.intro h7 (And.intro h8 (And.intro h9 (And.intro h10 (And.intro h11 (And.intro (And.intro (con_sw 1000 7 (spec_l4First_ok v1 v3 a4 v12 h13)) (rfl : ([] : List Nat) = [])) True.intro))))))))) (by kernel_rfl) ?_
            refine lq (spec_BestFree_L1_S a0 a1 a2 a5 a6 v1 v3) (body := spec_BestFree_L1 a0 a1 a2 a5 a6 v1 v3) (k := spec_BestFree_L1_k) hM fun m1 s c1 hM hK1 => ?_
            obtain ⟨s14, s15⟩ := s
            have hM : spec_BestFree_L1_b a0 a1 a2 a5 a6 v1 v3 s14 s15 = some c1 := hM
            unfold spec_BestFree_L1_b at hM
            rcases cond_cases hM with ⟨h17, hM⟩ | ⟨h17, hM⟩
            · rcases cond_cases hM with ⟨h18, hM⟩ | ⟨h18, hM⟩
              · obtain ⟨v19, h20, hM⟩ := bind_some hM
                have hE : some (Ctl.next (v19, w64 (s15 + 1))) = some c1 := hM
                have hE := Option.some.inj hE
                subst hE
                exact pc R 9999 [.as 52 true, .ln (v1.length), .as 57 true, .call false [] (.o (.c (.sl 8))) [] [(8, .row 3 1 (v19.map encI))]] [.sw 8 7, .keep [1, 2, 5, 6, 7, 15, 16, 17, 18] [0, 1, 7]] (And.intro h17 (And.intro (lenm encS v1) (And.intro h18 (And.intro (And.intro (con_sw 1000 8 (spec_l6Round_ok a0 a1 a2 a5 v1 s14 v3 v19 h20)) (rfl : ([] : List Nat) = [])) True.intro)))) (by kernel_rfl) (li (Sf := spec_BestFree_L1_S a0 a1 a2 a5 a6 v1 v3) (M := Mk (spec_BestFree_L1 a0 a1 a2 a5 a6 v1 v3) (spec_BestFree_L1_k) r) (k := [.blk 0, .code (cAt Try.f104 [1, 1, 1, 1, 1, 1])]) (Nat.lt_succ_self m1) hK1)
              · have hE : some (Ctl.brk s14) = some c1 := hM
                have hE := Option.some.inj hE
                subst hE
                exact pc R 5 [.as 52 true, .ln (v1.length), .as 57 false] [.keep [17] [7]] (And.intro h17 (And.intro (lenm encS v1) (And.intro h18 True.intro))) (by kernel_rfl) (K1 s14 hK1)
            · have hE : some (Ctl.brk s14) = some c1 := hM
              have hE := Option.some.inj hE
              subst hE
              exact pc R 5 [.as 52 false] [.keep [17] [7]] (And.intro h17 True.intro) (by kernel_rfl) (K1 s14 hK1)

-- loop.example/g03014/spec.l6Step
def spec_l6Step_x4 (a0 : Network) (a1 : (List Booking)) (a2 : (List Trip)) (a3 : Int) (a4 : (List ByteArray)) (a5 : (List Int)) (a6 : Int) (a7 : Int) (a8 : Int) (s1 : Int) (v19 : Int) : St := ⟨[(1, .o (.c (.rs 4 (a1.map Booking.enc)))), (2, .o (.c (.rs 2 (a2.map Trip.enc)))), (3, .o (.c (.v (.int .i64 a3)))), (4, .o (.c (.rs 1 (a4.map encS)))), (5, .o (.c (.rs 1 (a5.map encI)))), (6, .o (.c (.v (.int .i64 a6)))), (7, .o (.c (.v (.int .i64 a7)))), (8, .o (.c (.v (.int .i64 a8)))), (9, .o (.c (.ptr 0 0))), (18, .o (.c (.ptr 1 0))), (19, .o (.c (.v (.int .i64 s1)))), (21, .o (.c (.ptr 2 0)))], [(0, .box 36 [.rs 6 (a0.Legs.map Leg.enc), .rs 1 (a0.Off.map encI), .v (.int .i64 a0.Change)]), (1, .box 55 [.v (.int .i64 0), .v (.int .i64 0)]), (2, .box 55 [.v (.int .i64 ((Trip.mk s1 v19).Leg)), .v (.int .i64 ((Trip.mk s1 v19).Day))])]⟩
def spec_l6Step_s4 (a0 : Network) (a1 : (List Booking)) (a2 : (List Trip)) (a3 : Int) (a4 : (List ByteArray)) (a5 : (List Int)) (a6 : Int) (a7 : Int) (a8 : Int) (s1 : Int) (v5 : Int) : St := ⟨[(1, .o (.c (.rs 4 (a1.map Booking.enc)))), (2, .o (.c (.rs 2 (a2.map Trip.enc)))), (3, .o (.c (.v (.int .i64 a3)))), (4, .o (.c (.rs 1 (a4.map encS)))), (5, .o (.c (.rs 1 (a5.map encI)))), (6, .o (.c (.v (.int .i64 a6)))), (7, .o (.c (.v (.int .i64 a7)))), (8, .o (.c (.v (.int .i64 a8)))), (9, .o (.c (.ptr 0 0))), (18, .o (.c (.ptr 1 0))), (19, .o (.c (.v (.int .i64 s1)))), (20, .o (.c (.v (.int .i64 v5))))], [(0, .box 36 [.rs 6 (a0.Legs.map Leg.enc), .rs 1 (a0.Off.map encI), .v (.int .i64 a0.Change)]), (1, .box 55 [.v (.int .i64 0), .v (.int .i64 0)])]⟩
def spec_l6Step_o4 (v15 : Int) (v17 : Int) (v19 : Int) : List (List Orc) := [[], [], [], [], [], [], [], [], [.ix (encI v15)], [], [], [], [], [.call false [] (.o (.c (.v (.int .i64 v17)))) [] []], [], [.call false [] (.o (.c (.v (.int .i64 v19)))) [] []], [], [.new 2], []]
theorem spec_l6Step_y4 (a0 : Network) (a1 : (List Booking)) (a2 : (List Trip)) (a3 : Int) (a4 : (List ByteArray)) (a5 : (List Int)) (a6 : Int) (a7 : Int) (a8 : Int) (s1 : Int) (v5 : Int) (v15 : Int) (v17 : Int) (v19 : Int) (L : List Nat) : subX Try.prog [] 84 (opsOf (cAt Try.f105 [1, 0, 1, 0, 0, 1, 0, 0, 1, 1, 0])) (spec_l6Step_o4 v15 v17 v19) L (spec_l6Step_s4 a0 a1 a2 a3 a4 a5 a6 a7 a8 s1 v5) = subX Try.prog [] 84 (opsOf (cAt Try.f105 [1, 0, 1, 0, 0, 1, 0, 0, 1, 1, 0])) (spec_l6Step_o4 v15 v17 v19) L (spec_l6Step_s4 a0 a1 a2 a3 a4 a5 a6 a7 a8 s1 v5) := rfl
def spec_l6Step_j1 (a0 : Network) (a8 : Int) (s1 : Int) (v19 : Int) : Option (Ctl Int Unit Trip) :=
  bif (decide (((Trip.mk s1 v19).Day) ≥ 0)) then
  (spec_l3Ends a0 (Trip.mk ((Trip.mk s1 v19).Leg) ((Trip.mk s1 v19).Day))).bind fun v22 =>
  bif (v22 == a8) then
  some (.ret (Trip.mk ((Trip.mk ((Trip.mk s1 v19).Leg) ((Trip.mk s1 v19).Day)).Leg) ((Trip.mk ((Trip.mk s1 v19).Leg) ((Trip.mk s1 v19).Day)).Day)))
  else
  some (.next (w64 (s1 + 1)))
  else
  some (.next (w64 (s1 + 1)))
def spec_l6Step_L1_b (a0 : Network) (a1 : (List Booking)) (a2 : (List Trip)) (a3 : Int) (a4 : (List ByteArray)) (a5 : (List Int)) (a6 : Int) (a7 : Int) (a8 : Int) (s1 : Int) : Option (Ctl Int Unit Trip) :=
  bif (decide (s1 < (a0.Legs.length : Int))) then
  (gi a0.Legs s1).bind fun v3 =>
  (spec_l4Index a4 v3.From).bind fun v5 =>
  (gi a0.Legs s1).bind fun v7 =>
  (gi a4 a7).bind fun v9 =>
  bif (!(v7.To.toList == v9.toList)) then
  some (.next (w64 (s1 + 1)))
  else
  (gi a5 v5).bind fun v12 =>
  bif (decide (v12 < 0)) then
  some (.next (w64 (s1 + 1)))
  else
  (gi a5 v5).bind fun v15 =>
  (spec_l4Ready a0 v15 (v5 == a6)).bind fun v17 =>
  (spec_l6Next a0 a1 a2 s1 v17 a3).bind fun v19 =>
  spec_l6Step_j1 a0 a8 s1 v19
  else
  some (.brk ())
def spec_l6Step_L1 (a0 : Network) (a1 : (List Booking)) (a2 : (List Trip)) (a3 : Int) (a4 : (List ByteArray)) (a5 : (List Int)) (a6 : Int) (a7 : Int) (a8 : Int) (s : Int) : Option (Ctl Int Unit Trip) := spec_l6Step_L1_b a0 a1 a2 a3 a4 a5 a6 a7 a8 s
def spec_l6Step_L1_s (a0 : Network) (a1 : (List Booking)) (a2 : (List Trip)) (a3 : Int) (a4 : (List ByteArray)) (a5 : (List Int)) (a6 : Int) (a7 : Int) (a8 : Int) (s1 : Int) : St := ⟨[(1, .o (.c (.rs 4 (a1.map Booking.enc)))), (2, .o (.c (.rs 2 (a2.map Trip.enc)))), (3, .o (.c (.v (.int .i64 a3)))), (4, .o (.c (.rs 1 (a4.map encS)))), (5, .o (.c (.rs 1 (a5.map encI)))), (6, .o (.c (.v (.int .i64 a6)))), (7, .o (.c (.v (.int .i64 a7)))), (8, .o (.c (.v (.int .i64 a8)))), (9, .o (.c (.ptr 0 0))), (18, .o (.c (.ptr 1 0))), (19, .o (.c (.v (.int .i64 s1))))], [(0, .box 36 [.rs 6 (a0.Legs.map Leg.enc), .rs 1 (a0.Off.map encI), .v (.int .i64 a0.Change)]), (1, .box 55 [.v (.int .i64 0), .v (.int .i64 0)])]⟩
def spec_l6Step_L1_S (a0 : Network) (a1 : (List Booking)) (a2 : (List Trip)) (a3 : Int) (a4 : (List ByteArray)) (a5 : (List Int)) (a6 : Int) (a7 : Int) (a8 : Int) (s : Int) : St := spec_l6Step_L1_s a0 a1 a2 a3 a4 a5 a6 a7 a8 s
def spec_l6Step_L1_a : Option Trip :=
  some (Trip.mk ((Trip.mk 0 0).Leg) ((Trip.mk 0 0).Day))
def spec_l6Step_L1_k (x : (Unit) ⊕ (Trip)) : Option Trip := match x with
  | .inl t => spec_l6Step_L1_a
  | .inr y => some y
def spec_l6Step (a0 : Network) (a1 : (List Booking)) (a2 : (List Trip)) (a3 : Int) (a4 : (List ByteArray)) (a5 : (List Int)) (a6 : Int) (a7 : Int) (a8 : Int) : Option Trip :=
  (loopM (spec_l6Step_L1 a0 a1 a2 a3 a4 a5 a6 a7 a8) big 0).bind (spec_l6Step_L1_k)
theorem spec_l6Step_ok (a0 : Network) (a1 : (List Booking)) (a2 : (List Trip)) (a3 : Int) (a4 : (List ByteArray)) (a5 : (List Int)) (a6 : Int) (a7 : Int) (a8 : Int) (r : Trip) (hM : spec_l6Step a0 a1 a2 a3 a4 a5 a6 a7 a8 = some r) :
    Con Try.prog 105 [.agg [.rs 6 (a0.Legs.map Leg.enc), .rs 1 (a0.Off.map encI), .v (.int .i64 a0.Change)], .c (.rs 4 (a1.map Booking.enc)), .c (.rs 2 (a2.map Trip.enc)), .c (.v (.int .i64 a3)), .c (.rs 1 (a4.map encS)), .c (.rs 1 (a5.map encI)), .c (.v (.int .i64 a6)), .c (.v (.int .i64 a7)), .c (.v (.int .i64 a8))] [] (.o (.c (.v (.agg (Trip.enc r).toArray)))) [] [] := by
  unfold spec_l6Step at hM
  refine cn (N := 84) (pids := []) Try_mixed Try.func105 (by kernel_rfl) (by kernel_rfl) (by kernel_rfl) rfl fun ρ g w R => ?_
  have K1 : ∀ (_ : Unit), spec_l6Step_L1_a = some r → Gr R [.code (cAt Try.f105 [1, 1])] (⟨[(18, .o (.c (.ptr 1 0)))], [(1, .box 55 [.v (.int .i64 0), .v (.int .i64 0)])]⟩) := by
    intro _ hM
    unfold spec_l6Step_L1_a at hM
    have hE : some (Trip.mk ((Trip.mk 0 0).Leg) ((Trip.mk 0 0).Day)) = some r := hM
    have hE := Option.some.inj hE
    subst hE
    exact pr R 9999 [] [] [] [] True.intro (by kernel_rfl)
  refine pc R 9999 [.new 0, .new 1] [.keep [1, 2, 3, 4, 5, 6, 7, 8, 9, 18, 19] [0, 1]] (k' := [.code (.loop (cAt Try.f105 [1, 0, 1, 0, 0])), .blk 0, .code (cAt Try.f105 [1, 1])]) (S' := spec_l6Step_L1_S a0 a1 a2 a3 a4 a5 a6 a7 a8 0) True.intro (by kernel_rfl) ?_
  refine lq (spec_l6Step_L1_S a0 a1 a2 a3 a4 a5 a6 a7 a8) (body := spec_l6Step_L1 a0 a1 a2 a3 a4 a5 a6 a7 a8) (k := spec_l6Step_L1_k) hM fun m1 s c1 hM hK1 => ?_
  obtain ⟨s1, hs⟩ : ∃ z, z = s := ⟨_, rfl⟩
  subst hs
  have hM : spec_l6Step_L1_b a0 a1 a2 a3 a4 a5 a6 a7 a8 s1 = some c1 := hM
  unfold spec_l6Step_L1_b at hM
  rcases cond_cases hM with ⟨h2, hM⟩ | ⟨h2, hM⟩
  · obtain ⟨v3, h4, hM⟩ := bind_some hM
    obtain ⟨v5, h6, hM⟩ := bind_some hM
    obtain ⟨v7, h8, hM⟩ := bind_some hM
    obtain ⟨v9, h10, hM⟩ := bind_some hM
    rcases cond_cases hM with ⟨h11, hM⟩ | ⟨h11, hM⟩
    · have hE : some (Ctl.next (w64 (s1 + 1))) = some c1 := hM
      have hE := Option.some.inj hE
      subst hE
      exact pc R 9999 [.ln (a0.Legs.length), .as 26 true, .ix (Leg.enc v3), .call false [] (.o (.c (.v (.int .i64 v5)))) [] [], .ix (Leg.enc v7), .ix (encS v9), .as 48 true] [.keep [1, 2, 3, 4, 5, 6, 7, 8, 9, 18, 19] [0, 1]] (And.intro (lenm Leg.enc a0.Legs) (And.intro h2 (And.intro (gi_map Leg.enc h4) (And.intro (spec_l4Index_ok a4 v3.From v5 h6) (And.intro (gi_map Leg.enc h8) (And.intro (gi_map encS h10) (And.intro h11 True.intro))))))) (by kernel_rfl) (li (Sf := spec_l6Step_L1_S a0 a1 a2 a3 a4 a5 a6 a7 a8) (M := Mk (spec_l6Step_L1 a0 a1 a2 a3 a4 a5 a6 a7 a8) (spec_l6Step_L1_k) r) (k := [.blk 0, .code (cAt Try.f105 [1, 1])]) (Nat.lt_succ_self m1) hK1)
    · obtain ⟨v12, h13, hM⟩ := bind_some hM
      rcases cond_cases hM with ⟨h14, hM⟩ | ⟨h14, hM⟩
      · have hE : some (Ctl.next (w64 (s1 + 1))) = some c1 := hM
        have hE := Option.some.inj hE
        subst hE
        exact pc R 9999 [.ln (a0.Legs.length), .as 26 true, .ix (Leg.enc v3), .call false [] (.o (.c (.v (.int .i64 v5)))) [] [], .ix (Leg.enc v7), .ix (encS v9), .as 48 false, .ix (encI v12), .as 54 true] [.keep [1, 2, 3, 4, 5, 6, 7, 8, 9, 18, 19] [0, 1]] (And.intro (lenm Leg.enc a0.Legs) (And.intro h2 (And.intro (gi_map Leg.enc h4) (And.intro (spec_l4Index_ok a4 v3.From v5 h6) (And.intro (gi_map Leg.enc h8) (And.intro (gi_map encS h10) (And.intro h11 (And.intro (gi_map encI h13) (And.intro h14 True.intro))))))))) (by kernel_rfl) (li (Sf := spec_l6Step_L1_S a0 a1 a2 a3 a4 a5 a6 a7 a8) (M := Mk (spec_l6Step_L1 a0 a1 a2 a3 a4 a5 a6 a7 a8) (spec_l6Step_L1_k) r) (k := [.blk 0, .code (cAt Try.f105 [1, 1])]) (Nat.lt_succ_self m1) hK1)
      · obtain ⟨v15, h16, hM⟩ := bind_some hM
        obtain ⟨v17, h18, hM⟩ := bind_some hM
        obtain ⟨v19, h20, hM⟩ := bind_some hM
        have J1 : ∀ (_ : Unit), spec_l6Step_j1 a0 a8 s1 v19 = some c1 → Gr R [.code (cAt Try.f105 [1, 0, 1, 0, 0, 1, 0, 0, 1, 1, 1]), .blk 1, .code (cAt Try.f105 [1, 0, 1, 0, 0, 1, 1]), .inv (Jr R (spec_l6Step_L1_S a0 a1 a2 a3 a4 a5 a6 a7 a8) (Mk (spec_l6Step_L1 a0 a1 a2 a3 a4 a5 a6 a7 a8) (spec_l6Step_L1_k) r) (m1 + 1)), .blk 0, .code (cAt Try.f105 [1, 1])] (spec_l6Step_x4 a0 a1 a2 a3 a4 a5 a6 a7 a8 s1 v19) := by
          intro _ hM
          unfold spec_l6Step_j1 at hM
          rcases cond_cases hM with ⟨h21, hM⟩ | ⟨h21, hM⟩
          · obtain ⟨v22, h23, hM⟩ := bind_some hM
            rcases cond_cases hM with ⟨h24, hM⟩ | ⟨h24, hM⟩
            · have hE : some (Ctl.ret (Trip.mk ((Trip.mk ((Trip.mk s1 v19).Leg) ((Trip.mk s1 v19).Day)).Leg) ((Trip.mk ((Trip.mk s1 v19).Leg) ((Trip.mk s1 v19).Day)).Day))) = some c1 := hM
              have hE := Option.some.inj hE
              subst hE
              have hE : some (Trip.mk ((Trip.mk ((Trip.mk s1 v19).Leg) ((Trip.mk s1 v19).Day)).Leg) ((Trip.mk ((Trip.mk s1 v19).Leg) ((Trip.mk s1 v19).Day)).Day)) = some r := hK1
              have hE := Option.some.inj hE
              subst hE
              exact pr R 9999 [.as 75 true, .call false [] (.o (.c (.v (.int .i64 v22)))) [] [], .as 81 true] [] [] [] (And.intro h21 (And.intro (spec_l3Ends_ok a0 (Trip.mk ((Trip.mk s1 v19).Leg) ((Trip.mk s1 v19).Day)) v22 h23) (And.intro h24 True.intro))) (by kernel_rfl)
            · have hE : some (Ctl.next (w64 (s1 + 1))) = some c1 := hM
              have hE := Option.some.inj hE
              subst hE
              exact pc R 9999 [.as 75 true, .call false [] (.o (.c (.v (.int .i64 v22)))) [] [], .as 81 false] [.keep [1, 2, 3, 4, 5, 6, 7, 8, 9, 18, 19] [0, 1]] (And.intro h21 (And.intro (spec_l3Ends_ok a0 (Trip.mk ((Trip.mk s1 v19).Leg) ((Trip.mk s1 v19).Day)) v22 h23) (And.intro h24 True.intro))) (by kernel_rfl) (li (Sf := spec_l6Step_L1_S a0 a1 a2 a3 a4 a5 a6 a7 a8) (M := Mk (spec_l6Step_L1 a0 a1 a2 a3 a4 a5 a6 a7 a8) (spec_l6Step_L1_k) r) (k := [.blk 0, .code (cAt Try.f105 [1, 1])]) (Nat.lt_succ_self m1) hK1)
          · have hE : some (Ctl.next (w64 (s1 + 1))) = some c1 := hM
            have hE := Option.some.inj hE
            subst hE
            exact pc R 9999 [.as 75 false] [.keep [1, 2, 3, 4, 5, 6, 7, 8, 9, 18, 19] [0, 1]] (And.intro h21 True.intro) (by kernel_rfl) (li (Sf := spec_l6Step_L1_S a0 a1 a2 a3 a4 a5 a6 a7 a8) (M := Mk (spec_l6Step_L1 a0 a1 a2 a3 a4 a5 a6 a7 a8) (spec_l6Step_L1_k) r) (k := [.blk 0, .code (cAt Try.f105 [1, 1])]) (Nat.lt_succ_self m1) hK1)
        exact pc R 16 [.ln (a0.Legs.length), .as 26 true, .ix (Leg.enc v3), .call false [] (.o (.c (.v (.int .i64 v5)))) [] [], .ix (Leg.enc v7), .ix (encS v9), .as 48 false, .ix (encI v12), .as 54 false, .xg (spec_l6Step_o4 v15 v17 v19) [.keep [1, 2, 3, 4, 5, 6, 7, 8, 9, 18, 19, 20] [0, 1]] [.keep [1, 2, 3, 4, 5, 6, 7, 8, 9, 18, 19, 21] [0, 1, 2]] (spec_l6Step_x4 a0 a1 a2 a3 a4 a5 a6 a7 a8 s1 v19) [[0, 2, 3, 4, 6, 7, 8, 10, 11, 12, 14], [0, 1, 2, 3, 4, 6, 7, 8, 10, 11, 12, 14], [0, 2, 3, 4, 5, 6, 7, 8, 10, 11, 12, 14], [0, 2, 3, 4, 6, 7, 8, 9, 10, 11, 12, 14], [0, 2, 3, 4, 6, 7, 8, 10, 11, 12, 14, 17], [0, 1, 2, 3, 4, 5, 6, 7, 8, 10, 11, 12, 14], [0, 1, 2, 3, 4, 6, 7, 8, 9, 10, 11, 12, 14], [0, 1, 2, 3, 4, 6, 7, 8, 10, 11, 12, 14, 17], [0, 2, 3, 4, 5, 6, 7, 8, 9, 10, 11, 12, 14], [0, 2, 3, 4, 5, 6, 7, 8, 10, 11, 12, 14, 17], [0, 2, 3, 4, 6, 7, 8, 9, 10, 11, 12, 14, 17], [0, 1, 2, 3, 4, 5, 6, 7, 8, 9, 10, 11, 12, 14], [0, 1, 2, 3, 4, 5, 6, 7, 8, 10, 11, 12, 14, 17], [0, 1, 2, 3, 4, 6, 7, 8, 9, 10, 11, 12, 14, 17], [0, 2, 3, 4, 5, 6, 7, 8, 9, 10, 11, 12, 13, 14], [0, 2, 3, 4, 5, 6, 7, 8, 9, 10, 11, 12, 14, 17], [0, 1, 2, 3, 4, 5, 6, 7, 8, 9, 10, 11, 12, 13, 14], [0, 1, 2, 3, 4, 5, 6, 7, 8, 9, 10, 11, 12, 14, 17], [0, 2, 3, 4, 5, 6, 7, 8, 9, 10, 11, 12, 13, 14, 17], [0, 1, 2, 3, 4, 5, 6, 7, 8, 9, 10, 11, 12, 13, 14, 15], [0, 1, 2, 3, 4, 5, 6, 7, 8, 9, 10, 11, 12, 13, 14, 17], [0, 1, 2, 3, 4, 5, 6, 7, 8, 9, 10, 11, 12, 13, 14, 15, 16], [0, 1, 2, 3, 4, 5, 6, 7, 8, 9, 10, 11, 12, 13, 14, 15, 17], [0, 1, 2, 3, 4, 5, 6, 7, 8, 9, 10, 11, 12, 13, 14, 15, 16, 17]]] [] (And.intro (lenm Leg.enc a0.Legs) (And.intro h2 (And.intro (gi_map Leg.enc h4) (And.intro (spec_l4Index_ok a4 v3.From v5 h6) (And.intro (gi_map Leg.enc h8) (And.intro (gi_map encS h10) (And.intro h11 (And.intro (gi_map encI h13) (And.intro h14 (And.intro (gi_map encI h16) (And.intro (spec_l6Step_y4 a0 a1 a2 a3 a4 a5 a6 a7 a8 s1 v5 v15 v17 v19 [0, 2, 3, 4, 6, 7, 8, 10, 11, 12, 14]) (And.intro (spec_l6Step_y4 a0 a1 a2 a3 a4 a5 a6 a7 a8 s1 v5 v15 v17 v19 [0, 1, 2, 3, 4, 6, 7, 8, 10, 11, 12, 14]) (And.intro (spec_l6Step_y4 a0 a1 a2 a3 a4 a5 a6 a7 a8 s1 v5 v15 v17 v19 [0, 2, 3, 4, 5, 6, 7, 8, 10, 11, 12, 14]) (And.intro (spec_l6Step_y4 a0 a1 a2 a3 a4 a5 a6 a7 a8 s1 v5 v15 v17 v19 [0, 2, 3, 4, 6, 7, 8, 9, 10, 11, 12, 14]) (And.intro (spec_l6Step_y4 a0 a1 a2 a3 a4 a5 a6 a7 a8 s1 v5 v15 v17 v19 [0, 2, 3, 4, 6, 7, 8, 10, 11, 12, 14, 17]) (And.intro (spec_l6Step_y4 a0 a1 a2 a3 a4 a5 a6 a7 a8 s1 v5 v15 v17 v19 [0, 1, 2, 3, 4, 5, 6, 7, 8, 10, 11, 12, 14]) (And.intro (spec_l6Step_y4 a0 a1 a2 a3 a4 a5 a6 a7 a8 s1 v5 v15 v17 v19 [0, 1, 2, 3, 4, 6, 7, 8, 9, 10, 11, 12, 14]) (And.intro (spec_l6Step_y4 a0 a1 a2 a3 a4 a5 a6 a7 a8 s1 v5 v15 v17 v19 [0, 1, 2, 3, 4, 6, 7, 8, 10, 11, 12, 14, 17]) (And.intro (spec_l6Step_y4 a0 a1 a2 a3 a4 a5 a6 a7 a8 s1 v5 v15 v17 v19 [0, 1, 2, 3, 4, 5, 6, 7, 8, 10, 11, 12, 14]) (And.intro (spec_l6Step_y4 a0 a1 a2 a3 a4 a5 a6 a7 a8 s1 v5 v15 v17 v19 [0, 2, 3, 4, 5, 6, 7, 8, 9, 10, 11, 12, 14]) (And.intro (spec_l6Step_y4 a0 a1 a2 a3 a4 a5 a6 a7 a8 s1 v5 v15 v17 v19 [0, 2, 3, 4, 5, 6, 7, 8, 10, 11, 12, 14, 17]) (And.intro (spec_l6Step_y4 a0 a1 a2 a3 a4 a5 a6 a7 a8 s1 v5 v15 v17 v19 [0, 1, 2, 3, 4, 6, 7, 8, 9, 10, 11, 12, 14]) (And.intro (spec_l6Step_y4 a0 a1 a2 a3 a4 a5 a6 a7 a8 s1 v5 v15 v17 v19 [0, 2, 3, 4, 5, 6, 7, 8, 9, 10, 11, 12, 14]) (And.intro (spec_l6Step_y4 a0 a1 a2 a3 a4 a5 a6 a7 a8 s1 v5 v15 v17 v19 [0, 2, 3, 4, 6, 7, 8, 9, 10, 11, 12, 14, 17]) (And.intro (spec_l6Step_y4 a0 a1 a2 a3 a4 a5 a6 a7 a8 s1 v5 v15 v17 v19 [0, 1, 2, 3, 4, 6, 7, 8, 10, 11, 12, 14, 17]) (And.intro (spec_l6Step_y4 a0 a1 a2 a3 a4 a5 a6 a7 a8 s1 v5 v15 v17 v19 [0, 2, 3, 4, 5, 6, 7, 8, 10, 11, 12, 14, 17]) (And.intro (spec_l6Step_y4 a0 a1 a2 a3 a4 a5 a6 a7 a8 s1 v5 v15 v17 v19 [0, 2, 3, 4, 6, 7, 8, 9, 10, 11, 12, 14, 17]) (And.intro (spec_l6Step_y4 a0 a1 a2 a3 a4 a5 a6 a7 a8 s1 v5 v15 v17 v19 [0, 1, 2, 3, 4, 5, 6, 7, 8, 9, 10, 11, 12, 14]) (And.intro (spec_l6Step_y4 a0 a1 a2 a3 a4 a5 a6 a7 a8 s1 v5 v15 v17 v19 [0, 1, 2, 3, 4, 5, 6, 7, 8, 10, 11, 12, 14, 17]) (And.intro (spec_l6Step_y4 a0 a1 a2 a3 a4 a5 a6 a7 a8 s1 v5 v15 v17 v19 [0, 1, 2, 3, 4, 5, 6, 7, 8, 9, 10, 11, 12, 14]) (And.intro (spec_l6Step_y4 a0 a1 a2 a3 a4 a5 a6 a7 a8 s1 v5 v15 v17 v19 [0, 1, 2, 3, 4, 6, 7, 8, 9, 10, 11, 12, 14, 17]) (And.intro (spec_l6Step_y4 a0 a1 a2 a3 a4 a5 a6 a7 a8 s1 v5 v15 v17 v19 [0, 1, 2, 3, 4, 5, 6, 7, 8, 10, 11, 12, 14, 17]) (And.intro (spec_l6Step_y4 a0 a1 a2 a3 a4 a5 a6 a7 a8 s1 v5 v15 v17 v19 [0, 1, 2, 3, 4, 6, 7, 8, 9, 10, 11, 12, 14, 17]) (And.intro (spec_l6Step_y4 a0 a1 a2 a3 a4 a5 a6 a7 a8 s1 v5 v15 v17 v19 [0, 1, 2, 3, 4, 5, 6, 7, 8, 9, 10, 11, 12, 14]) (And.intro (spec_l4Ready_ok a0 v15 (v5 == a6) v17 h18) (And.intro (spec_l6Step_y4 a0 a1 a2 a3 a4 a5 a6 a7 a8 s1 v5 v15 v17 v19 [0, 2, 3, 4, 5, 6, 7, 8, 9, 10, 11, 12, 13, 14]) (And.intro (spec_l6Step_y4 a0 a1 a2 a3 a4 a5 a6 a7 a8 s1 v5 v15 v17 v19 [0, 2, 3, 4, 5, 6, 7, 8, 9, 10, 11, 12, 14, 17]) (And.intro (spec_l6Step_y4 a0 a1 a2 a3 a4 a5 a6 a7 a8 s1 v5 v15 v17 v19 [0, 1, 2, 3, 4, 5, 6, 7, 8, 10, 11, 12, 14, 17]) (And.intro (spec_l6Step_y4 a0 a1 a2 a3 a4 a5 a6 a7 a8 s1 v5 v15 v17 v19 [0, 2, 3, 4, 5, 6, 7, 8, 9, 10, 11, 12, 14, 17]) (And.intro (spec_l6Step_y4 a0 a1 a2 a3 a4 a5 a6 a7 a8 s1 v5 v15 v17 v19 [0, 1, 2, 3, 4, 6, 7, 8, 9, 10, 11, 12, 14, 17]) (And.intro (spec_l6Step_y4 a0 a1 a2 a3 a4 a5 a6 a7 a8 s1 v5 v15 v17 v19 [0, 2, 3, 4, 5, 6, 7, 8, 9, 10, 11, 12, 14, 17]) (And.intro (spec_l4Ready_ok a0 v15 (v5 == a6) v17 h18) (And.intro (spec_l6Step_y4 a0 a1 a2 a3 a4 a5 a6 a7 a8 s1 v5 v15 v17 v19 [0, 1, 2, 3, 4, 5, 6, 7, 8, 9, 10, 11, 12, 13, 14]) (And.intro (spec_l6Step_y4 a0 a1 a2 a3 a4 a5 a6 a7 a8 s1 v5 v15 v17 v19 [0, 1, 2, 3, 4, 5, 6, 7, 8, 9, 10, 11, 12, 14, 17]) (And.intro (spec_l6Step_y4 a0 a1 a2 a3 a4 a5 a6 a7 a8 s1 v5 v15 v17 v19 [0, 1, 2, 3, 4, 5, 6, 7, 8, 9, 10, 11, 12, 14, 17]) (And.intro (spec_l6Step_y4 a0 a1 a2 a3 a4 a5 a6 a7 a8 s1 v5 v15 v17 v19 [0, 1, 2, 3, 4, 5, 6, 7, 8, 9, 10, 11, 12, 14, 17]) (And.intro (spec_l6Step_y4 a0 a1 a2 a3 a4 a5 a6 a7 a8 s1 v5 v15 v17 v19 [0, 1, 2, 3, 4, 5, 6, 7, 8, 9, 10, 11, 12, 13, 14]) (And.intro (spec_l6Step_y4 a0 a1 a2 a3 a4 a5 a6 a7 a8 s1 v5 v15 v17 v19 [0, 2, 3, 4, 5, 6, 7, 8, 9, 10, 11, 12, 13, 14, 17]) (And.intro (spec_l6Step_y4 a0 a1 a2 a3 a4 a5 a6 a7 a8 s1 v5 v15 v17 v19 [0, 1, 2, 3, 4, 5, 6, 7, 8, 9, 10, 11, 12, 14, 17]) (And.intro (spec_l4Ready_ok a0 v15 (v5 == a6) v17 h18) (And.intro (spec_l6Step_y4 a0 a1 a2 a3 a4 a5 a6 a7 a8 s1 v5 v15 v17 v19 [0, 2, 3, 4, 5, 6, 7, 8, 9, 10, 11, 12, 13, 14, 17]) (And.intro (spec_l6Next_ok a0 a1 a2 s1 v17 a3 v19 h20) (And.intro (spec_l6Step_y4 a0 a1 a2 a3 a4 a5 a6 a7 a8 s1 v5 v15 v17 v19 [0, 1, 2, 3, 4, 5, 6, 7, 8, 9, 10, 11, 12, 13, 14, 15]) (And.intro (spec_l6Step_y4 a0 a1 a2 a3 a4 a5 a6 a7 a8 s1 v5 v15 v17 v19 [0, 1, 2, 3, 4, 5, 6, 7, 8, 9, 10, 11, 12, 13, 14, 17]) (And.intro (spec_l4Ready_ok a0 v15 (v5 == a6) v17 h18) (And.intro (spec_l6Step_y4 a0 a1 a2 a3 a4 a5 a6 a7 a8 s1 v5 v15 v17 v19 [0, 1, 2, 3, 4, 5, 6, 7, 8, 9, 10, 11, 12, 13, 14, 17]) (And.intro (spec_l6Step_y4 a0 a1 a2 a3 a4 a5 a6 a7 a8 s1 v5 v15 v17 v19 [0, 1, 2, 3, 4, 5, 6, 7, 8, 9, 10, 11, 12, 13, 14, 17]) (And.intro (spec_l6Step_y4 a0 a1 a2 a3 a4 a5 a6 a7 a8 s1 v5 v15 v17 v19 [0, 1, 2, 3, 4, 5, 6, 7, 8, 9, 10, 11, 12, 13, 14, 15, 16]) (And.intro (spec_l6Step_y4 a0 a1 a2 a3 a4 a5 a6 a7 a8 s1 v5 v15 v17 v19 [0, 1, 2, 3, 4, 5, 6, 7, 8, 9, 10, 11, 12, 13, 14, 15, 17]) (And.intro (spec_l6Next_ok a0 a1 a2 s1 v17 a3 v19 h20) (And.intro (spec_l6Step_y4 a0 a1 a2 a3 a4 a5 a6 a7 a8 s1 v5 v15 v17 v19 [0, 1, 2, 3, 4, 5, 6, 7, 8, 9, 10, 11, 12, 13, 14, 15, 17]) (And.intro (spec_l6Step_y4 a0 a1 a2 a3 a4 a5 a6 a7 a8 s1 v5 v15 v17 v19 [0, 1, 2, 3, 4, 5, 6, 7, 8, 9, 10, 11, 12, 13, 14, 15, 16, 17]) (And.intro (spec_l6Step_y4 a0 a1 a2 a3 a4 a5 a6 a7 a8 s1 v5 v15 v17 v19 [0, 1, 2, 3, 4, 5, 6, 7, 8, 9, 10, 11, 12, 13, 14, 15, 16, 17]) (And.intro (rfl : (spec_l6Step_x4 a0 a1 a2 a3 a4 a5 a6 a7 a8 s1 v19) = (spec_l6Step_x4 a0 a1 a2 a3 a4 a5 a6 a7 a8 s1 v19)) True.intro)))))))))))))))))))))))))))))))))))))))))))))))))))))))))))))))) (by kernel_rfl) (J1 () hM)
  · have hE : some (Ctl.brk ()) = some c1 := hM
    have hE := Option.some.inj hE
    subst hE
    exact pc R 5 [.ln (a0.Legs.length), .as 26 false] [.keep [18] [1]] (And.intro (lenm Leg.enc a0.Legs) (And.intro h2 True.intro)) (by kernel_rfl) (K1 () hK1)

-- loop.example/g03014/spec.FindRoom
def spec_FindRoom_L2_b (a0 : Network) (a1 : (List Booking)) (a2 : (List Trip)) (a3 : ByteArray) (a5 : Int) (a6 : Int) (v1 : (List ByteArray)) (v3 : Int) (s18 : Int) (s19 : (List Trip)) (s20 : Int) (s21 : Int) : Option (Ctl (Int × (List Trip) × Int × Int) (List Trip) ((List Trip) × Bool)) :=
  bif (decide (s21 > 0)) then
  (spec_BestFree a0 a1 a2 a3 a5 a6 (w64 (s21 - 1))).bind fun v24 =>
  (spec_l6Step a0 a1 a2 a6 v1 v24 v3 s18 s20).bind fun v26 =>
  (ap 16 ([v26] : List Trip) s19).bind fun v28 =>
  (gi a0.Legs v26.Leg).bind fun v30 =>
  (spec_l4Index v1 v30.From).bind fun v32 =>
  (gi v24 v32).bind fun v34 =>
  some (.next (v32, v28, v34, w64 (s21 - 1)))
  else
  some (.brk s19)
def spec_FindRoom_L2 (a0 : Network) (a1 : (List Booking)) (a2 : (List Trip)) (a3 : ByteArray) (a5 : Int) (a6 : Int) (v1 : (List ByteArray)) (v3 : Int) (s : Int × (List Trip) × Int × Int) : Option (Ctl (Int × (List Trip) × Int × Int) (List Trip) ((List Trip) × Bool)) := spec_FindRoom_L2_b a0 a1 a2 a3 a5 a6 v1 v3 s.1 s.2.1 s.2.2.1 s.2.2.2
def spec_FindRoom_L2_s (a0 : Network) (a1 : (List Booking)) (a2 : (List Trip)) (a3 : ByteArray) (a5 : Int) (a6 : Int) (v1 : (List ByteArray)) (v3 : Int) (s18 : Int) (s19 : (List Trip)) (s20 : Int) (s21 : Int) : St := ⟨[(1, .o (.c (.rs 4 (a1.map Booking.enc)))), (2, .o (.c (.rs 2 (a2.map Trip.enc)))), (3, .o (.c (.v (.string a3)))), (5, .o (.c (.v (.int .i64 a5)))), (6, .o (.c (.v (.int .i64 a6)))), (7, .o (.c (.ptr 0 0))), (16, .o (.c (.sl 1))), (17, .o (.c (.v (.int .i64 v3)))), (18, .o (.c (.v (.int .i64 s18)))), (20, .o (.c (.sl 3))), (21, .o (.c (.v (.int .i64 s20)))), (23, .o (.c (.v (.int .i64 s21))))], [(0, .box 36 [.rs 6 (a0.Legs.map Leg.enc), .rs 1 (a0.Off.map encI), .v (.int .i64 a0.Change)]), (1, .row 9 1 (v1.map encS)), (3, .row 55 2 (s19.map Trip.enc))]⟩
def spec_FindRoom_L2_S (a0 : Network) (a1 : (List Booking)) (a2 : (List Trip)) (a3 : ByteArray) (a5 : Int) (a6 : Int) (v1 : (List ByteArray)) (v3 : Int) (s : Int × (List Trip) × Int × Int) : St := spec_FindRoom_L2_s a0 a1 a2 a3 a5 a6 v1 v3 s.1 s.2.1 s.2.2.1 s.2.2.2
def spec_FindRoom_L2_a (s22 : (List Trip)) : Option ((List Trip) × Bool) :=
  some (s22, true)
def spec_FindRoom_L2_k (x : ((List Trip)) ⊕ ((List Trip) × Bool)) : Option ((List Trip) × Bool) := match x with
  | .inl t => spec_FindRoom_L2_a t
  | .inr y => some y
def spec_FindRoom_L1_b (a0 : Network) (a1 : (List Booking)) (a2 : (List Trip)) (a3 : ByteArray) (a5 : Int) (a6 : Int) (v5 : Int) (v14 : Int) (s16 : Int) : Option (Ctl Int Int ((List Trip) × Bool)) :=
  (spec_BestFree a0 a1 a2 a3 a5 a6 s16).bind fun v36 =>
  (gi v36 v5).bind fun v38 =>
  bif (v38 != v14) then
  some (.next (w64 (s16 + 1)))
  else
  some (.brk s16)
def spec_FindRoom_L1 (a0 : Network) (a1 : (List Booking)) (a2 : (List Trip)) (a3 : ByteArray) (a5 : Int) (a6 : Int) (v5 : Int) (v14 : Int) (s : Int) : Option (Ctl Int Int ((List Trip) × Bool)) := spec_FindRoom_L1_b a0 a1 a2 a3 a5 a6 v5 v14 s
def spec_FindRoom_L1_s (a0 : Network) (a1 : (List Booking)) (a2 : (List Trip)) (a3 : ByteArray) (a5 : Int) (a6 : Int) (v1 : (List ByteArray)) (v3 : Int) (v5 : Int) (v14 : Int) (s16 : Int) : St := ⟨[(1, .o (.c (.rs 4 (a1.map Booking.enc)))), (2, .o (.c (.rs 2 (a2.map Trip.enc)))), (3, .o (.c (.v (.string a3)))), (5, .o (.c (.v (.int .i64 a5)))), (6, .o (.c (.v (.int .i64 a6)))), (7, .o (.c (.ptr 0 0))), (16, .o (.c (.sl 1))), (17, .o (.c (.v (.int .i64 v3)))), (18, .o (.c (.v (.int .i64 v5)))), (20, .o (.c (.sl 3))), (21, .o (.c (.v (.int .i64 v14)))), (22, .o (.c (.v (.int .i64 s16))))], [(0, .box 36 [.rs 6 (a0.Legs.map Leg.enc), .rs 1 (a0.Off.map encI), .v (.int .i64 a0.Change)]), (1, .row 9 1 (v1.map encS)), (3, .row 55 2 (([] : List Trip).map Trip.enc))]⟩
def spec_FindRoom_L1_S (a0 : Network) (a1 : (List Booking)) (a2 : (List Trip)) (a3 : ByteArray) (a5 : Int) (a6 : Int) (v1 : (List ByteArray)) (v3 : Int) (v5 : Int) (v14 : Int) (s : Int) : St := spec_FindRoom_L1_s a0 a1 a2 a3 a5 a6 v1 v3 v5 v14 s
def spec_FindRoom_L1_a (a0 : Network) (a1 : (List Booking)) (a2 : (List Trip)) (a3 : ByteArray) (a5 : Int) (a6 : Int) (v1 : (List ByteArray)) (v3 : Int) (v5 : Int) (v14 : Int) (s17 : Int) : Option ((List Trip) × Bool) :=
  (loopM (spec_FindRoom_L2 a0 a1 a2 a3 a5 a6 v1 v3) big (v5, ([] : List Trip), v14, s17)).bind (spec_FindRoom_L2_k)
def spec_FindRoom_L1_k (a0 : Network) (a1 : (List Booking)) (a2 : (List Trip)) (a3 : ByteArray) (a5 : Int) (a6 : Int) (v1 : (List ByteArray)) (v3 : Int) (v5 : Int) (v14 : Int) (x : (Int) ⊕ ((List Trip) × Bool)) : Option ((List Trip) × Bool) := match x with
  | .inl t => spec_FindRoom_L1_a a0 a1 a2 a3 a5 a6 v1 v3 v5 v14 t
  | .inr y => some y
def spec_FindRoom (a0 : Network) (a1 : (List Booking)) (a2 : (List Trip)) (a3 : ByteArray) (a4 : ByteArray) (a5 : Int) (a6 : Int) : Option ((List Trip) × Bool) :=
  (spec_PlacesOf a0).bind fun v1 =>
  (spec_l4Index v1 a3).bind fun v3 =>
  (spec_l4Index v1 a4).bind fun v5 =>
  (spec_BestFree a0 a1 a2 a3 a5 a6 (v1.length : Int)).bind fun v7 =>
  bif (decide (v5 < 0)) then
  some (([] : List Trip), false)
  else
  bif ((v7.length : Int) == 0) then
  some (([] : List Trip), false)
  else
  (gi v7 v5).bind fun v11 =>
  bif (decide (v11 < 0)) then
  some (([] : List Trip), false)
  else
  (gi v7 v5).bind fun v14 =>
  (loopM (spec_FindRoom_L1 a0 a1 a2 a3 a5 a6 v5 v14) big 0).bind (spec_FindRoom_L1_k a0 a1 a2 a3 a5 a6 v1 v3 v5 v14)
theorem spec_FindRoom_ok (a0 : Network) (a1 : (List Booking)) (a2 : (List Trip)) (a3 : ByteArray) (a4 : ByteArray) (a5 : Int) (a6 : Int) (r : (List Trip) × Bool) (hM : spec_FindRoom a0 a1 a2 a3 a4 a5 a6 = some r) :
    Con Try.prog 81 [.agg [.rs 6 (a0.Legs.map Leg.enc), .rs 1 (a0.Off.map encI), .v (.int .i64 a0.Change)], .c (.rs 4 (a1.map Booking.enc)), .c (.rs 2 (a2.map Trip.enc)), .c (.v (.string a3)), .c (.v (.string a4)), .c (.v (.int .i64 a5)), .c (.v (.int .i64 a6))] [] (.tup [.c (.sl 1000), .c (.v (.bool r.2))]) [] [(1000, .row 55 2 (r.1.map Trip.enc))] := by
  unfold spec_FindRoom at hM
  refine cn (N := 120) (pids := []) Try_mixed Try.func81 (by kernel_rfl) (by kernel_rfl) (by kernel_rfl) rfl fun ρ g w R => ?_
  obtain ⟨v1, h2, hM⟩ := bind_some hM
  obtain ⟨v3, h4, hM⟩ := bind_some hM
  obtain ⟨v5, h6, hM⟩ := bind_some hM
  obtain ⟨v7, h8, hM⟩ := bind_some hM
  rcases cond_cases hM with ⟨h9, hM⟩ | ⟨h9, hM⟩
  · have hE : some (([] : List Trip), false) = some r := hM
    have hE := Option.some.inj hE
    subst hE
    exact pr R 9999 [.new 0, .call false [] (.o (.c (.sl 1))) [] [(1, .row 9 1 (v1.map encS))], .call false [] (.o (.c (.v (.int .i64 v3)))) [] [], .call false [] (.o (.c (.v (.int .i64 v5)))) [] [], .ln (v1.length), .call false [] (.o (.c (.sl 2))) [] [(2, .row 3 1 (v7.map encI))], .new 3, .as 46 true] [.sw 3 1000] [] [1000] (And.intro (And.intro (con_sw 1000 1 (spec_PlacesOf_ok a0 v1 h2)) (rfl : ([] : List Nat) = [])) (And.intro (spec_l4Index_ok v1 a3 v3 h4) (And.intro (spec_l4Index_ok v1 a4 v5 h6) (And.intro (lenm encS v1) (And.intro (And.intro (con_sw 1000 2 (spec_BestFree_ok a0 a1 a2 a3 a5 a6 (v1.length : Int) v7 h8)) (rfl : ([] : List Nat) = [])) (And.intro h9 True.intro)))))) (by kernel_rfl)
  · rcases cond_cases hM with ⟨h10, hM⟩ | ⟨h10, hM⟩
    · have hE : some (([] : List Trip), false) = some r := hM
      have hE := Option.some.inj hE
      subst hE
      exact pr R 9999 [.new 0, .call false [] (.o (.c (.sl 1))) [] [(1, .row 9 1 (v1.map encS))], .call false [] (.o (.c (.v (.int .i64 v3)))) [] [], .call false [] (.o (.c (.v (.int .i64 v5)))) [] [], .ln (v1.length), .call false [] (.o (.c (.sl 2))) [] [(2, .row 3 1 (v7.map encI))], .new 3, .as 46 false, .ln (v7.length), .as 51 true] [.sw 3 1000] [] [1000] (And.intro (And.intro (con_sw 1000 1 (spec_PlacesOf_ok a0 v1 h2)) (rfl : ([] : List Nat) = [])) (And.intro (spec_l4Index_ok v1 a3 v3 h4) (And.intro (spec_l4Index_ok v1 a4 v5 h6) (And.intro (lenm encS v1) (And.intro (And.intro (con_sw 1000 2 (spec_BestFree_ok a0 a1 a2 a3 a5 a6 (v1.length : Int) v7 h8)) (rfl : ([] : List Nat) = [])) (And.intro h9 (And.intro (lenm encI v7) (And.intro h10 True.intro)))))))) (by kernel_rfl)
    · obtain ⟨v11, h12, hM⟩ := bind_some hM
      rcases cond_cases hM with ⟨h13, hM⟩ | ⟨h13, hM⟩
      · have hE : some (([] : List Trip), false) = some r := hM
        have hE := Option.some.inj hE
        subst hE
        exact pr R 9999 [.new 0, .call false [] (.o (.c (.sl 1))) [] [(1, .row 9 1 (v1.map encS))], .call false [] (.o (.c (.v (.int .i64 v3)))) [] [], .call false [] (.o (.c (.v (.int .i64 v5)))) [] [], .ln (v1.length), .call false [] (.o (.c (.sl 2))) [] [(2, .row 3 1 (v7.map encI))], .new 3, .as 46 false, .ln (v7.length), .as 51 false, .ix (encI v11), .as 57 true] [.sw 3 1000] [] [1000] (And.intro (And.intro (con_sw 1000 1 (spec_PlacesOf_ok a0 v1 h2)) (rfl : ([] : List Nat) = [])) (And.intro (spec_l4Index_ok v1 a3 v3 h4) (And.intro (spec_l4Index_ok v1 a4 v5 h6) (And.intro (lenm encS v1) (And.intro (And.intro (con_sw 1000 2 (spec_BestFree_ok a0 a1 a2 a3 a5 a6 (v1.length : Int) v7 h8)) (rfl : ([] : List Nat) = [])) (And.intro h9 (And.intro (lenm encI v7) (And.intro h10 (And.intro (gi_lt encI h12) (And.intro ((gi_map encI h12).2) (And.intro h13 True.intro))))))))))) (by kernel_rfl)
      · obtain ⟨v14, h15, hM⟩ := bind_some hM
        have K1 : ∀ (s17 : Int), spec_FindRoom_L1_a a0 a1 a2 a3 a5 a6 v1 v3 v5 v14 s17 = some r → Gr R [.code (cAt Try.f81 [1, 1, 1, 1, 1, 1, 1, 1, 1, 1])] (⟨[(1, .o (.c (.rs 4 (a1.map Booking.enc)))), (2, .o (.c (.rs 2 (a2.map Trip.enc)))), (3, .o (.c (.v (.string a3)))), (5, .o (.c (.v (.int .i64 a5)))), (6, .o (.c (.v (.int .i64 a6)))), (7, .o (.c (.ptr 0 0))), (16, .o (.c (.sl 1))), (17, .o (.c (.v (.int .i64 v3)))), (18, .o (.c (.v (.int .i64 v5)))), (20, .o (.c (.sl 3))), (21, .o (.c (.v (.int .i64 v14)))), (22, .o (.c (.v (.int .i64 s17))))], [(0, .box 36 [.rs 6 (a0.Legs.map Leg.enc), .rs 1 (a0.Off.map encI), .v (.int .i64 a0.Change)]), (1, .row 9 1 (v1.map encS)), (3, .row 55 2 (([] : List Trip).map Trip.enc))]⟩) := by
          intro s17 hM
          unfold spec_FindRoom_L1_a at hM
          have K2 : ∀ (s22 : (List Trip)), spec_FindRoom_L2_a s22 = some r → Gr R [.code (cAt Try.f81 [1, 1, 1, 1, 1, 1, 1, 1, 1, 1, 1])] (⟨[(20, .o (.c (.sl 3)))], [(3, .row 55 2 (s22.map Trip.enc))]⟩) := by
            intro s22 hM
            unfold spec_FindRoom_L2_a at hM
            have hE : some (s22, true) = some r := hM
            have hE := Option.some.inj hE
            subst hE
            exact pr R 9999 [] [.sw 3 1000] [] [1000] True.intro (by kernel_rfl)
          refine pc R 9999 [] [.keep [1, 2, 3, 5, 6, 7, 16, 17, 18, 20, 21, 23] [0, 1, 3]] (k' := [.code (.loop (cAt Try.f81 [1, 1, 1, 1, 1, 1, 1, 1, 1, 1, 0, 1, 0, 0])), .blk 2, .code (cAt Try.f81 [1, 1, 1, 1, 1, 1, 1, 1, 1, 1, 1])]) (S' := spec_FindRoom_L2_S a0 a1 a2 a3 a5 a6 v1 v3 (v5, ([] : List Trip), v14, s17)) True.intro (by kernel_rfl) ?_
          refine lq (spec_FindRoom_L2_S a0 a1 a2 a3 a5 a6 v1 v3) (body := spec_FindRoom_L2 a0 a1 a2 a3 a5 a6 v1 v3) (k := spec_FindRoom_L2_k) hM fun m2 s c2 hM hK2 => ?_
          obtain ⟨s18, s19, s20, s21⟩ := s
          have hM : spec_FindRoom_L2_b a0 a1 a2 a3 a5 a6 v1 v3 s18 s19 s20 s21 = some c2 := hM
          unfold spec_FindRoom_L2_b at hM
          rcases cond_cases hM with ⟨h23, hM⟩ | ⟨h23, hM⟩
          · obtain ⟨v24, h25, hM⟩ := bind_some hM
            obtain ⟨v26, h27, hM⟩ := bind_some hM
            obtain ⟨v28, h29, hM⟩ := bind_some hM
            obtain ⟨v30, h31, hM⟩ := bind_some hM
            obtain ⟨v32, h33, hM⟩ := bind_some hM
            obtain ⟨v34, h35, hM⟩ := bind_some hM
            have hE : some (Ctl.next (v32, v28, v34, w64 (s21 - 1))) = some c2 := hM
            have hE := Option.some.inj hE
            subst hE
            exact pc R 9999 [.as 80 true, .call false [] (.o (.c (.sl 4))) [] [(4, .row 3 1 (v24.map encI))], .call false [] (.o (.c (.v (.agg (Trip.enc v26).toArray)))) [] [], .new 5, .new 6, .new 7, .nm (v28.map Trip.enc), .ix (Leg.enc v30), .call false [] (.o (.c (.v (.int .i64 v32)))) [] [], .ix (encI v34)] [.sw 7 3, .keep [1, 2, 3, 5, 6, 7, 16, 17, 18, 20, 21, 23] [0, 1, 3]] (And.intro h23 (And.intro (And.intro (con_sw 1000 4 (spec_BestFree_ok a0 a1 a2 a3 a5 a6 (w64 (s21 - 1)) v24 h25)) (rfl : ([] : List Nat) = [])) (And.intro (spec_l6Step_ok a0 a1 a2 a6 v1 v24 v3 s18 s20 v26 h27) (And.intro (ap_ok Trip.enc h29) (And.intro (gi_map Leg.enc h31) (And.intro (spec_l4Index_ok v1 v30.From v32 h33) (And.intro (gi_lt encI h35) (And.intro ((gi_map encI h35).2) True.intro)))))))) (by kernel_rfl) (li (Sf := spec_FindRoom_L2_S a0 a1 a2 a3 a5 a6 v1 v3) (M := Mk (spec_FindRoom_L2 a0 a1 a2 a3 a5 a6 v1 v3) (spec_FindRoom_L2_k) r) (k := [.blk 2, .code (cAt Try.f81 [1, 1, 1, 1, 1, 1, 1, 1, 1, 1, 1])]) (Nat.lt_succ_self m2) hK2)
          · have hE : some (Ctl.brk s19) = some c2 := hM
            have hE := Option.some.inj hE
            subst hE
            exact pc R 5 [.as 80 false] [.keep [20] [3]] (And.intro h23 True.intro) (by kernel_rfl) (K2 s19 hK2)
        refine pc R 9999 [.new 0, .call false [] (.o (.c (.sl 1))) [] [(1, .row 9 1 (v1.map encS))], .call false [] (.o (.c (.v (.int .i64 v3)))) [] [], .call false [] (.o (.c (.v (.int .i64 v5)))) [] [], .ln (v1.length), .call false [] (.o (.c (.sl 2))) [] [(2, .row 3 1 (v7.map encI))], .new 3, .as 46 false, .ln (v7.length), .as 51 false, .ix (encI v11), .as 57 false, .ix (encI v14)] [.keep [1, 2, 3, 5, 6, 7, 16, 17, 18, 20, 21, 22] [0, 1, 3]] (k' := [.code (.loop (cAt Try.f81 [1, 1, 1, 1, 1, 1, 1, 1, 1, 0, 0, 0])), .blk 0, .code (cAt Try.f81 [1, 1, 1, 1, 1, 1, 1, 1, 1, 1])]) (S' := spec_FindRoom_L1_S a0 a1 a2 a3 a5 a6 v1 v3 v5 v14 0) (And.intro (And.intro (con_sw 1000 1 (spec_PlacesOf_ok a0 v1 h2)) (rfl : ([] : List Nat) = [])) (And.intro (spec_l4Index_ok v1 a3 v3 h4) (And.intro (spec_l4Index_ok v1 a4 v5 h6) (And.intro (lenm encS v1) (And.intro (And.intro (con_sw 1000 2 (spec_BestFree_ok a0 a1 a2 a3 a5 a6 (v1.length : Int) v7 h8)) (rfl : ([] : List Nat) = [])) (And.intro h9 (And.intro (lenm encI v7) (And.intro h10 (And.intro (gi_lt encI h12) (And.intro ((gi_map encI h12).2) (And.intro h13 (And.intro (gi_lt encI h15) (And.intro ((gi_map encI h15).2) True.intro))))))))))))) (by kernel_rfl) ?_
        refine lq (spec_FindRoom_L1_S a0 a1 a2 a3 a5 a6 v1 v3 v5 v14) (body := spec_FindRoom_L1 a0 a1 a2 a3 a5 a6 v5 v14) (k := spec_FindRoom_L1_k a0 a1 a2 a3 a5 a6 v1 v3 v5 v14) hM fun m1 s c1 hM hK1 => ?_
        obtain ⟨s16, hs⟩ : ∃ z, z = s := ⟨_, rfl⟩
        subst hs
        have hM : spec_FindRoom_L1_b a0 a1 a2 a3 a5 a6 v5 v14 s16 = some c1 := hM
        unfold spec_FindRoom_L1_b at hM
        obtain ⟨v36, h37, hM⟩ := bind_some hM
        obtain ⟨v38, h39, hM⟩ := bind_some hM
        rcases cond_cases hM with ⟨h40, hM⟩ | ⟨h40, hM⟩
        · have hE : some (Ctl.next (w64 (s16 + 1))) = some c1 := hM
          have hE := Option.some.inj hE
          subst hE
          exact pc R 9999 [.call false [] (.o (.c (.sl 8))) [] [(8, .row 3 1 (v36.map encI))], .ix (encI v38), .as 75 true] [.keep [1, 2, 3, 5, 6, 7, 16, 17, 18, 20, 21, 22] [0, 1, 3]] (And.intro (And.intro (con_sw 1000 8 (spec_BestFree_ok a0 a1 a2 a3 a5 a6 s16 v36 h37)) (rfl : ([] : List Nat) = [])) (And.intro (gi_lt encI h39) (And.intro ((gi_map encI h39).2) (And.intro h40 True.intro)))) (by kernel_rfl) (li (Sf := spec_FindRoom_L1_S a0 a1 a2 a3 a5 a6 v1 v3 v5 v14) (M := Mk (spec_FindRoom_L1 a0 a1 a2 a3 a5 a6 v5 v14) (spec_FindRoom_L1_k a0 a1 a2 a3 a5 a6 v1 v3 v5 v14) r) (k := [.blk 0, .code (cAt Try.f81 [1, 1, 1, 1, 1, 1, 1, 1, 1, 1])]) (Nat.lt_succ_self m1) hK1)
        · have hE : some (Ctl.brk s16) = some c1 := hM
          have hE := Option.some.inj hE
          subst hE
          exact pc R 5 [.call false [] (.o (.c (.sl 8))) [] [(8, .row 3 1 (v36.map encI))], .ix (encI v38), .as 75 false] [.keep [1, 2, 3, 5, 6, 7, 16, 17, 18, 20, 21, 22] [0, 1, 3]] (And.intro (And.intro (con_sw 1000 8 (spec_BestFree_ok a0 a1 a2 a3 a5 a6 s16 v36 h37)) (rfl : ([] : List Nat) = [])) (And.intro (gi_lt encI h39) (And.intro ((gi_map encI h39).2) (And.intro h40 True.intro)))) (by kernel_rfl) (K1 s16 hK1)

-- loop.example/g03014/spec.l6Copy
def spec_l6Copy (a0 : (List Booking)) : Option (List Booking) :=
  (ap 32 ([] : List Booking) a0).bind fun v1 =>
  some v1
theorem spec_l6Copy_ok (a0 : (List Booking)) (r : (List Booking)) (hM : spec_l6Copy a0 = some r) :
    Con Try.prog 32 [.c (.rs 4 (a0.map Booking.enc))] [] (.o (.c (.sl 1000))) [] [(1000, .row 57 4 (r.map Booking.enc))] := by
  unfold spec_l6Copy at hM
  refine cn (N := 6) (pids := []) Try_mixed Try.func32 (by kernel_rfl) (by kernel_rfl) (by kernel_rfl) rfl fun ρ g w R => ?_
  obtain ⟨v1, h2, hM⟩ := bind_some hM
  have hE : some v1 = some r := hM
  have hE := Option.some.inj hE
  subst hE
  exact pr R 9999 [.new 0, .new 1, .nm (v1.map Booking.enc)] [.sw 1 1000] [] [1000] (And.intro (ap_ok Booking.enc h2) True.intro) (by kernel_rfl)

-- loop.example/g03014/spec.l6Add
def spec_l6Add_x1 (v11 : (List Booking)) : St := ⟨[(4, .o (.c (.sl 4)))], [(4, .row 57 4 (v11.map Booking.enc))]⟩
def spec_l6Add_L1_b (a0 : (List Booking)) (a1 : Booking) (s1 : Int) : Option (Ctl Int Int (List Booking)) :=
  bif (decide (s1 < (a0.length : Int))) then
  (gi a0 s1).bind fun v14 =>
  (spec_l6Before v14 a1).bind fun v16 =>
  bif v16 then
  some (.next (w64 (s1 + 1)))
  else
  some (.brk s1)
  else
  some (.brk s1)
def spec_l6Add_L1 (a0 : (List Booking)) (a1 : Booking) (s : Int) : Option (Ctl Int Int (List Booking)) := spec_l6Add_L1_b a0 a1 s
def spec_l6Add_L1_s (a0 : (List Booking)) (a1 : Booking) (s1 : Int) : St := ⟨[(0, .o (.c (.rs 4 (a0.map Booking.enc)))), (3, .o (.c (.ptr 0 0))), (5, .o (.c (.v (.int .i64 s1))))], [(0, .box 57 [.v (.int .i64 a1.Thing), .v (.int .i64 a1.Trip.Leg), .v (.int .i64 a1.Trip.Day), .v (.int .i64 a1.Weight)])]⟩
def spec_l6Add_L1_S (a0 : (List Booking)) (a1 : Booking) (s : Int) : St := spec_l6Add_L1_s a0 a1 s
def spec_l6Add_L1_a (a0 : (List Booking)) (a1 : Booking) (s2 : Int) : Option (List Booking) :=
  (slM a0 0 s2).bind fun v3 =>
  (spec_l6Copy v3).bind fun v5 =>
  (ap 32 v5 ([a1] : List Booking)).bind fun v7 =>
  (slM a0 s2 a0.length).bind fun v9 =>
  (ap 32 v7 v9).bind fun v11 =>
  some v11
def spec_l6Add_L1_k (a0 : (List Booking)) (a1 : Booking) (x : (Int) ⊕ ((List Booking))) : Option (List Booking) := match x with
  | .inl t => spec_l6Add_L1_a a0 a1 t
  | .inr y => some y
def spec_l6Add (a0 : (List Booking)) (a1 : Booking) : Option (List Booking) :=
  (loopM (spec_l6Add_L1 a0 a1) big 0).bind (spec_l6Add_L1_k a0 a1)
theorem spec_l6Add_ok (a0 : (List Booking)) (a1 : Booking) (r : (List Booking)) (hM : spec_l6Add a0 a1 = some r) :
    Con Try.prog 34 [.c (.rs 4 (a0.map Booking.enc)), .c (.v (.agg (Booking.enc a1).toArray))] [] (.o (.c (.sl 1000))) [] [(1000, .row 57 4 (r.map Booking.enc))] := by
  unfold spec_l6Add at hM
  refine cn (N := 31) (pids := []) Try_mixed Try.func34 (by kernel_rfl) (by kernel_rfl) (by kernel_rfl) rfl fun ρ g w R => ?_
  have K1 : ∀ (s2 : Int), spec_l6Add_L1_a a0 a1 s2 = some r → Gr R [.code (cAt Try.f34 [1, 1, 1])] (⟨[(0, .o (.c (.rs 4 (a0.map Booking.enc)))), (3, .o (.c (.ptr 0 0))), (5, .o (.c (.v (.int .i64 s2))))], [(0, .box 57 [.v (.int .i64 a1.Thing), .v (.int .i64 a1.Trip.Leg), .v (.int .i64 a1.Trip.Day), .v (.int .i64 a1.Weight)])]⟩) := by
    intro s2 hM
    unfold spec_l6Add_L1_a at hM
    obtain ⟨v3, h4, hM⟩ := bind_some hM
    obtain ⟨v5, h6, hM⟩ := bind_some hM
    obtain ⟨v7, h8, hM⟩ := bind_some hM
    obtain ⟨v9, h10, hM⟩ := bind_some hM
    obtain ⟨v11, h12, hM⟩ := bind_some hM
    have hE : some v11 = some r := hM
    have hE := Option.some.inj hE
    subst hE
    exact pr R 9999 [.xo [[], [], [.nm (v3.map Booking.enc)], [.call false [] (.o (.c (.sl 1))) [] [(1, .row 57 4 (v5.map Booking.enc))]], [], [.new 2], [.new 3, .nm (v7.map Booking.enc)], [], [], [.nm (v9.map Booking.enc)], [.new 4, .nm (v11.map Booking.enc)], []] [.keep [4] [4]] (spec_l6Add_x1 v11)] [.sw 4 1000] [] [1000] (And.intro (slM_ok Booking.enc h4) (And.intro (slM_okL Booking.enc h10) (And.intro (And.intro (con_sw 1000 1 (spec_l6Copy_ok v3 v5 h6)) (rfl : ([] : List Nat) = [])) (And.intro (ap_ok Booking.enc h8) (And.intro (ap_ok Booking.enc h12) (And.intro (rfl : (spec_l6Add_x1 v11) = (spec_l6Add_x1 v11)) (And.intro (And.intro (con_sw 1000 1 (spec_l6Copy_ok v3 v5 h6)) (rfl : ([] : List Nat) = [])) (And.intro (ap_ok Booking.enc h8) (And.intro (ap_ok Booking.enc h12) (And.intro (rfl : (spec_l6Add_x1 v11) = (spec_l6Add_x1 v11)) (And.intro (And.intro (con_sw 1000 1 (spec_l6Copy_ok v3 v5 h6)) (rfl : ([] : List Nat) = [])) (And.intro (ap_ok Booking.enc h8) (And.intro (ap_ok Booking.enc h12) (And.intro (rfl : (spec_l6Add_x1 v11) = (spec_l6Add_x1 v11)) True.intro)))))))))))))) (by kernel_rfl)
  refine pc R 9999 [.new 0] [.keep [0, 3, 5] [0]] (k' := [.code (.loop (cAt Try.f34 [1, 1, 0, 0, 0])), .blk 0, .code (cAt Try.f34 [1, 1, 1])]) (S' := spec_l6Add_L1_S a0 a1 0) True.intro (by kernel_rfl) ?_
  refine lq (spec_l6Add_L1_S a0 a1) (body := spec_l6Add_L1 a0 a1) (k := spec_l6Add_L1_k a0 a1) hM fun m1 s c1 hM hK1 => ?_
  obtain ⟨s1, hs⟩ : ∃ z, z = s := ⟨_, rfl⟩
  subst hs
  have hM : spec_l6Add_L1_b a0 a1 s1 = some c1 := hM
  unfold spec_l6Add_L1_b at hM
  rcases cond_cases hM with ⟨h13, hM⟩ | ⟨h13, hM⟩
  · obtain ⟨v14, h15, hM⟩ := bind_some hM
    obtain ⟨v16, h17, hM⟩ := bind_some hM
    rcases cond_cases hM with ⟨h18, hM⟩ | ⟨h18, hM⟩
    · have hE : some (Ctl.next (w64 (s1 + 1))) = some c1 := hM
      have hE := Option.some.inj hE
      subst hE
      exact pc R 9999 [.ln (a0.length), .as 10 true, .ix (Booking.enc v14), .call false [] (.o (.c (.v (.bool v16)))) [] [], .as 17 true] [.keep [0, 3, 5] [0]] (And.intro (lenm Booking.enc a0) (And.intro h13 (And.intro (gi_map Booking.enc h15) (And.intro (spec_l6Before_ok v14 a1 v16 h17) (And.intro h18 True.intro))))) (by kernel_rfl) (li (Sf := spec_l6Add_L1_S a0 a1) (M := Mk (spec_l6Add_L1 a0 a1) (spec_l6Add_L1_k a0 a1) r) (k := [.blk 0, .code (cAt Try.f34 [1, 1, 1])]) (Nat.lt_succ_self m1) hK1)
    · have hE : some (Ctl.brk s1) = some c1 := hM
      have hE := Option.some.inj hE
      subst hE
      exact pc R 5 [.ln (a0.length), .as 10 true, .ix (Booking.enc v14), .call false [] (.o (.c (.v (.bool v16)))) [] [], .as 17 false] [.keep [0, 3, 5] [0]] (And.intro (lenm Booking.enc a0) (And.intro h13 (And.intro (gi_map Booking.enc h15) (And.intro (spec_l6Before_ok v14 a1 v16 h17) (And.intro h18 True.intro))))) (by kernel_rfl) (K1 s1 hK1)
  · have hE : some (Ctl.brk s1) = some c1 := hM
    have hE := Option.some.inj hE
    subst hE
    exact pc R 5 [.ln (a0.length), .as 10 false] [.keep [0, 3, 5] [0]] (And.intro (lenm Booking.enc a0) (And.intro h13 True.intro)) (by kernel_rfl) (K1 s1 hK1)

-- loop.example/g03014/spec.BookWay
def spec_BookWay_L1_b (a2 : Int) (a3 : Int) (a4 : (List Trip)) (s7 : (List Booking)) (s8 : Int) : Option (Ctl ((List Booking) × Int) (List Booking) ((List Booking) × Bool)) :=
  bif (decide (s8 < (a4.length : Int))) then
  (gi a4 s8).bind fun v16 =>
  (spec_l6Add s7 (Booking.mk a2 v16 a3)).bind fun v18 =>
  some (.next (v18, w64 (s8 + 1)))
  else
  some (.brk s7)
def spec_BookWay_L1 (a2 : Int) (a3 : Int) (a4 : (List Trip)) (s : (List Booking) × Int) : Option (Ctl ((List Booking) × Int) (List Booking) ((List Booking) × Bool)) := spec_BookWay_L1_b a2 a3 a4 s.1 s.2
def spec_BookWay_L1_s (a0 : Network) (a1 : (List Booking)) (a2 : Int) (a3 : Int) (a4 : (List Trip)) (s7 : (List Booking)) (s8 : Int) : St := ⟨[(1, .o (.c (.rs 4 (a1.map Booking.enc)))), (2, .o (.c (.v (.int .i64 a2)))), (3, .o (.c (.v (.int .i64 a3)))), (4, .o (.c (.rs 2 (a4.map Trip.enc)))), (5, .o (.c (.ptr 0 0))), (12, .o (.c (.sl 1))), (13, .o (.c (.v (.int .i64 s8))))], [(0, .box 36 [.rs 6 (a0.Legs.map Leg.enc), .rs 1 (a0.Off.map encI), .v (.int .i64 a0.Change)]), (1, .row 57 4 (s7.map Booking.enc))]⟩
def spec_BookWay_L1_S (a0 : Network) (a1 : (List Booking)) (a2 : Int) (a3 : Int) (a4 : (List Trip)) (s : (List Booking) × Int) : St := spec_BookWay_L1_s a0 a1 a2 a3 a4 s.1 s.2
def spec_BookWay_L1_a (a0 : Network) (a1 : (List Booking)) (s9 : (List Booking)) : Option ((List Booking) × Bool) :=
  (spec_AreBookings a0 s9).bind fun v10 =>
  bif (!v10) then
  (spec_l6Copy a1).bind fun v13 =>
  some (v13, false)
  else
  some (s9, true)
def spec_BookWay_L1_k (a0 : Network) (a1 : (List Booking)) (x : ((List Booking)) ⊕ ((List Booking) × Bool)) : Option ((List Booking) × Bool) := match x with
  | .inl t => spec_BookWay_L1_a a0 a1 t
  | .inr y => some y
def spec_BookWay (a0 : Network) (a1 : (List Booking)) (a2 : Int) (a3 : Int) (a4 : (List Trip)) : Option ((List Booking) × Bool) :=
  (spec_l6Copy a1).bind fun v1 =>
  (spec_AreBookings a0 a1).bind fun v3 =>
  bif (!v3) then
  some (v1, false)
  else
  bif (decide ((a4.length : Int) > 20)) then
  some (v1, false)
  else
  (loopM (spec_BookWay_L1 a2 a3 a4) big (v1, 0)).bind (spec_BookWay_L1_k a0 a1)
theorem spec_BookWay_ok (a0 : Network) (a1 : (List Booking)) (a2 : Int) (a3 : Int) (a4 : (List Trip)) (r : (List Booking) × Bool) (hM : spec_BookWay a0 a1 a2 a3 a4 = some r) :
    Con Try.prog 9 [.agg [.rs 6 (a0.Legs.map Leg.enc), .rs 1 (a0.Off.map encI), .v (.int .i64 a0.Change)], .c (.rs 4 (a1.map Booking.enc)), .c (.v (.int .i64 a2)), .c (.v (.int .i64 a3)), .c (.rs 2 (a4.map Trip.enc))] [] (.tup [.c (.sl 1000), .c (.v (.bool r.2))]) [] [(1000, .row 57 4 (r.1.map Booking.enc))] := by
  unfold spec_BookWay at hM
  refine cn (N := 48) (pids := []) Try_mixed Try.func9 (by kernel_rfl) (by kernel_rfl) (by kernel_rfl) rfl fun ρ g w R => ?_
  obtain ⟨v1, h2, hM⟩ := bind_some hM
  obtain ⟨v3, h4, hM⟩ := bind_some hM
  rcases cond_cases hM with ⟨h5, hM⟩ | ⟨h5, hM⟩
  · have hE : some (v1, false) = some r := hM
    have hE := Option.some.inj hE
    subst hE
    exact pr R 9999 [.new 0, .call false [] (.o (.c (.sl 1))) [] [(1, .row 57 4 (v1.map Booking.enc))], .call false [] (.o (.c (.v (.bool v3)))) [] [], .as 20 true] [.sw 1 1000] [] [1000] (And.intro (And.intro (con_sw 1000 1 (spec_l6Copy_ok a1 v1 h2)) (rfl : ([] : List Nat) = [])) (And.intro (spec_AreBookings_ok a0 a1 v3 h4) (And.intro h5 True.intro))) (by kernel_rfl)
  · rcases cond_cases hM with ⟨h6, hM⟩ | ⟨h6, hM⟩
    · have hE : some (v1, false) = some r := hM
      have hE := Option.some.inj hE
      subst hE
      exact pr R 9999 [.new 0, .call false [] (.o (.c (.sl 1))) [] [(1, .row 57 4 (v1.map Booking.enc))], .call false [] (.o (.c (.v (.bool v3)))) [] [], .as 20 false, .ln (a4.length), .as 24 true] [.sw 1 1000] [] [1000] (And.intro (And.intro (con_sw 1000 1 (spec_l6Copy_ok a1 v1 h2)) (rfl : ([] : List Nat) = [])) (And.intro (spec_AreBookings_ok a0 a1 v3 h4) (And.intro h5 (And.intro (lenm Trip.enc a4) (And.intro h6 True.intro))))) (by kernel_rfl)
    · have K1 : ∀ (s9 : (List Booking)), spec_BookWay_L1_a a0 a1 s9 = some r → Gr R [.code (cAt Try.f9 [1, 1, 1, 1])] (⟨[(1, .o (.c (.rs 4 (a1.map Booking.enc)))), (5, .o (.c (.ptr 0 0))), (12, .o (.c (.sl 1)))], [(0, .box 36 [.rs 6 (a0.Legs.map Leg.enc), .rs 1 (a0.Off.map encI), .v (.int .i64 a0.Change)]), (1, .row 57 4 (s9.map Booking.enc))]⟩) := by
        intro s9 hM
        unfold spec_BookWay_L1_a at hM
        obtain ⟨v10, h11, hM⟩ := bind_some hM
        rcases cond_cases hM with ⟨h12, hM⟩ | ⟨h12, hM⟩
        · obtain ⟨v13, h14, hM⟩ := bind_some hM
          have hE : some (v13, false) = some r := hM
          have hE := Option.some.inj hE
          subst hE
          exact pr R 9999 [.call false [] (.o (.c (.v (.bool v10)))) [] [], .as 44 true, .call false [] (.o (.c (.sl 2))) [] [(2, .row 57 4 (v13.map Booking.enc))]] [.sw 2 1000] [] [1000] (And.intro (spec_AreBookings_ok a0 s9 v10 h11) (And.intro h12 (And.intro (And.intro (con_sw 1000 2 (spec_l6Copy_ok a1 v13 h14)) (rfl : ([] : List Nat) = [])) True.intro))) (by kernel_rfl)
        · have hE : some (s9, true) = some r := hM
          have hE := Option.some.inj hE
          subst hE
          exact pr R 9999 [.call false [] (.o (.c (.v (.bool v10)))) [] [], .as 44 false] [.sw 1 1000] [] [1000] (And.intro (spec_AreBookings_ok a0 s9 v10 h11) (And.intro h12 True.intro)) (by kernel_rfl)
      refine pc R 9999 [.new 0, .call false [] (.o (.c (.sl 1))) [] [(1, .row 57 4 (v1.map Booking.enc))], .call false [] (.o (.c (.v (.bool v3)))) [] [], .as 20 false, .ln (a4.length), .as 24 false] [.keep [1, 2, 3, 4, 5, 12, 13] [0, 1]] (k' := [.code (.loop (cAt Try.f9 [1, 1, 1, 0, 1, 0, 0])), .blk 0, .code (cAt Try.f9 [1, 1, 1, 1])]) (S' := spec_BookWay_L1_S a0 a1 a2 a3 a4 (v1, 0)) (And.intro (And.intro (con_sw 1000 1 (spec_l6Copy_ok a1 v1 h2)) (rfl : ([] : List Nat) = [])) (And.intro (spec_AreBookings_ok a0 a1 v3 h4) (And.intro h5 (And.intro (lenm Trip.enc a4) (And.intro h6 True.intro))))) (by kernel_rfl) ?_
      refine lq (spec_BookWay_L1_S a0 a1 a2 a3 a4) (body := spec_BookWay_L1 a2 a3 a4) (k := spec_BookWay_L1_k a0 a1) hM fun m1 s c1 hM hK1 => ?_
      obtain ⟨s7, s8⟩ := s
      have hM : spec_BookWay_L1_b a2 a3 a4 s7 s8 = some c1 := hM
      unfold spec_BookWay_L1_b at hM
      rcases cond_cases hM with ⟨h15, hM⟩ | ⟨h15, hM⟩
      · obtain ⟨v16, h17, hM⟩ := bind_some hM
        obtain ⟨v18, h19, hM⟩ := bind_some hM
        have hE : some (Ctl.next (v18, w64 (s8 + 1))) = some c1 := hM
        have hE := Option.some.inj hE
        subst hE
        exact pc R 9999 [.ln (a4.length), .as 29 true, .ix (Trip.enc v16), .call false [] (.o (.c (.sl 3))) [] [(3, .row 57 4 (v18.map Booking.enc))]] [.sw 3 1, .keep [1, 2, 3, 4, 5, 12, 13] [0, 1]] (And.intro (lenm Trip.enc a4) (And.intro h15 (And.intro (gi_map Trip.enc h17) (And.intro (And.intro (con_sw 1000 3 (spec_l6Add_ok s7 (Booking.mk a2 v16 a3) v18 h19)) (rfl : ([] : List Nat) = [])) True.intro)))) (by kernel_rfl) (li (Sf := spec_BookWay_L1_S a0 a1 a2 a3 a4) (M := Mk (spec_BookWay_L1 a2 a3 a4) (spec_BookWay_L1_k a0 a1) r) (k := [.blk 0, .code (cAt Try.f9 [1, 1, 1, 1])]) (Nat.lt_succ_self m1) hK1)
      · have hE : some (Ctl.brk s7) = some c1 := hM
        have hE := Option.some.inj hE
        subst hE
        exact pc R 5 [.ln (a4.length), .as 29 false] [.keep [1, 5, 12] [0, 1]] (And.intro (lenm Trip.enc a4) (And.intro h15 True.intro)) (by kernel_rfl) (K1 s7 hK1)

-- loop.example/g03014/spec.l6Draw
def spec_l6Draw_x7 (a1 : Network) (s6 : (List Booking)) (s7 : Int) (v13 : (Int × l1Cur)) (v19 : (Int × l1Cur)) (v21 : ((List Trip) × Bool)) : St := ⟨[(0, .o (.c (.ptr 900 0))), (1, .o (.agg [.sl 901, .sl 921, .v (.int .i64 a1.Change)])), (4, .o (.c (.ptr 0 0))), (7, .o (.c (.sl 1))), (8, .o (.c (.v (.int .i64 s7)))), (9, .o (.c (.v (.int .i64 (w64 (1 + v13.1)))))), (10, .o (.c (.sl 3)))], [(900, .box 119 [.rs 1 (v19.2.b.map encU8), .v (.int .i64 v19.2.i), .v (.int .i64 v19.2.h)]), (901, .row 95 6 (a1.Legs.map Leg.enc)), (921, .row 3 1 (a1.Off.map encI)), (0, .box 36 [.sl 901, .sl 921, .v (.int .i64 a1.Change)]), (1, .row 57 4 (s6.map Booking.enc)), (3, .row 55 2 (v21.1.map Trip.enc))]⟩
def spec_l6Draw_s7 (a1 : Network) (s6 : (List Booking)) (s7 : Int) (v13 : (Int × l1Cur)) : St := ⟨[(0, .o (.c (.ptr 900 0))), (1, .o (.agg [.sl 901, .sl 921, .v (.int .i64 a1.Change)])), (4, .o (.c (.ptr 0 0))), (7, .o (.c (.sl 1))), (8, .o (.c (.v (.int .i64 s7)))), (9, .o (.c (.v (.int .i64 (w64 (1 + v13.1))))))], [(900, .box 119 [.rs 1 (v13.2.b.map encU8), .v (.int .i64 v13.2.i), .v (.int .i64 v13.2.h)]), (901, .row 95 6 (a1.Legs.map Leg.enc)), (921, .row 3 1 (a1.Off.map encI)), (0, .box 36 [.sl 901, .sl 921, .v (.int .i64 a1.Change)]), (1, .row 57 4 (s6.map Booking.enc))]⟩
def spec_l6Draw_o7 (a1 : Network) (v15 : (ByteArray × l1Cur)) (v17 : (ByteArray × l1Cur)) (v19 : (Int × l1Cur)) (v21 : ((List Trip) × Bool)) : List (List Orc) := [[], [], [.new 2], [], [], [.ad (.keep [0, 1, 4, 7, 8, 9, 10, 11, 18, 19, 22, 23, 24, 25, 26, 27, 28, 29, 30, 31, 32, 33, 34, 35, 36, 37, 38, 39, 40, 41] [900, 901, 921, 0, 1, 2, 3, 4, 5, 6, 7, 8, 9, 10, 11, 12, 13, 14, 15, 16, 17, 18, 19, 20, 21, 22, 23, 24, 25, 26, 27, 28, 29, 30, 31, 32, 33, 34, 35, 36, 37, 38, 39, 40, 41, 42]), .call true [900, 901, 921] (.o (.c (.v (.string v15.1)))) [(900, .box 119 [.rs 1 (v15.2.b.map encU8), .v (.int .i64 v15.2.i), .v (.int .i64 v15.2.h)]), (901, .row 95 6 (a1.Legs.map Leg.enc)), (921, .row 3 1 (a1.Off.map encI))] []], [], [], [.ad (.keep [0, 1, 4, 7, 8, 9, 10, 11, 18, 19, 22, 23, 24, 25, 26, 27, 28, 29, 30, 31, 32, 33, 34, 35, 36, 37, 38, 39, 40, 41] [900, 901, 921, 0, 1, 2, 3, 4, 5, 6, 7, 8, 9, 10, 11, 12, 13, 14, 15, 16, 17, 18, 19, 20, 21, 22, 23, 24, 25, 26, 27, 28, 29, 30, 31, 32, 33, 34, 35, 36, 37, 38, 39, 40, 41, 42]), .call true [900, 901, 921] (.o (.c (.v (.string v17.1)))) [(900, .box 119 [.rs 1 (v17.2.b.map encU8), .v (.int .i64 v17.2.i), .v (.int .i64 v17.2.h)]), (901, .row 95 6 (a1.Legs.map Leg.enc)), (921, .row 3 1 (a1.Off.map encI))] []], [], [.call true [900] (.o (.c (.v (.int .i64 v19.1)))) [(900, .box 119 [.rs 1 (v19.2.b.map encU8), .v (.int .i64 v19.2.i), .v (.int .i64 v19.2.h)])] []], [], [], [.call false [] (.tup [.c (.sl 3), .c (.v (.bool v21.2))]) [] [(3, .row 55 2 (v21.1.map Trip.enc))]], [], [], [], [], []]
theorem spec_l6Draw_y7 (a1 : Network) (s6 : (List Booking)) (s7 : Int) (v13 : (Int × l1Cur)) (v15 : (ByteArray × l1Cur)) (v17 : (ByteArray × l1Cur)) (v19 : (Int × l1Cur)) (v21 : ((List Trip) × Bool)) (L : List Nat) : subX Try.prog [900, 901, 921] 55 (opsOf (cAt Try.f51 [1, 1, 0, 1, 0, 0, 1, 0, 0, 1, 0])) (spec_l6Draw_o7 a1 v15 v17 v19 v21) L (spec_l6Draw_s7 a1 s6 s7 v13) = subX Try.prog [900, 901, 921] 55 (opsOf (cAt Try.f51 [1, 1, 0, 1, 0, 0, 1, 0, 0, 1, 0])) (spec_l6Draw_o7 a1 v15 v17 v19 v21) L (spec_l6Draw_s7 a1 s6 s7 v13) := rfl
def spec_l6Draw_x8 (a1 : Network) (s7 : Int) (v23 : (Int × l1Cur)) (v25 : ((List Booking) × Bool)) : St := ⟨[(0, .o (.c (.ptr 900 0))), (1, .o (.agg [.sl 901, .sl 921, .v (.int .i64 a1.Change)])), (4, .o (.c (.ptr 0 0))), (8, .o (.c (.v (.int .i64 s7)))), (12, .o (.c (.sl 4)))], [(900, .box 119 [.rs 1 (v23.2.b.map encU8), .v (.int .i64 v23.2.i), .v (.int .i64 v23.2.h)]), (901, .row 95 6 (a1.Legs.map Leg.enc)), (921, .row 3 1 (a1.Off.map encI)), (0, .box 36 [.sl 901, .sl 921, .v (.int .i64 a1.Change)]), (4, .row 57 4 (v25.1.map Booking.enc))]⟩
def spec_l6Draw_j1 (a1 : Network) (s6 : (List Booking)) (s7 : Int) (v13 : (Int × l1Cur)) (v19 : (Int × l1Cur)) (v21 : ((List Trip) × Bool)) : Option (Ctl ((List Int) × Int × Int × (List Booking) × Int) ((List Int) × Int × Int × (List Booking)) ((List Booking) × l1Cur)) :=
  (spec_l1Below v19.2 12).bind fun v23 =>
  (spec_BookWay a1 s6 (w64 (1 + v23.1)) (w64 (1 + v13.1)) v21.1).bind fun v25 =>
  some (.next (v23.2.b, v23.2.i, v23.2.h, v25.1, w64 (s7 - 1)))
def spec_l6Draw_L1_b (a1 : Network) (s3 : (List Int)) (s4 : Int) (s5 : Int) (s6 : (List Booking)) (s7 : Int) : Option (Ctl ((List Int) × Int × Int × (List Booking) × Int) ((List Int) × Int × Int × (List Booking)) ((List Booking) × l1Cur)) :=
  bif (decide (s7 > 0)) then
  (spec_l1Below (l1Cur.mk s3 s4 s5) 9000).bind fun v13 =>
  (spec_l4Of v13.2 a1).bind fun v15 =>
  (spec_l4Of v15.2 a1).bind fun v17 =>
  (spec_l1Below v17.2 100).bind fun v19 =>
  (spec_FindRoom a1 s6 ([] : List Trip) v15.1 v17.1 (w64 (60 * v19.1)) (w64 (1 + v13.1))).bind fun v21 =>
  spec_l6Draw_j1 a1 s6 s7 v13 v19 v21
  else
  some (.brk (s3, s4, s5, s6))
def spec_l6Draw_L1 (a1 : Network) (s : (List Int) × Int × Int × (List Booking) × Int) : Option (Ctl ((List Int) × Int × Int × (List Booking) × Int) ((List Int) × Int × Int × (List Booking)) ((List Booking) × l1Cur)) := spec_l6Draw_L1_b a1 s.1 s.2.1 s.2.2.1 s.2.2.2.1 s.2.2.2.2
def spec_l6Draw_L1_s (a1 : Network) (s3 : (List Int)) (s4 : Int) (s5 : Int) (s6 : (List Booking)) (s7 : Int) : St := ⟨[(0, .o (.c (.ptr 900 0))), (1, .o (.agg [.sl 901, .sl 921, .v (.int .i64 a1.Change)])), (4, .o (.c (.ptr 0 0))), (7, .o (.c (.sl 1))), (8, .o (.c (.v (.int .i64 s7))))], [(900, .box 119 [.rs 1 (s3.map encU8), .v (.int .i64 s4), .v (.int .i64 s5)]), (901, .row 95 6 (a1.Legs.map Leg.enc)), (921, .row 3 1 (a1.Off.map encI)), (0, .box 36 [.sl 901, .sl 921, .v (.int .i64 a1.Change)]), (1, .row 57 4 (s6.map Booking.enc))]⟩
def spec_l6Draw_L1_S (a1 : Network) (s : (List Int) × Int × Int × (List Booking) × Int) : St := spec_l6Draw_L1_s a1 s.1 s.2.1 s.2.2.1 s.2.2.2.1 s.2.2.2.2
def spec_l6Draw_L1_a (s8 : (List Int)) (s9 : Int) (s10 : Int) (s11 : (List Booking)) : Option ((List Booking) × l1Cur) :=
  some (s11, (l1Cur.mk s8 s9 s10))
def spec_l6Draw_L1_k (x : ((List Int) × Int × Int × (List Booking)) ⊕ ((List Booking) × l1Cur)) : Option ((List Booking) × l1Cur) := match x with
  | .inl t => spec_l6Draw_L1_a t.1 t.2.1 t.2.2.1 t.2.2.2
  | .inr y => some y
def spec_l6Draw (a0 : l1Cur) (a1 : Network) (a2 : Int) : Option ((List Booking) × l1Cur) :=
  (spec_l1Below a0 a2).bind fun v1 =>
  (loopM (spec_l6Draw_L1 a1) big (v1.2.b, v1.2.i, v1.2.h, ([] : List Booking), v1.1)).bind (spec_l6Draw_L1_k)
theorem spec_l6Draw_ok (a0 : l1Cur) (a1 : Network) (a2 : Int) (r : (List Booking) × l1Cur) (hM : spec_l6Draw a0 a1 a2 = some r) :
    Con Try.prog 51 [.c (.ptr 900 0), .agg [.sl 901, .sl 921, .v (.int .i64 a1.Change)], .c (.v (.int .i64 a2))] [(900, .box 119 [.rs 1 (a0.b.map encU8), .v (.int .i64 a0.i), .v (.int .i64 a0.h)]), (901, .row 95 6 (a1.Legs.map Leg.enc)), (921, .row 3 1 (a1.Off.map encI))] (.o (.c (.sl 1000))) [(900, .box 119 [.rs 1 (r.2.b.map encU8), .v (.int .i64 r.2.i), .v (.int .i64 r.2.h)]), (901, .row 95 6 (a1.Legs.map Leg.enc)), (921, .row 3 1 (a1.Off.map encI))] [(1000, .row 57 4 (r.1.map Booking.enc))] := by
  unfold spec_l6Draw at hM
  refine cn (N := 55) (pids := [900, 901, 921]) Try_mixed Try.func51 (by kernel_rfl) (by kernel_rfl) (by kernel_rfl) rfl fun ρ g w R => ?_
  obtain ⟨v1, h2, hM⟩ := bind_some hM
  have K1 : ∀ (s8 : (List Int)) (s9 : Int) (s10 : Int) (s11 : (List Booking)), spec_l6Draw_L1_a s8 s9 s10 s11 = some r → Gr R [.code (cAt Try.f51 [1, 1, 1])] (⟨[(0, .o (.c (.ptr 900 0))), (1, .o (.agg [.sl 901, .sl 921, .v (.int .i64 a1.Change)])), (7, .o (.c (.sl 1)))], [(900, .box 119 [.rs 1 (s8.map encU8), .v (.int .i64 s9), .v (.int .i64 s10)]), (901, .row 95 6 (a1.Legs.map Leg.enc)), (921, .row 3 1 (a1.Off.map encI)), (1, .row 57 4 (s11.map Booking.enc))]⟩) := by
    intro s8 s9 s10 s11 hM
    unfold spec_l6Draw_L1_a at hM
    have hE : some (s11, (l1Cur.mk s8 s9 s10)) = some r := hM
    have hE := Option.some.inj hE
    subst hE
    exact pr R 9999 [] [.sw 1 1000] [900, 901, 921] [1000] True.intro (by kernel_rfl)
  refine pc R 9999 [.new 0, .new 1, .call true [900] (.o (.c (.v (.int .i64 v1.1)))) [(900, .box 119 [.rs 1 (v1.2.b.map encU8), .v (.int .i64 v1.2.i), .v (.int .i64 v1.2.h)])] []] [.keep [0, 1, 4, 7, 8] [900, 901, 921, 0, 1]] (k' := [.code (.loop (cAt Try.f51 [1, 1, 0, 1, 0, 0])), .blk 0, .code (cAt Try.f51 [1, 1, 1])]) (S' := spec_l6Draw_L1_S a1 (v1.2.b, v1.2.i, v1.2.h, ([] : List Booking), v1.1)) (And.intro (And.intro (con_sw 900 900 (spec_l1Below_ok a0 a2 v1 h2)) (rfl : ([900] : List Nat) = [900])) True.intro) (by kernel_rfl) ?_
  refine lq (spec_l6Draw_L1_S a1) (body := spec_l6Draw_L1 a1) (k := spec_l6Draw_L1_k) hM fun m1 s c1 hM hK1 => ?_
  obtain ⟨s3, s4, s5, s6, s7⟩ := s
  have hM : spec_l6Draw_L1_b a1 s3 s4 s5 s6 s7 = some c1 := hM
  unfold spec_l6Draw_L1_b at hM
  rcases cond_cases hM with ⟨h12, hM⟩ | ⟨h12, hM⟩
  · obtain ⟨v13, h14, hM⟩ := bind_some hM
    obtain ⟨v15, h16, hM⟩ := bind_some hM
    obtain ⟨v17, h18, hM⟩ := bind_some hM
    obtain ⟨v19, h20, hM⟩ := bind_some hM
    obtain ⟨v21, h22, hM⟩ := bind_some hM
    have J1 : ∀ (_ : Unit), spec_l6Draw_j1 a1 s6 s7 v13 v19 v21 = some c1 → Gr R [.code (cAt Try.f51 [1, 1, 0, 1, 0, 0, 1, 0, 0, 1, 1]), .blk 1, .code (cAt Try.f51 [1, 1, 0, 1, 0, 0, 1, 1]), .inv (Jr R (spec_l6Draw_L1_S a1) (Mk (spec_l6Draw_L1 a1) (spec_l6Draw_L1_k) r) (m1 + 1)), .blk 0, .code (cAt Try.f51 [1, 1, 1])] (spec_l6Draw_x7 a1 s6 s7 v13 v19 v21) := by
      intro _ hM
      unfold spec_l6Draw_j1 at hM
      obtain ⟨v23, h24, hM⟩ := bind_some hM
      obtain ⟨v25, h26, hM⟩ := bind_some hM
      have hE : some (Ctl.next (v23.2.b, v23.2.i, v23.2.h, v25.1, w64 (s7 - 1))) = some c1 := hM
      have hE := Option.some.inj hE
      subst hE
      exact pc R 9999 [.xo [[], [], [], [.call true [900] (.o (.c (.v (.int .i64 v23.1)))) [(900, .box 119 [.rs 1 (v23.2.b.map encU8), .v (.int .i64 v23.2.i), .v (.int .i64 v23.2.h)])] []], [], [], [], [.call false [] (.tup [.c (.sl 4), .c (.v (.bool v25.2))]) [] [(4, .row 57 4 (v25.1.map Booking.enc))]], [], [], [], [], []] [.keep [0, 1, 4, 8, 12] [900, 901, 921, 0, 4]] (spec_l6Draw_x8 a1 s7 v23 v25)] [.sw 4 1, .keep [0, 1, 4, 7, 8] [900, 901, 921, 0, 1]] (And.intro (And.intro (con_sw 900 900 (spec_l1Below_ok v19.2 12 v23 h24)) (rfl : ([900] : List Nat) = [900])) (And.intro (And.intro (con_sw 1000 4 (spec_BookWay_ok a1 s6 (w64 (1 + v23.1)) (w64 (1 + v13.1)) v21.1 v25 h26)) (rfl : ([] : List Nat) = [])) (And.intro (rfl : (spec_l6Draw_x8 a1 s7 v23 v25) = (spec_l6Draw_x8 a1 s7 v23 v25)) (And.intro (And.intro (con_sw 900 900 (spec_l1Below_ok v19.2 12 v23 h24)) (rfl : ([900] : List Nat) = [900])) (And.intro (And.intro (con_sw 1000 4 (spec_BookWay_ok a1 s6 (w64 (1 + v23.1)) (w64 (1 + v13.1)) v21.1 v25 h26)) (rfl : ([] : List Nat) = [])) (And.intro (rfl : (spec_l6Draw_x8 a1 s7 v23 v25) = (spec_l6Draw_x8 a1 s7 v23 v25)) True.intro)))))) (by kernel_rfl) (li (Sf := spec_l6Draw_L1_S a1) (M := Mk (spec_l6Draw_L1 a1) (spec_l6Draw_L1_k) r) (k := [.blk 0, .code (cAt Try.f51 [1, 1, 1])]) (Nat.lt_succ_self m1) hK1)
    exact pc R 11 [.as 19 true, .call true [900] (.o (.c (.v (.int .i64 v13.1)))) [(900, .box 119 [.rs 1 (v13.2.b.map encU8), .v (.int .i64 v13.2.i), .v (.int .i64 v13.2.h)])] [], .xg (spec_l6Draw_o7 a1 v15 v17 v19 v21) [.keep [0, 1, 4, 7, 8, 9] [900, 901, 921, 0, 1]] [.keep [0, 1, 4, 7, 8, 9, 10] [900, 901, 921, 0, 1, 3]] (spec_l6Draw_x7 a1 s6 s7 v13 v19 v21) [[1, 3, 6, 9, 12], [0, 1, 3, 6, 9, 12], [1, 2, 3, 6, 9, 12], [1, 3, 4, 6, 9, 12], [1, 3, 6, 7, 9, 12], [0, 1, 2, 3, 6, 9, 12], [0, 1, 3, 4, 6, 9, 12], [0, 1, 3, 6, 7, 9, 12], [1, 2, 3, 4, 6, 9, 12], [1, 2, 3, 6, 7, 9, 12], [1, 3, 4, 5, 6, 9, 12], [1, 3, 4, 6, 7, 9, 12], [0, 1, 2, 3, 4, 6, 9, 12], [0, 1, 2, 3, 6, 7, 9, 12], [0, 1, 3, 4, 5, 6, 9, 12], [0, 1, 3, 4, 6, 7, 9, 12], [1, 2, 3, 4, 5, 6, 9, 12], [1, 2, 3, 4, 6, 7, 9, 12], [1, 3, 4, 5, 6, 7, 9, 12], [0, 1, 2, 3, 4, 5, 6, 9, 12], [0, 1, 2, 3, 4, 6, 7, 9, 12], [0, 1, 3, 4, 5, 6, 7, 9, 12], [1, 2, 3, 4, 5, 6, 7, 9, 12], [1, 3, 4, 5, 6, 7, 8, 9, 12], [0, 1, 2, 3, 4, 5, 6, 7, 9, 12], [0, 1, 3, 4, 5, 6, 7, 8, 9, 12], [1, 2, 3, 4, 5, 6, 7, 8, 9, 12], [1, 3, 4, 5, 6, 7, 8, 9, 10, 11, 12], [0, 1, 2, 3, 4, 5, 6, 7, 8, 9, 12], [0, 1, 3, 4, 5, 6, 7, 8, 9, 10, 11, 12], [1, 2, 3, 4, 5, 6, 7, 8, 9, 10, 11, 12], [0, 1, 2, 3, 4, 5, 6, 7, 8, 9, 10, 11, 12]]] [] (And.intro h12 (And.intro (And.intro (con_sw 900 900 (spec_l1Below_ok (l1Cur.mk s3 s4 s5) 9000 v13 h14)) (rfl : ([900] : List Nat) = [900])) (And.intro (spec_l6Draw_y7 a1 s6 s7 v13 v15 v17 v19 v21 [1, 3, 6, 9, 12]) (And.intro (spec_l6Draw_y7 a1 s6 s7 v13 v15 v17 v19 v21 [0, 1, 3, 6, 9, 12]) (And.intro (spec_l6Draw_y7 a1 s6 s7 v13 v15 v17 v19 v21 [1, 2, 3, 6, 9, 12]) (And.intro (spec_l6Draw_y7 a1 s6 s7 v13 v15 v17 v19 v21 [1, 3, 4, 6, 9, 12]) (And.intro (spec_l6Draw_y7 a1 s6 s7 v13 v15 v17 v19 v21 [1, 3, 6, 7, 9, 12]) (And.intro (spec_l6Draw_y7 a1 s6 s7 v13 v15 v17 v19 v21 [0, 1, 2, 3, 6, 9, 12]) (And.intro (spec_l6Draw_y7 a1 s6 s7 v13 v15 v17 v19 v21 [0, 1, 3, 4, 6, 9, 12]) (And.intro (spec_l6Draw_y7 a1 s6 s7 v13 v15 v17 v19 v21 [0, 1, 3, 6, 7, 9, 12]) (And.intro (spec_l6Draw_y7 a1 s6 s7 v13 v15 v17 v19 v21 [0, 1, 2, 3, 6, 9, 12]) (And.intro (spec_l6Draw_y7 a1 s6 s7 v13 v15 v17 v19 v21 [1, 2, 3, 4, 6, 9, 12]) (And.intro (spec_l6Draw_y7 a1 s6 s7 v13 v15 v17 v19 v21 [1, 2, 3, 6, 7, 9, 12]) (And.intro (spec_l6Draw_y7 a1 s6 s7 v13 v15 v17 v19 v21 [0, 1, 3, 4, 6, 9, 12]) (And.intro (spec_l6Draw_y7 a1 s6 s7 v13 v15 v17 v19 v21 [1, 2, 3, 4, 6, 9, 12]) (And.intro (And.intro (con_sw 921 921 (con_sw 901 901 (con_sw 900 900 (spec_l4Of_ok v13.2 a1 v15 h16)))) (rfl : ([900, 901, 921] : List Nat) = [900, 901, 921])) (And.intro (spec_l6Draw_y7 a1 s6 s7 v13 v15 v17 v19 v21 [1, 3, 4, 5, 6, 9, 12]) (And.intro (spec_l6Draw_y7 a1 s6 s7 v13 v15 v17 v19 v21 [1, 3, 4, 6, 7, 9, 12]) (And.intro (spec_l6Draw_y7 a1 s6 s7 v13 v15 v17 v19 v21 [0, 1, 3, 6, 7, 9, 12]) (And.intro (spec_l6Draw_y7 a1 s6 s7 v13 v15 v17 v19 v21 [1, 2, 3, 6, 7, 9, 12]) (And.intro (spec_l6Draw_y7 a1 s6 s7 v13 v15 v17 v19 v21 [1, 3, 4, 6, 7, 9, 12]) (And.intro (spec_l6Draw_y7 a1 s6 s7 v13 v15 v17 v19 v21 [0, 1, 2, 3, 4, 6, 9, 12]) (And.intro (spec_l6Draw_y7 a1 s6 s7 v13 v15 v17 v19 v21 [0, 1, 2, 3, 6, 7, 9, 12]) (And.intro (spec_l6Draw_y7 a1 s6 s7 v13 v15 v17 v19 v21 [0, 1, 2, 3, 4, 6, 9, 12]) (And.intro (And.intro (con_sw 921 921 (con_sw 901 901 (con_sw 900 900 (spec_l4Of_ok v13.2 a1 v15 h16)))) (rfl : ([900, 901, 921] : List Nat) = [900, 901, 921])) (And.intro (spec_l6Draw_y7 a1 s6 s7 v13 v15 v17 v19 v21 [0, 1, 3, 4, 5, 6, 9, 12]) (And.intro (spec_l6Draw_y7 a1 s6 s7 v13 v15 v17 v19 v21 [0, 1, 3, 4, 6, 7, 9, 12]) (And.intro (spec_l6Draw_y7 a1 s6 s7 v13 v15 v17 v19 v21 [0, 1, 2, 3, 6, 7, 9, 12]) (And.intro (spec_l6Draw_y7 a1 s6 s7 v13 v15 v17 v19 v21 [0, 1, 3, 4, 6, 7, 9, 12]) (And.intro (spec_l6Draw_y7 a1 s6 s7 v13 v15 v17 v19 v21 [0, 1, 2, 3, 4, 6, 9, 12]) (And.intro (And.intro (con_sw 921 921 (con_sw 901 901 (con_sw 900 900 (spec_l4Of_ok v13.2 a1 v15 h16)))) (rfl : ([900, 901, 921] : List Nat) = [900, 901, 921])) (And.intro (spec_l6Draw_y7 a1 s6 s7 v13 v15 v17 v19 v21 [1, 2, 3, 4, 5, 6, 9, 12]) (And.intro (spec_l6Draw_y7 a1 s6 s7 v13 v15 v17 v19 v21 [1, 2, 3, 4, 6, 7, 9, 12]) (And.intro (spec_l6Draw_y7 a1 s6 s7 v13 v15 v17 v19 v21 [0, 1, 2, 3, 6, 7, 9, 12]) (And.intro (spec_l6Draw_y7 a1 s6 s7 v13 v15 v17 v19 v21 [1, 2, 3, 4, 6, 7, 9, 12]) (And.intro (spec_l6Draw_y7 a1 s6 s7 v13 v15 v17 v19 v21 [0, 1, 3, 4, 5, 6, 9, 12]) (And.intro (spec_l6Draw_y7 a1 s6 s7 v13 v15 v17 v19 v21 [1, 2, 3, 4, 5, 6, 9, 12]) (And.intro (spec_l6Draw_y7 a1 s6 s7 v13 v15 v17 v19 v21 [1, 3, 4, 5, 6, 7, 9, 12]) (And.intro (spec_l6Draw_y7 a1 s6 s7 v13 v15 v17 v19 v21 [0, 1, 3, 4, 6, 7, 9, 12]) (And.intro (spec_l6Draw_y7 a1 s6 s7 v13 v15 v17 v19 v21 [1, 2, 3, 4, 6, 7, 9, 12]) (And.intro (And.intro (con_sw 921 921 (con_sw 901 901 (con_sw 900 900 (spec_l4Of_ok v13.2 a1 v15 h16)))) (rfl : ([900, 901, 921] : List Nat) = [900, 901, 921])) (And.intro (spec_l6Draw_y7 a1 s6 s7 v13 v15 v17 v19 v21 [1, 3, 4, 5, 6, 7, 9, 12]) (And.intro (And.intro (con_sw 921 921 (con_sw 901 901 (con_sw 900 900 (spec_l4Of_ok v13.2 a1 v15 h16)))) (rfl : ([900, 901, 921] : List Nat) = [900, 901, 921])) (And.intro (spec_l6Draw_y7 a1 s6 s7 v13 v15 v17 v19 v21 [0, 1, 2, 3, 4, 5, 6, 9, 12]) (And.intro (spec_l6Draw_y7 a1 s6 s7 v13 v15 v17 v19 v21 [0, 1, 2, 3, 4, 6, 7, 9, 12]) (And.intro (spec_l6Draw_y7 a1 s6 s7 v13 v15 v17 v19 v21 [0, 1, 2, 3, 4, 6, 7, 9, 12]) (And.intro (spec_l6Draw_y7 a1 s6 s7 v13 v15 v17 v19 v21 [0, 1, 2, 3, 4, 5, 6, 9, 12]) (And.intro (spec_l6Draw_y7 a1 s6 s7 v13 v15 v17 v19 v21 [0, 1, 3, 4, 5, 6, 7, 9, 12]) (And.intro (spec_l6Draw_y7 a1 s6 s7 v13 v15 v17 v19 v21 [0, 1, 2, 3, 4, 6, 7, 9, 12]) (And.intro (And.intro (con_sw 921 921 (con_sw 901 901 (con_sw 900 900 (spec_l4Of_ok v13.2 a1 v15 h16)))) (rfl : ([900, 901, 921] : List Nat) = [900, 901, 921])) (And.intro (spec_l6Draw_y7 a1 s6 s7 v13 v15 v17 v19 v21 [0, 1, 3, 4, 5, 6, 7, 9, 12]) (And.intro (spec_l6Draw_y7 a1 s6 s7 v13 v15 v17 v19 v21 [0, 1, 2, 3, 4, 5, 6, 9, 12]) (And.intro (spec_l6Draw_y7 a1 s6 s7 v13 v15 v17 v19 v21 [1, 2, 3, 4, 5, 6, 7, 9, 12]) (And.intro (spec_l6Draw_y7 a1 s6 s7 v13 v15 v17 v19 v21 [0, 1, 2, 3, 4, 6, 7, 9, 12]) (And.intro (And.intro (con_sw 921 921 (con_sw 901 901 (con_sw 900 900 (spec_l4Of_ok v13.2 a1 v15 h16)))) (rfl : ([900, 901, 921] : List Nat) = [900, 901, 921])) (And.intro (spec_l6Draw_y7 a1 s6 s7 v13 v15 v17 v19 v21 [1, 2, 3, 4, 5, 6, 7, 9, 12]) (And.intro (spec_l6Draw_y7 a1 s6 s7 v13 v15 v17 v19 v21 [0, 1, 3, 4, 5, 6, 7, 9, 12]) (And.intro (spec_l6Draw_y7 a1 s6 s7 v13 v15 v17 v19 v21 [1, 2, 3, 4, 5, 6, 7, 9, 12]) (And.intro (And.intro (con_sw 921 921 (con_sw 901 901 (con_sw 900 900 (spec_l4Of_ok v15.2 a1 v17 h18)))) (rfl : ([900, 901, 921] : List Nat) = [900, 901, 921])) (And.intro (spec_l6Draw_y7 a1 s6 s7 v13 v15 v17 v19 v21 [1, 3, 4, 5, 6, 7, 8, 9, 12]) (And.intro (spec_l6Draw_y7 a1 s6 s7 v13 v15 v17 v19 v21 [0, 1, 2, 3, 4, 5, 6, 7, 9, 12]) (And.intro (And.intro (con_sw 921 921 (con_sw 901 901 (con_sw 900 900 (spec_l4Of_ok v13.2 a1 v15 h16)))) (rfl : ([900, 901, 921] : List Nat) = [900, 901, 921])) (And.intro (spec_l6Draw_y7 a1 s6 s7 v13 v15 v17 v19 v21 [0, 1, 2, 3, 4, 5, 6, 7, 9, 12]) (And.intro (spec_l6Draw_y7 a1 s6 s7 v13 v15 v17 v19 v21 [0, 1, 2, 3, 4, 5, 6, 7, 9, 12]) (And.intro (And.intro (con_sw 921 921 (con_sw 901 901 (con_sw 900 900 (spec_l4Of_ok v15.2 a1 v17 h18)))) (rfl : ([900, 901, 921] : List Nat) = [900, 901, 921])) (And.intro (spec_l6Draw_y7 a1 s6 s7 v13 v15 v17 v19 v21 [0, 1, 3, 4, 5, 6, 7, 8, 9, 12]) (And.intro (spec_l6Draw_y7 a1 s6 s7 v13 v15 v17 v19 v21 [0, 1, 2, 3, 4, 5, 6, 7, 9, 12]) (And.intro (And.intro (con_sw 921 921 (con_sw 901 901 (con_sw 900 900 (spec_l4Of_ok v15.2 a1 v17 h18)))) (rfl : ([900, 901, 921] : List Nat) = [900, 901, 921])) (And.intro (spec_l6Draw_y7 a1 s6 s7 v13 v15 v17 v19 v21 [1, 2, 3, 4, 5, 6, 7, 8, 9, 12]) (And.intro (spec_l6Draw_y7 a1 s6 s7 v13 v15 v17 v19 v21 [0, 1, 3, 4, 5, 6, 7, 8, 9, 12]) (And.intro (spec_l6Draw_y7 a1 s6 s7 v13 v15 v17 v19 v21 [1, 2, 3, 4, 5, 6, 7, 8, 9, 12]) (And.intro (And.intro (con_sw 900 900 (spec_l1Below_ok v17.2 100 v19 h20)) (rfl : ([900] : List Nat) = [900])) (And.intro (spec_l6Draw_y7 a1 s6 s7 v13 v15 v17 v19 v21 [1, 3, 4, 5, 6, 7, 8, 9, 10, 11, 12]) (And.intro (And.intro (con_sw 921 921 (con_sw 901 901 (con_sw 900 900 (spec_l4Of_ok v15.2 a1 v17 h18)))) (rfl : ([900, 901, 921] : List Nat) = [900, 901, 921])) (And.intro (spec_l6Draw_y7 a1 s6 s7 v13 v15 v17 v19 v21 [0, 1, 2, 3, 4, 5, 6, 7, 8, 9, 12]) (And.intro (spec_l6Draw_y7 a1 s6 s7 v13 v15 v17 v19 v21 [0, 1, 2, 3, 4, 5, 6, 7, 8, 9, 12]) (And.intro (And.intro (con_sw 900 900 (spec_l1Below_ok v17.2 100 v19 h20)) (rfl : ([900] : List Nat) = [900])) (And.intro (spec_l6Draw_y7 a1 s6 s7 v13 v15 v17 v19 v21 [0, 1, 3, 4, 5, 6, 7, 8, 9, 10, 11, 12]) (And.intro (spec_l6Draw_y7 a1 s6 s7 v13 v15 v17 v19 v21 [0, 1, 2, 3, 4, 5, 6, 7, 8, 9, 12]) (And.intro (And.intro (con_sw 900 900 (spec_l1Below_ok v17.2 100 v19 h20)) (rfl : ([900] : List Nat) = [900])) (And.intro (spec_l6Draw_y7 a1 s6 s7 v13 v15 v17 v19 v21 [1, 2, 3, 4, 5, 6, 7, 8, 9, 10, 11, 12]) (And.intro (spec_l6Draw_y7 a1 s6 s7 v13 v15 v17 v19 v21 [0, 1, 3, 4, 5, 6, 7, 8, 9, 10, 11, 12]) (And.intro (spec_l6Draw_y7 a1 s6 s7 v13 v15 v17 v19 v21 [1, 2, 3, 4, 5, 6, 7, 8, 9, 10, 11, 12]) (And.intro (And.intro (con_sw 900 900 (spec_l1Below_ok v17.2 100 v19 h20)) (rfl : ([900] : List Nat) = [900])) (And.intro (spec_l6Draw_y7 a1 s6 s7 v13 v15 v17 v19 v21 [0, 1, 2, 3, 4, 5, 6, 7, 8, 9, 10, 11, 12]) (And.intro (spec_l6Draw_y7 a1 s6 s7 v13 v15 v17 v19 v21 [0, 1, 2, 3, 4, 5, 6, 7, 8, 9, 10, 11, 12]) (And.intro (spec_l6Draw_y7 a1 s6 s7 v13 v15 v17 v19 v21 [0, 1, 2, 3, 4, 5, 6, 7, 8, 9, 10, 11, 12]) (And.intro (And.intro (con_sw 1000 3 (spec_FindRoom_ok a1 s6 ([] : List Trip) v15.1 v17.1 (w64 (60 * v19.1)) (w64 (1 + v13.1)) v21 h22)) (rfl : ([] : List Nat) = [])) (And.intro (rfl : (spec_l6Draw_x7 a1 s6 s7 v13 v19 v21) = (spec_l6Draw_x7 a1 s6 s7 v13 v19 v21)) True.intro))))))))))))))))))))))))))))))))))))))))))))))))))))))))))))))))))))))))))))))))))))))))) (by kernel_rfl) (J1 () hM)
  · have hE : some (Ctl.brk (s3, s4, s5, s6)) = some c1 := hM
    have hE := Option.some.inj hE
    subst hE
    exact pc R 5 [.as 19 false] [.keep [0, 1, 7] [900, 901, 921, 1]] (And.intro h12 True.intro) (by kernel_rfl) (K1 s3 s4 s5 s6 hK1)
end Go.Sx
