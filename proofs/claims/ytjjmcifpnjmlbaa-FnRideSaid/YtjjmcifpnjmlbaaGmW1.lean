/- The functions of the program as plain Lean, and that each runs so (printed by wip/gen). -/
import Derived.Test.YtjjmcifpnjmlbaaSxU
import Derived.Laws.StructEq
import Derived.Test.YtjjmcifpnjmlbaaProg
namespace Go.Sx
open Go.Proofs
set_option linter.unusedVariables false
set_option maxRecDepth 100000
end Go.Sx
namespace Go.Proofs
open Go.Shelf
def Try.lays192_ren : Go.Shelf.Ren := ⟨fun | 192 => 80 | 190 => 96 | 125 => 107 | 258 => 106 | 128 => 119 | 129 => 120 | 302 => 110 | 303 => 111 | 304 => 112 | 305 => 113 | 306 => 114 | 307 => 115 | 308 => 116 | 309 => 117 | 310 => 118 | 333 => 122 | 329 => 123 | 330 => 124 | 334 => 125 | 335 => 126 | 336 => 127 | 344 => 128 | n => n, fun | 31 => 52 | 0 => 0 | 9 => 9 | 3 => 3 | 46 => 105 | 51 => 128 | 53 => 130 | 4 => 4 | 183 => 120 | 182 => 119 | 131 => 125 | 5 => 5 | 218 => 131 | 222 => 135 | 228 => 137 | 229 => 138 | n => n, fun | n => n⟩
theorem Try.lays192 : Go.Proofs.Lays.n192 Try.prog Try.lays192_ren := {
  mixed := by kernel_rfl
  f125 := Try.func107.trans (congrArg some (by kernel_rfl))
  f128 := Try.func119.trans (congrArg some (by kernel_rfl))
  f129 := Try.func120.trans (congrArg some (by kernel_rfl))
  f190 := Try.func96.trans (congrArg some (by kernel_rfl))
  f192 := Try.func80.trans (congrArg some (by kernel_rfl))
  f258 := Try.func106.trans (congrArg some (by kernel_rfl))
  f302 := Try.func110.trans (congrArg some (by kernel_rfl))
  f303 := Try.func111.trans (congrArg some (by kernel_rfl))
  f304 := Try.func112.trans (congrArg some (by kernel_rfl))
  f305 := Try.func113.trans (congrArg some (by kernel_rfl))
  f306 := Try.func114.trans (congrArg some (by kernel_rfl))
  f307 := Try.func115.trans (congrArg some (by kernel_rfl))
  f308 := Try.func116.trans (congrArg some (by kernel_rfl))
  f309 := Try.func117.trans (congrArg some (by kernel_rfl))
  f310 := Try.func118.trans (congrArg some (by kernel_rfl))
  f329 := Try.func123.trans (congrArg some (by kernel_rfl))
  f330 := Try.func124.trans (congrArg some (by kernel_rfl))
  f333 := Try.func122.trans (congrArg some (by kernel_rfl))
  f334 := Try.func125.trans (congrArg some (by kernel_rfl))
  f335 := Try.func126.trans (congrArg some (by kernel_rfl))
  f336 := Try.func127.trans (congrArg some (by kernel_rfl))
  f344 := Try.func128.trans (congrArg some (by kernel_rfl))
  t0 := Try.underlying0
  a0 := Try.isAgg0
  z0 := Try.sizeOf0
  v0 := Try.zeroValue0
  t3 := Try.underlying3
  a3 := Try.isAgg3
  z3 := Try.sizeOf3
  v3 := Try.zeroValue3
  t4 := Try.underlying4
  a4 := Try.isAgg4
  z4 := Try.sizeOf4
  v4 := Try.zeroValue4
  t5 := Try.underlying5
  a5 := Try.isAgg5
  z5 := Try.sizeOf5
  v5 := Try.zeroValue5
  t9 := Try.underlying9
  a9 := Try.isAgg9
  z9 := Try.sizeOf9
  v9 := Try.zeroValue9
  t31 := Try.underlying52
  a31 := Try.isAgg52
  z31 := Try.sizeOf52
  v31 := Try.zeroValue52
  t46 := Try.underlying105
  a46 := Try.isAgg105
  z46 := Try.sizeOf105
  v46 := Try.zeroValue105
  t51 := Try.underlying128
  a51 := Try.isAgg128
  z51 := Try.sizeOf128
  v51 := Try.zeroValue128
  t53 := Try.underlying130
  a53 := Try.isAgg130
  z53 := Try.sizeOf130
  v53 := Try.zeroValue130
  t131 := Try.underlying125
  a131 := Try.isAgg125
  z131 := Try.sizeOf125
  v131 := Try.zeroValue125
  t182 := Try.underlying119
  a182 := Try.isAgg119
  z182 := Try.sizeOf119
  v182 := Try.zeroValue119
  t183 := Try.underlying120
  a183 := Try.isAgg120
  z183 := Try.sizeOf120
  v183 := Try.zeroValue120
  t218 := Try.underlying131
  a218 := Try.isAgg131
  z218 := Try.sizeOf131
  v218 := Try.zeroValue131
  t222 := Try.underlying135
  a222 := Try.isAgg135
  z222 := Try.sizeOf135
  v222 := Try.zeroValue135
  t228 := Try.underlying137
  a228 := Try.isAgg137
  z228 := Try.sizeOf137
  v228 := Try.zeroValue137
  t229 := Try.underlying138
  a229 := Try.isAgg138
  z229 := Try.sizeOf138
  v229 := Try.zeroValue138 }
end Go.Proofs
namespace Go.Sx
open Go.Proofs
set_option linter.unusedVariables false
theorem Try_mixed : Try.prog.follows .mixedOrders = true := by kernel_rfl
structure Leg where
  From : ByteArray
  To : ByteArray
  Start : Int
  Takes : Int
  Days : Int
  Room : Int
  deriving DecidableEq, Inhabited
def Leg.enc (x : Leg) : List Value := [.string x.From, .string x.To, .int .i64 x.Start, .int .i64 x.Takes, .int .i64 x.Days, .int .i64 x.Room]
structure Network where
  Legs : (List Leg)
  Off : (List Int)
  Change : Int
  deriving DecidableEq, Inhabited
structure Trip where
  Leg : Int
  Day : Int
  deriving DecidableEq, Inhabited
def Trip.enc (x : Trip) : List Value := [.int .i64 x.Leg, .int .i64 x.Day]
structure Choice where
  Legs : Int
  Ends : Int
  deriving DecidableEq, Inhabited
def Choice.enc (x : Choice) : List Value := [.int .i64 x.Legs, .int .i64 x.Ends]
structure Booking where
  Thing : Int
  Trip : Trip
  Weight : Int
  deriving DecidableEq, Inhabited
def Booking.enc (x : Booking) : List Value := [.int .i64 x.Thing, .int .i64 x.Trip.Leg, .int .i64 x.Trip.Day, .int .i64 x.Weight]
structure l1Cur where
  b : (List Int)
  i : Int
  h : Int
  deriving DecidableEq, Inhabited
theorem Trip_eql32 (a b : Trip) : ∀ w, (do let r ← (do eqGuard .eql 32 (.tmp 0) (.tmp 0) (.agg (Trip.enc a).toArray) (.agg (Trip.enc b).toArray); binOp .eql 32 (.agg (Trip.enc a).toArray) (.agg (Trip.enc b).toArray)); pure (Next.value r) : Sem Next).run Try.prog w = .ok (.value (.bool (decide (a = b)))) w := by
  intro w
  simp only [Sem.run_bind]
  rw [run_eqGuard_agg w _ _ _ _ _ _ (by kernel_rfl)]
  simp only [Result.andThen_ok]
  rw [run_eql_struct, run_equalIn_struct w _ _ _ _ (by kernel_rfl) (by kernel_rfl)]
  have i3 : ∀ (x y : Int) (w : World), (Op.equalIn 9999 3 (.int .i64 x) (.int .i64 y)).run Try.prog w = .ok (x == y) w := fun x y w => run_equalIn_int w 9998 3 .i64 .i64 x y Try.underlying3
  simp [Program.fieldsOf, Try.underlying32, Op.eqFields, part, Sem.run_bind, Trip.enc, isAgg, Result.andThen, i3]
  obtain ⟨x0, x1⟩ := a
  obtain ⟨y0, y1⟩ := b
  simp only [Trip.mk.injEq]
  by_cases h0 : x0 = y0 <;> simp [h0]
  by_cases h1 : x1 = y1 <;> simp [h1]


-- loop.example/g03014/laws.big
def laws_big (a0 : (List Int)) : Option Bool :=
  some (decide ((a0.length : Int) > 4096))
theorem laws_big_ok (a0 : (List Int)) (r : Bool) (hM : laws_big a0 = some r) :
    Con Try.prog 11 [.c (.rs 1 (a0.map encU8))] [] (.o (.c (.v (.bool r)))) [] [] := by
  unfold laws_big at hM
  refine cn (N := 6) (pids := []) Try_mixed Try.func11 (by kernel_rfl) (by kernel_rfl) (by kernel_rfl) rfl fun ρ g w R => ?_
  have hE : some (decide ((a0.length : Int) > 4096)) = some r := hM
  have hE := Option.some.inj hE
  subst hE
  exact pr R 9999 [.ln (a0.length)] [] [] [] (And.intro (lenm encU8 a0) True.intro) (by kernel_rfl)

-- loop.example/g03014/spec.l1New
def spec_l1New_L1_b (a0 : (List Int)) (s1 : Int) (s2 : Int) : Option (Ctl (Int × Int) Int l1Cur) :=
  bif (decide (s2 < (a0.length : Int))) then
  bif (decide (s2 < 4000)) then
  (gi a0 s2).bind fun v6 =>
  some (.next (w64 ((BitVec.ofInt 64 (w64 ((w64 ((w64 (s1 * 167)) + (w64 v6))) + 29)) &&& BitVec.ofInt 64 1073741823).toNat), w64 (s2 + 1)))
  else
  some (.brk s1)
  else
  some (.brk s1)
def spec_l1New_L1 (a0 : (List Int)) (s : Int × Int) : Option (Ctl (Int × Int) Int l1Cur) := spec_l1New_L1_b a0 s.1 s.2
def spec_l1New_L1_s (a0 : (List Int)) (s1 : Int) (s2 : Int) : St := ⟨[(0, .o (.c (.rs 1 (a0.map encU8)))), (3, .o (.c (.v (.int .i64 s1)))), (4, .o (.c (.v (.int .i64 s2))))], []⟩
def spec_l1New_L1_S (a0 : (List Int)) (s : Int × Int) : St := spec_l1New_L1_s a0 s.1 s.2
def spec_l1New_L1_a (a0 : (List Int)) (s3 : Int) : Option l1Cur :=
  some (l1Cur.mk a0 0 s3)
def spec_l1New_L1_k (a0 : (List Int)) (x : (Int) ⊕ (l1Cur)) : Option l1Cur := match x with
  | .inl t => spec_l1New_L1_a a0 t
  | .inr y => some y
def spec_l1New (a0 : (List Int)) : Option l1Cur :=
  (loopM (spec_l1New_L1 a0) big (w64 (744201 + (w64 (3 * (a0.length : Int)))), 0)).bind (spec_l1New_L1_k a0)
theorem spec_l1New_ok (a0 : (List Int)) (r : l1Cur) (hM : spec_l1New a0 = some r) :
    Con Try.prog 40 [.c (.rs 1 (a0.map encU8))] [] (.o (.c (.ptr 1000 0))) [] [(1000, .box 87 [.rs 1 (r.b.map encU8), .v (.int .i64 r.i), .v (.int .i64 r.h)])] := by
  unfold spec_l1New at hM
  refine cn (N := 33) (pids := []) Try_mixed Try.func40 (by kernel_rfl) (by kernel_rfl) (by kernel_rfl) rfl fun ρ g w R => ?_
  have K1 : ∀ (s3 : Int), spec_l1New_L1_a a0 s3 = some r → Gr R [.code (cAt Try.f40 [1, 1, 1])] (⟨[(0, .o (.c (.rs 1 (a0.map encU8)))), (3, .o (.c (.v (.int .i64 s3))))], []⟩) := by
    intro s3 hM
    unfold spec_l1New_L1_a at hM
    have hE : some (l1Cur.mk a0 0 s3) = some r := hM
    have hE := Option.some.inj hE
    subst hE
    exact pr R 9999 [.new 0] [.sw 0 1000] [] [1000] True.intro (by kernel_rfl)
  refine pc R 9999 [.ln (a0.length)] [.keep [0, 3, 4] []] (k' := [.code (.loop (cAt Try.f40 [1, 1, 0, 1, 0, 0])), .blk 0, .code (cAt Try.f40 [1, 1, 1])]) (S' := spec_l1New_L1_S a0 (w64 (744201 + (w64 (3 * (a0.length : Int)))), 0)) (And.intro (lenm encU8 a0) True.intro) (by kernel_rfl) ?_
  refine lq (spec_l1New_L1_S a0) (body := spec_l1New_L1 a0) (k := spec_l1New_L1_k a0) hM fun m1 s c1 hM hK1 => ?_
  obtain ⟨s1, s2⟩ := s
  have hM : spec_l1New_L1_b a0 s1 s2 = some c1 := hM
  unfold spec_l1New_L1_b at hM
  rcases cond_cases hM with ⟨h4, hM⟩ | ⟨h4, hM⟩
  · rcases cond_cases hM with ⟨h5, hM⟩ | ⟨h5, hM⟩
    · obtain ⟨v6, h7, hM⟩ := bind_some hM
      have hE : some (Ctl.next (w64 ((BitVec.ofInt 64 (w64 ((w64 ((w64 (s1 * 167)) + (w64 v6))) + 29)) &&& BitVec.ofInt 64 1073741823).toNat), w64 (s2 + 1))) = some c1 := hM
      have hE := Option.some.inj hE
      subst hE
      exact pc R 9999 [.ln (a0.length), .as 13 true, .as 16 true, .ix (encU8 v6)] [.keep [0, 3, 4] []] (And.intro (lenm encU8 a0) (And.intro h4 (And.intro h5 (And.intro (gi_map encU8 h7) True.intro)))) (by kernel_rfl) (li (Sf := spec_l1New_L1_S a0) (M := Mk (spec_l1New_L1 a0) (spec_l1New_L1_k a0) r) (k := [.blk 0, .code (cAt Try.f40 [1, 1, 1])]) (Nat.lt_succ_self m1) hK1)
    · have hE : some (Ctl.brk s1) = some c1 := hM
      have hE := Option.some.inj hE
      subst hE
      exact pc R 5 [.ln (a0.length), .as 13 true, .as 16 false] [.keep [0, 3] []] (And.intro (lenm encU8 a0) (And.intro h4 (And.intro h5 True.intro))) (by kernel_rfl) (K1 s1 hK1)
  · have hE : some (Ctl.brk s1) = some c1 := hM
    have hE := Option.some.inj hE
    subst hE
    exact pc R 5 [.ln (a0.length), .as 13 false] [.keep [0, 3] []] (And.intro (lenm encU8 a0) (And.intro h4 True.intro)) (by kernel_rfl) (K1 s1 hK1)

-- loop.example/g03014/spec.l1Byte
def spec_l1Byte (a0 : l1Cur) : Option (Int × l1Cur) :=
  bif (decide (a0.i < (a0.b.length : Int))) then
  (gi a0.b a0.i).bind fun v2 =>
  some (w64 ((BitVec.ofInt 64 (w64 ((w64 ((BitVec.ofInt 64 (w64 ((BitVec.ofInt 64 (Int.fdiv (w64 ((w64 (a0.h * 6364136223846793005)) + 1442695040888963407)) (2 ^ 35)) ^^^ BitVec.ofInt 64 (Int.fdiv (w64 ((w64 (a0.h * 6364136223846793005)) + 1442695040888963407)) (2 ^ 45))).toNat)) &&& BitVec.ofInt 64 255).toNat)) + (w64 v2))) &&& BitVec.ofInt 64 255).toNat), (l1Cur.mk a0.b (w64 (a0.i + 1)) (w64 ((w64 (a0.h * 6364136223846793005)) + 1442695040888963407))))
  else
  some (w64 ((BitVec.ofInt 64 (w64 ((BitVec.ofInt 64 (Int.fdiv (w64 ((w64 (a0.h * 6364136223846793005)) + 1442695040888963407)) (2 ^ 35)) ^^^ BitVec.ofInt 64 (Int.fdiv (w64 ((w64 (a0.h * 6364136223846793005)) + 1442695040888963407)) (2 ^ 45))).toNat)) &&& BitVec.ofInt 64 255).toNat), (l1Cur.mk a0.b a0.i (w64 ((w64 (a0.h * 6364136223846793005)) + 1442695040888963407))))
theorem spec_l1Byte_ok (a0 : l1Cur) (r : Int × l1Cur) (hM : spec_l1Byte a0 = some r) :
    Con Try.prog 71 [.c (.ptr 900 0)] [(900, .box 87 [.rs 1 (a0.b.map encU8), .v (.int .i64 a0.i), .v (.int .i64 a0.h)])] (.o (.c (.v (.int .i64 r.1)))) [(900, .box 87 [.rs 1 (r.2.b.map encU8), .v (.int .i64 r.2.i), .v (.int .i64 r.2.h)])] [] := by
  unfold spec_l1Byte at hM
  refine cn (N := 58) (pids := [900]) Try_mixed Try.func71 (by kernel_rfl) (by kernel_rfl) (by kernel_rfl) rfl fun ρ g w R => ?_
  rcases cond_cases hM with ⟨h1, hM⟩ | ⟨h1, hM⟩
  · obtain ⟨v2, h3, hM⟩ := bind_some hM
    have hE : some (w64 ((BitVec.ofInt 64 (w64 ((w64 ((BitVec.ofInt 64 (w64 ((BitVec.ofInt 64 (Int.fdiv (w64 ((w64 (a0.h * 6364136223846793005)) + 1442695040888963407)) (2 ^ 35)) ^^^ BitVec.ofInt 64 (Int.fdiv (w64 ((w64 (a0.h * 6364136223846793005)) + 1442695040888963407)) (2 ^ 45))).toNat)) &&& BitVec.ofInt 64 255).toNat)) + (w64 v2))) &&& BitVec.ofInt 64 255).toNat), (l1Cur.mk a0.b (w64 (a0.i + 1)) (w64 ((w64 (a0.h * 6364136223846793005)) + 1442695040888963407)))) = some r := hM
    have hE := Option.some.inj hE
    subst hE
    exact pr R 9999 [.ln (a0.b.length), .as 34 true, .ix (encU8 v2)] [] [900] [] (And.intro (lenm encU8 a0.b) (And.intro h1 (And.intro (gi_map encU8 h3) True.intro))) (by kernel_rfl)
  · have hE : some (w64 ((BitVec.ofInt 64 (w64 ((BitVec.ofInt 64 (Int.fdiv (w64 ((w64 (a0.h * 6364136223846793005)) + 1442695040888963407)) (2 ^ 35)) ^^^ BitVec.ofInt 64 (Int.fdiv (w64 ((w64 (a0.h * 6364136223846793005)) + 1442695040888963407)) (2 ^ 45))).toNat)) &&& BitVec.ofInt 64 255).toNat), (l1Cur.mk a0.b a0.i (w64 ((w64 (a0.h * 6364136223846793005)) + 1442695040888963407)))) = some r := hM
    have hE := Option.some.inj hE
    subst hE
    exact pr R 9999 [.ln (a0.b.length), .as 34 false] [] [900] [] (And.intro (lenm encU8 a0.b) (And.intro h1 True.intro)) (by kernel_rfl)

-- loop.example/g03014/spec.l1Below
def spec_l1Below (a0 : l1Cur) (a1 : Int) : Option (Int × l1Cur) :=
  bif (decide (a1 ≤ 0)) then
  some (0, a0)
  else
  bif (decide (a1 ≤ 256)) then
  (spec_l1Byte a0).bind fun v3 =>
  (rM v3.1 a1).bind fun v5 =>
  some (v5, v3.2)
  else
  (spec_l1Byte a0).bind fun v7 =>
  (spec_l1Byte v7.2).bind fun v9 =>
  (spec_l1Byte v9.2).bind fun v11 =>
  (rM (w64 ((w64 ((w64 (v7.1 * 65536)) + (w64 (v9.1 * 256)))) + v11.1)) a1).bind fun v13 =>
  some (v13, v11.2)
theorem spec_l1Below_ok (a0 : l1Cur) (a1 : Int) (r : Int × l1Cur) (hM : spec_l1Below a0 a1 = some r) :
    Con Try.prog 44 [.c (.ptr 900 0), .c (.v (.int .i64 a1))] [(900, .box 87 [.rs 1 (a0.b.map encU8), .v (.int .i64 a0.i), .v (.int .i64 a0.h)])] (.o (.c (.v (.int .i64 r.1)))) [(900, .box 87 [.rs 1 (r.2.b.map encU8), .v (.int .i64 r.2.i), .v (.int .i64 r.2.h)])] [] := by
  unfold spec_l1Below at hM
  refine cn (N := 31) (pids := [900]) Try_mixed Try.func44 (by kernel_rfl) (by kernel_rfl) (by kernel_rfl) rfl fun ρ g w R => ?_
  rcases cond_cases hM with ⟨h1, hM⟩ | ⟨h1, hM⟩
  · have hE : some (0, a0) = some r := hM
    have hE := Option.some.inj hE
    subst hE
    exact pr R 9999 [.as 9 true] [] [900] [] (And.intro h1 True.intro) (by kernel_rfl)
  · rcases cond_cases hM with ⟨h2, hM⟩ | ⟨h2, hM⟩
    · obtain ⟨v3, h4, hM⟩ := bind_some hM
      obtain ⟨v5, h6, hM⟩ := bind_some hM
      have hE : some (v5, v3.2) = some r := hM
      have hE := Option.some.inj hE
      subst hE
      exact pr R 9999 [.as 9 false, .as 11 true, .call true [900] (.o (.c (.v (.int .i64 v3.1)))) [(900, .box 87 [.rs 1 (v3.2.b.map encU8), .v (.int .i64 v3.2.i), .v (.int .i64 v3.2.h)])] [], .run 15 (.int .i64 v5)] [] [900] [] (And.intro h1 (And.intro h2 (And.intro (And.intro (con_sw 900 900 (spec_l1Byte_ok a0 v3 h4)) (rfl : ([900] : List Nat) = [900])) (And.intro (rM_run (P := Try.prog) (t := 3) (x := .tmp 0) (y := .tmp 0) h6) True.intro)))) (by kernel_rfl)
    · obtain ⟨v7, h8, hM⟩ := bind_some hM
      obtain ⟨v9, h10, hM⟩ := bind_some hM
      obtain ⟨v11, h12, hM⟩ := bind_some hM
      obtain ⟨v13, h14, hM⟩ := bind_some hM
      have hE : some (v13, v11.2) = some r := hM
      have hE := Option.some.inj hE
      subst hE
      exact pr R 9999 [.as 9 false, .as 11 false, .call true [900] (.o (.c (.v (.int .i64 v7.1)))) [(900, .box 87 [.rs 1 (v7.2.b.map encU8), .v (.int .i64 v7.2.i), .v (.int .i64 v7.2.h)])] [], .call true [900] (.o (.c (.v (.int .i64 v9.1)))) [(900, .box 87 [.rs 1 (v9.2.b.map encU8), .v (.int .i64 v9.2.i), .v (.int .i64 v9.2.h)])] [], .call true [900] (.o (.c (.v (.int .i64 v11.1)))) [(900, .box 87 [.rs 1 (v11.2.b.map encU8), .v (.int .i64 v11.2.i), .v (.int .i64 v11.2.h)])] [], .run 30 (.int .i64 v13)] [] [900] [] (And.intro h1 (And.intro h2 (And.intro (And.intro (con_sw 900 900 (spec_l1Byte_ok a0 v7 h8)) (rfl : ([900] : List Nat) = [900])) (And.intro (And.intro (con_sw 900 900 (spec_l1Byte_ok v7.2 v9 h10)) (rfl : ([900] : List Nat) = [900])) (And.intro (And.intro (con_sw 900 900 (spec_l1Byte_ok v9.2 v11 h12)) (rfl : ([900] : List Nat) = [900])) (And.intro (rM_run (P := Try.prog) (t := 3) (x := .tmp 0) (y := .tmp 0) h14) True.intro)))))) (by kernel_rfl)

-- loop.example/g03014/spec.l1Once
def spec_l1Once (a0 : l1Cur) (a1 : Int) : Option (Bool × l1Cur) :=
  (spec_l1Below a0 a1).bind fun v1 =>
  some (v1.1 == 0, v1.2)
theorem spec_l1Once_ok (a0 : l1Cur) (a1 : Int) (r : Bool × l1Cur) (hM : spec_l1Once a0 a1 = some r) :
    Con Try.prog 43 [.c (.ptr 900 0), .c (.v (.int .i64 a1))] [(900, .box 87 [.rs 1 (a0.b.map encU8), .v (.int .i64 a0.i), .v (.int .i64 a0.h)])] (.o (.c (.v (.bool r.1)))) [(900, .box 87 [.rs 1 (r.2.b.map encU8), .v (.int .i64 r.2.i), .v (.int .i64 r.2.h)])] [] := by
  unfold spec_l1Once at hM
  refine cn (N := 9) (pids := [900]) Try_mixed Try.func43 (by kernel_rfl) (by kernel_rfl) (by kernel_rfl) rfl fun ρ g w R => ?_
  obtain ⟨v1, h2, hM⟩ := bind_some hM
  have hE : some (v1.1 == 0, v1.2) = some r := hM
  have hE := Option.some.inj hE
  subst hE
  exact pr R 9999 [.call true [900] (.o (.c (.v (.int .i64 v1.1)))) [(900, .box 87 [.rs 1 (v1.2.b.map encU8), .v (.int .i64 v1.2.i), .v (.int .i64 v1.2.h)])] []] [] [900] [] (And.intro (And.intro (con_sw 900 900 (spec_l1Below_ok a0 a1 v1 h2)) (rfl : ([900] : List Nat) = [900])) True.intro) (by kernel_rfl)

-- loop.example/g03014/spec.l1Str
def spec_l1Str (a0 : l1Cur) (a1 : (List ByteArray)) : Option (ByteArray × l1Cur) :=
  (spec_l1Below a0 (a1.length : Int)).bind fun v1 =>
  (gi a1 v1.1).bind fun v3 =>
  some (v3, v1.2)
theorem spec_l1Str_ok (a0 : l1Cur) (a1 : (List ByteArray)) (r : ByteArray × l1Cur) (hM : spec_l1Str a0 a1 = some r) :
    Con Try.prog 88 [.c (.ptr 900 0), .c (.sl 901)] [(900, .box 87 [.rs 1 (a0.b.map encU8), .v (.int .i64 a0.i), .v (.int .i64 a0.h)]), (901, .row 9 1 (a1.map encS))] (.o (.c (.v (.string r.1)))) [(900, .box 87 [.rs 1 (r.2.b.map encU8), .v (.int .i64 r.2.i), .v (.int .i64 r.2.h)]), (901, .row 9 1 (a1.map encS))] [] := by
  unfold spec_l1Str at hM
  refine cn (N := 12) (pids := [900, 901]) Try_mixed Try.func88 (by kernel_rfl) (by kernel_rfl) (by kernel_rfl) rfl fun ρ g w R => ?_
  obtain ⟨v1, h2, hM⟩ := bind_some hM
  obtain ⟨v3, h4, hM⟩ := bind_some hM
  have hE : some (v3, v1.2) = some r := hM
  have hE := Option.some.inj hE
  subst hE
  exact pr R 9999 [.ln (a1.length), .call true [900] (.o (.c (.v (.int .i64 v1.1)))) [(900, .box 87 [.rs 1 (v1.2.b.map encU8), .v (.int .i64 v1.2.i), .v (.int .i64 v1.2.h)])] [], .ix (encS v3)] [] [900, 901] [] (And.intro (lenm encS a1) (And.intro (And.intro (con_sw 900 900 (spec_l1Below_ok a0 (a1.length : Int) v1 h2)) (rfl : ([900] : List Nat) = [900])) (And.intro (gi_lt encS h4) (And.intro ((gi_map encS h4).2) True.intro)))) (by kernel_rfl)

-- loop.example/g03014/spec.l1Place
def spec_l1Place (a0 : l1Cur) : Option (ByteArray × l1Cur) :=
  (spec_l1Str a0 ([(ByteArray.mk #[65, 77, 83]), (ByteArray.mk #[66, 82, 85]), (ByteArray.mk #[67, 68, 71]), (ByteArray.mk #[68, 85, 66]), (ByteArray.mk #[69, 68, 73]), (ByteArray.mk #[70, 82, 65]), (ByteArray.mk #[71, 79, 84])] : List ByteArray)).bind fun v1 =>
  some (v1.1, v1.2)
theorem spec_l1Place_ok (a0 : l1Cur) (r : ByteArray × l1Cur) (hM : spec_l1Place a0 = some r) :
    Con Try.prog 79 [.c (.ptr 900 0)] [(900, .box 87 [.rs 1 (a0.b.map encU8), .v (.int .i64 a0.i), .v (.int .i64 a0.h)])] (.o (.c (.v (.string r.1)))) [(900, .box 87 [.rs 1 (r.2.b.map encU8), .v (.int .i64 r.2.i), .v (.int .i64 r.2.h)])] [] := by
  unfold spec_l1Place at hM
  refine cn (N := 6) (pids := [900]) Try_mixed Try.func79 (by kernel_rfl) (by kernel_rfl) (by kernel_rfl) rfl fun ρ g w R => ?_
  obtain ⟨v1, h2, hM⟩ := bind_some hM
  have hE : some (v1.1, v1.2) = some r := hM
  have hE := Option.some.inj hE
  subst hE
  exact pr R 9999 [.new 0, .ad (.keep [0, 2, 3, 4] [900, 0]), .call true [900, 0] (.o (.c (.v (.string v1.1)))) [(900, .box 87 [.rs 1 (v1.2.b.map encU8), .v (.int .i64 v1.2.i), .v (.int .i64 v1.2.h)]), (0, .row 9 1 (([(ByteArray.mk #[65, 77, 83]), (ByteArray.mk #[66, 82, 85]), (ByteArray.mk #[67, 68, 71]), (ByteArray.mk #[68, 85, 66]), (ByteArray.mk #[69, 68, 73]), (ByteArray.mk #[70, 82, 65]), (ByteArray.mk #[71, 79, 84])] : List ByteArray).map encS))] []] [] [900] [] (And.intro (And.intro (con_sw 901 0 (con_sw 900 900 (spec_l1Str_ok a0 ([(ByteArray.mk #[65, 77, 83]), (ByteArray.mk #[66, 82, 85]), (ByteArray.mk #[67, 68, 71]), (ByteArray.mk #[68, 85, 66]), (ByteArray.mk #[69, 68, 73]), (ByteArray.mk #[70, 82, 65]), (ByteArray.mk #[71, 79, 84])] : List ByteArray) v1 h2))) (rfl : ([900, 0] : List Nat) = [900, 0])) True.intro) (by kernel_rfl)

-- loop.example/g03014/spec.l1Int
def spec_l1Int (a0 : l1Cur) (a1 : (List Int)) : Option (Int × l1Cur) :=
  (spec_l1Below a0 (a1.length : Int)).bind fun v1 =>
  (gi a1 v1.1).bind fun v3 =>
  some (v3, v1.2)
theorem spec_l1Int_ok (a0 : l1Cur) (a1 : (List Int)) (r : Int × l1Cur) (hM : spec_l1Int a0 a1 = some r) :
    Con Try.prog 46 [.c (.ptr 900 0), .c (.sl 901)] [(900, .box 87 [.rs 1 (a0.b.map encU8), .v (.int .i64 a0.i), .v (.int .i64 a0.h)]), (901, .row 3 1 (a1.map encI))] (.o (.c (.v (.int .i64 r.1)))) [(900, .box 87 [.rs 1 (r.2.b.map encU8), .v (.int .i64 r.2.i), .v (.int .i64 r.2.h)]), (901, .row 3 1 (a1.map encI))] [] := by
  unfold spec_l1Int at hM
  refine cn (N := 12) (pids := [900, 901]) Try_mixed Try.func46 (by kernel_rfl) (by kernel_rfl) (by kernel_rfl) rfl fun ρ g w R => ?_
  obtain ⟨v1, h2, hM⟩ := bind_some hM
  obtain ⟨v3, h4, hM⟩ := bind_some hM
  have hE : some (v3, v1.2) = some r := hM
  have hE := Option.some.inj hE
  subst hE
  exact pr R 9999 [.ln (a1.length), .call true [900] (.o (.c (.v (.int .i64 v1.1)))) [(900, .box 87 [.rs 1 (v1.2.b.map encU8), .v (.int .i64 v1.2.i), .v (.int .i64 v1.2.h)])] [], .ix (encI v3)] [] [900, 901] [] (And.intro (lenm encI a1) (And.intro (And.intro (con_sw 900 900 (spec_l1Below_ok a0 (a1.length : Int) v1 h2)) (rfl : ([900] : List Nat) = [900])) (And.intro (gi_lt encI h4) (And.intro ((gi_map encI h4).2) True.intro)))) (by kernel_rfl)

-- loop.example/g03014/spec.l3Leg
def spec_l3Leg_j1 (v1 : (ByteArray × l1Cur)) (v3 : (ByteArray × l1Cur)) (v5 : (Int × l1Cur)) (v7 : (Int × l1Cur)) (v9 : (Int × l1Cur)) (v11 : (Int × l1Cur)) (s21 : ByteArray) (s22 : ByteArray) (v23 : (Bool × l1Cur)) (s25 : Int) : Option (Leg × l1Cur) :=
  (spec_l1Once v23.2 9).bind fun v26 =>
  bif v26.1 then
  (spec_l1Int v26.2 ([1, 1440, 4320] : List Int)).bind fun v29 =>
  some ((Leg.mk ((Leg.mk s21 s22 ((Leg.mk v1.1 v3.1 (w64 (30 * v5.1)) (w64 (30 * (w64 (1 + v7.1)))) (w64 (1 + v9.1)) (w64 (1000 * v11.1))).Start) v29.1 s25 ((Leg.mk v1.1 v3.1 (w64 (30 * v5.1)) (w64 (30 * (w64 (1 + v7.1)))) (w64 (1 + v9.1)) (w64 (1000 * v11.1))).Room)).From) ((Leg.mk s21 s22 ((Leg.mk v1.1 v3.1 (w64 (30 * v5.1)) (w64 (30 * (w64 (1 + v7.1)))) (w64 (1 + v9.1)) (w64 (1000 * v11.1))).Start) v29.1 s25 ((Leg.mk v1.1 v3.1 (w64 (30 * v5.1)) (w64 (30 * (w64 (1 + v7.1)))) (w64 (1 + v9.1)) (w64 (1000 * v11.1))).Room)).To) ((Leg.mk s21 s22 ((Leg.mk v1.1 v3.1 (w64 (30 * v5.1)) (w64 (30 * (w64 (1 + v7.1)))) (w64 (1 + v9.1)) (w64 (1000 * v11.1))).Start) v29.1 s25 ((Leg.mk v1.1 v3.1 (w64 (30 * v5.1)) (w64 (30 * (w64 (1 + v7.1)))) (w64 (1 + v9.1)) (w64 (1000 * v11.1))).Room)).Start) ((Leg.mk s21 s22 ((Leg.mk v1.1 v3.1 (w64 (30 * v5.1)) (w64 (30 * (w64 (1 + v7.1)))) (w64 (1 + v9.1)) (w64 (1000 * v11.1))).Start) v29.1 s25 ((Leg.mk v1.1 v3.1 (w64 (30 * v5.1)) (w64 (30 * (w64 (1 + v7.1)))) (w64 (1 + v9.1)) (w64 (1000 * v11.1))).Room)).Takes) ((Leg.mk s21 s22 ((Leg.mk v1.1 v3.1 (w64 (30 * v5.1)) (w64 (30 * (w64 (1 + v7.1)))) (w64 (1 + v9.1)) (w64 (1000 * v11.1))).Start) v29.1 s25 ((Leg.mk v1.1 v3.1 (w64 (30 * v5.1)) (w64 (30 * (w64 (1 + v7.1)))) (w64 (1 + v9.1)) (w64 (1000 * v11.1))).Room)).Days) ((Leg.mk s21 s22 ((Leg.mk v1.1 v3.1 (w64 (30 * v5.1)) (w64 (30 * (w64 (1 + v7.1)))) (w64 (1 + v9.1)) (w64 (1000 * v11.1))).Start) v29.1 s25 ((Leg.mk v1.1 v3.1 (w64 (30 * v5.1)) (w64 (30 * (w64 (1 + v7.1)))) (w64 (1 + v9.1)) (w64 (1000 * v11.1))).Room)).Room)), v29.2)
  else
  some ((Leg.mk ((Leg.mk s21 s22 ((Leg.mk v1.1 v3.1 (w64 (30 * v5.1)) (w64 (30 * (w64 (1 + v7.1)))) (w64 (1 + v9.1)) (w64 (1000 * v11.1))).Start) ((Leg.mk v1.1 v3.1 (w64 (30 * v5.1)) (w64 (30 * (w64 (1 + v7.1)))) (w64 (1 + v9.1)) (w64 (1000 * v11.1))).Takes) s25 ((Leg.mk v1.1 v3.1 (w64 (30 * v5.1)) (w64 (30 * (w64 (1 + v7.1)))) (w64 (1 + v9.1)) (w64 (1000 * v11.1))).Room)).From) ((Leg.mk s21 s22 ((Leg.mk v1.1 v3.1 (w64 (30 * v5.1)) (w64 (30 * (w64 (1 + v7.1)))) (w64 (1 + v9.1)) (w64 (1000 * v11.1))).Start) ((Leg.mk v1.1 v3.1 (w64 (30 * v5.1)) (w64 (30 * (w64 (1 + v7.1)))) (w64 (1 + v9.1)) (w64 (1000 * v11.1))).Takes) s25 ((Leg.mk v1.1 v3.1 (w64 (30 * v5.1)) (w64 (30 * (w64 (1 + v7.1)))) (w64 (1 + v9.1)) (w64 (1000 * v11.1))).Room)).To) ((Leg.mk s21 s22 ((Leg.mk v1.1 v3.1 (w64 (30 * v5.1)) (w64 (30 * (w64 (1 + v7.1)))) (w64 (1 + v9.1)) (w64 (1000 * v11.1))).Start) ((Leg.mk v1.1 v3.1 (w64 (30 * v5.1)) (w64 (30 * (w64 (1 + v7.1)))) (w64 (1 + v9.1)) (w64 (1000 * v11.1))).Takes) s25 ((Leg.mk v1.1 v3.1 (w64 (30 * v5.1)) (w64 (30 * (w64 (1 + v7.1)))) (w64 (1 + v9.1)) (w64 (1000 * v11.1))).Room)).Start) ((Leg.mk s21 s22 ((Leg.mk v1.1 v3.1 (w64 (30 * v5.1)) (w64 (30 * (w64 (1 + v7.1)))) (w64 (1 + v9.1)) (w64 (1000 * v11.1))).Start) ((Leg.mk v1.1 v3.1 (w64 (30 * v5.1)) (w64 (30 * (w64 (1 + v7.1)))) (w64 (1 + v9.1)) (w64 (1000 * v11.1))).Takes) s25 ((Leg.mk v1.1 v3.1 (w64 (30 * v5.1)) (w64 (30 * (w64 (1 + v7.1)))) (w64 (1 + v9.1)) (w64 (1000 * v11.1))).Room)).Takes) ((Leg.mk s21 s22 ((Leg.mk v1.1 v3.1 (w64 (30 * v5.1)) (w64 (30 * (w64 (1 + v7.1)))) (w64 (1 + v9.1)) (w64 (1000 * v11.1))).Start) ((Leg.mk v1.1 v3.1 (w64 (30 * v5.1)) (w64 (30 * (w64 (1 + v7.1)))) (w64 (1 + v9.1)) (w64 (1000 * v11.1))).Takes) s25 ((Leg.mk v1.1 v3.1 (w64 (30 * v5.1)) (w64 (30 * (w64 (1 + v7.1)))) (w64 (1 + v9.1)) (w64 (1000 * v11.1))).Room)).Days) ((Leg.mk s21 s22 ((Leg.mk v1.1 v3.1 (w64 (30 * v5.1)) (w64 (30 * (w64 (1 + v7.1)))) (w64 (1 + v9.1)) (w64 (1000 * v11.1))).Start) ((Leg.mk v1.1 v3.1 (w64 (30 * v5.1)) (w64 (30 * (w64 (1 + v7.1)))) (w64 (1 + v9.1)) (w64 (1000 * v11.1))).Takes) s25 ((Leg.mk v1.1 v3.1 (w64 (30 * v5.1)) (w64 (30 * (w64 (1 + v7.1)))) (w64 (1 + v9.1)) (w64 (1000 * v11.1))).Room)).Room)), v26.2)
def spec_l3Leg_L1_b (s13 : (List Int)) (s14 : Int) (s15 : Int) (s16 : ByteArray) (s17 : ByteArray) : Option (Ctl ((List Int) × Int × Int × ByteArray × ByteArray) ((List Int) × Int × Int × ByteArray × ByteArray) (Leg × l1Cur)) :=
  bif (s16.toList == s17.toList) then
  (spec_l1Str (l1Cur.mk s13 s14 s15) ([(ByteArray.mk #[65, 77, 83]), (ByteArray.mk #[66, 82, 85]), (ByteArray.mk #[67, 68, 71])] : List ByteArray)).bind fun v33 =>
  bif (s16.toList == v33.1.toList) then
  some (.next (v33.2.b, v33.2.i, v33.2.h, (ByteArray.mk #[68, 85, 66]), v33.1))
  else
  some (.next (v33.2.b, v33.2.i, v33.2.h, s16, v33.1))
  else
  some (.brk (s13, s14, s15, s16, s17))
def spec_l3Leg_L1 (s : (List Int) × Int × Int × ByteArray × ByteArray) : Option (Ctl ((List Int) × Int × Int × ByteArray × ByteArray) ((List Int) × Int × Int × ByteArray × ByteArray) (Leg × l1Cur)) := spec_l3Leg_L1_b s.1 s.2.1 s.2.2.1 s.2.2.2.1 s.2.2.2.2
def spec_l3Leg_L1_s (v1 : (ByteArray × l1Cur)) (v3 : (ByteArray × l1Cur)) (v5 : (Int × l1Cur)) (v7 : (Int × l1Cur)) (v9 : (Int × l1Cur)) (v11 : (Int × l1Cur)) (s13 : (List Int)) (s14 : Int) (s15 : Int) (s16 : ByteArray) (s17 : ByteArray) : St := ⟨[(0, .o (.c (.ptr 900 0))), (2, .o (.c (.ptr 0 0))), (3, .o (.c (.ptr 1 0)))], [(900, .box 87 [.rs 1 (s13.map encU8), .v (.int .i64 s14), .v (.int .i64 s15)]), (0, .box 64 [.v (.string ByteArray.empty), .v (.string ByteArray.empty), .v (.int .i64 0), .v (.int .i64 0), .v (.int .i64 0), .v (.int .i64 0)]), (1, .box 64 [.v (.string s16), .v (.string s17), .v (.int .i64 ((Leg.mk v1.1 v3.1 (w64 (30 * v5.1)) (w64 (30 * (w64 (1 + v7.1)))) (w64 (1 + v9.1)) (w64 (1000 * v11.1))).Start)), .v (.int .i64 ((Leg.mk v1.1 v3.1 (w64 (30 * v5.1)) (w64 (30 * (w64 (1 + v7.1)))) (w64 (1 + v9.1)) (w64 (1000 * v11.1))).Takes)), .v (.int .i64 ((Leg.mk v1.1 v3.1 (w64 (30 * v5.1)) (w64 (30 * (w64 (1 + v7.1)))) (w64 (1 + v9.1)) (w64 (1000 * v11.1))).Days)), .v (.int .i64 ((Leg.mk v1.1 v3.1 (w64 (30 * v5.1)) (w64 (30 * (w64 (1 + v7.1)))) (w64 (1 + v9.1)) (w64 (1000 * v11.1))).Room))])]⟩
def spec_l3Leg_L1_S (v1 : (ByteArray × l1Cur)) (v3 : (ByteArray × l1Cur)) (v5 : (Int × l1Cur)) (v7 : (Int × l1Cur)) (v9 : (Int × l1Cur)) (v11 : (Int × l1Cur)) (s : (List Int) × Int × Int × ByteArray × ByteArray) : St := spec_l3Leg_L1_s v1 v3 v5 v7 v9 v11 s.1 s.2.1 s.2.2.1 s.2.2.2.1 s.2.2.2.2
def spec_l3Leg_L1_a (v1 : (ByteArray × l1Cur)) (v3 : (ByteArray × l1Cur)) (v5 : (Int × l1Cur)) (v7 : (Int × l1Cur)) (v9 : (Int × l1Cur)) (v11 : (Int × l1Cur)) (s18 : (List Int)) (s19 : Int) (s20 : Int) (s21 : ByteArray) (s22 : ByteArray) : Option (Leg × l1Cur) :=
  (spec_l1Once (l1Cur.mk s18 s19 s20) 2).bind fun v23 =>
  bif v23.1 then
  spec_l3Leg_j1 v1 v3 v5 v7 v9 v11 s21 s22 v23 127
  else
  spec_l3Leg_j1 v1 v3 v5 v7 v9 v11 s21 s22 v23 ((Leg.mk v1.1 v3.1 (w64 (30 * v5.1)) (w64 (30 * (w64 (1 + v7.1)))) (w64 (1 + v9.1)) (w64 (1000 * v11.1))).Days)
def spec_l3Leg_L1_k (v1 : (ByteArray × l1Cur)) (v3 : (ByteArray × l1Cur)) (v5 : (Int × l1Cur)) (v7 : (Int × l1Cur)) (v9 : (Int × l1Cur)) (v11 : (Int × l1Cur)) (x : ((List Int) × Int × Int × ByteArray × ByteArray) ⊕ (Leg × l1Cur)) : Option (Leg × l1Cur) := match x with
  | .inl t => spec_l3Leg_L1_a v1 v3 v5 v7 v9 v11 t.1 t.2.1 t.2.2.1 t.2.2.2.1 t.2.2.2.2
  | .inr y => some y
def spec_l3Leg (a0 : l1Cur) : Option (Leg × l1Cur) :=
  (spec_l1Place a0).bind fun v1 =>
  (spec_l1Place v1.2).bind fun v3 =>
  (spec_l1Below v3.2 48).bind fun v5 =>
  (spec_l1Below v5.2 40).bind fun v7 =>
  (spec_l1Below v7.2 127).bind fun v9 =>
  (spec_l1Below v9.2 60).bind fun v11 =>
  (loopM (spec_l3Leg_L1) big (v11.2.b, v11.2.i, v11.2.h, (Leg.mk v1.1 v3.1 (w64 (30 * v5.1)) (w64 (30 * (w64 (1 + v7.1)))) (w64 (1 + v9.1)) (w64 (1000 * v11.1))).From, (Leg.mk v1.1 v3.1 (w64 (30 * v5.1)) (w64 (30 * (w64 (1 + v7.1)))) (w64 (1 + v9.1)) (w64 (1000 * v11.1))).To)).bind (spec_l3Leg_L1_k v1 v3 v5 v7 v9 v11)
theorem spec_l3Leg_ok (a0 : l1Cur) (r : Leg × l1Cur) (hM : spec_l3Leg a0 = some r) :
    Con Try.prog 69 [.c (.ptr 900 0)] [(900, .box 87 [.rs 1 (a0.b.map encU8), .v (.int .i64 a0.i), .v (.int .i64 a0.h)])] (.o (.c (.v (.agg (Leg.enc r.1).toArray)))) [(900, .box 87 [.rs 1 (r.2.b.map encU8), .v (.int .i64 r.2.i), .v (.int .i64 r.2.h)])] [] := by
  unfold spec_l3Leg at hM
  refine cn (N := 47) (pids := [900]) Try_mixed Try.func69 (by kernel_rfl) (by kernel_rfl) (by kernel_rfl) rfl fun ρ g w R => ?_
  obtain ⟨v1, h2, hM⟩ := bind_some hM
  obtain ⟨v3, h4, hM⟩ := bind_some hM
  obtain ⟨v5, h6, hM⟩ := bind_some hM
  obtain ⟨v7, h8, hM⟩ := bind_some hM
  obtain ⟨v9, h10, hM⟩ := bind_some hM
  obtain ⟨v11, h12, hM⟩ := bind_some hM
  have K1 : ∀ (s18 : (List Int)) (s19 : Int) (s20 : Int) (s21 : ByteArray) (s22 : ByteArray), spec_l3Leg_L1_a v1 v3 v5 v7 v9 v11 s18 s19 s20 s21 s22 = some r → Gr R [.code (cAt Try.f69 [1, 1, 1])] (⟨[(0, .o (.c (.ptr 900 0))), (2, .o (.c (.ptr 0 0))), (3, .o (.c (.ptr 1 0)))], [(900, .box 87 [.rs 1 (s18.map encU8), .v (.int .i64 s19), .v (.int .i64 s20)]), (0, .box 64 [.v (.string ByteArray.empty), .v (.string ByteArray.empty), .v (.int .i64 0), .v (.int .i64 0), .v (.int .i64 0), .v (.int .i64 0)]), (1, .box 64 [.v (.string s21), .v (.string s22), .v (.int .i64 ((Leg.mk v1.1 v3.1 (w64 (30 * v5.1)) (w64 (30 * (w64 (1 + v7.1)))) (w64 (1 + v9.1)) (w64 (1000 * v11.1))).Start)), .v (.int .i64 ((Leg.mk v1.1 v3.1 (w64 (30 * v5.1)) (w64 (30 * (w64 (1 + v7.1)))) (w64 (1 + v9.1)) (w64 (1000 * v11.1))).Takes)), .v (.int .i64 ((Leg.mk v1.1 v3.1 (w64 (30 * v5.1)) (w64 (30 * (w64 (1 + v7.1)))) (w64 (1 + v9.1)) (w64 (1000 * v11.1))).Days)), .v (.int .i64 ((Leg.mk v1.1 v3.1 (w64 (30 * v5.1)) (w64 (30 * (w64 (1 + v7.1)))) (w64 (1 + v9.1)) (w64 (1000 * v11.1))).Room))])]⟩) := by
    intro s18 s19 s20 s21 s22 hM
    unfold spec_l3Leg_L1_a at hM
    obtain ⟨v23, h24, hM⟩ := bind_some hM
    have J1 : ∀ (s25 : Int), spec_l3Leg_j1 v1 v3 v5 v7 v9 v11 s21 s22 v23 s25 = some r → Gr R [.code (cAt Try.f69 [1, 1, 1, 1])] (⟨[(0, .o (.c (.ptr 900 0))), (2, .o (.c (.ptr 0 0))), (3, .o (.c (.ptr 1 0)))], [(900, .box 87 [.rs 1 (v23.2.b.map encU8), .v (.int .i64 v23.2.i), .v (.int .i64 v23.2.h)]), (0, .box 64 [.v (.string ByteArray.empty), .v (.string ByteArray.empty), .v (.int .i64 0), .v (.int .i64 0), .v (.int .i64 0), .v (.int .i64 0)]), (1, .box 64 [.v (.string s21), .v (.string s22), .v (.int .i64 ((Leg.mk v1.1 v3.1 (w64 (30 * v5.1)) (w64 (30 * (w64 (1 + v7.1)))) (w64 (1 + v9.1)) (w64 (1000 * v11.1))).Start)), .v (.int .i64 ((Leg.mk v1.1 v3.1 (w64 (30 * v5.1)) (w64 (30 * (w64 (1 + v7.1)))) (w64 (1 + v9.1)) (w64 (1000 * v11.1))).Takes)), .v (.int .i64 s25), .v (.int .i64 ((Leg.mk v1.1 v3.1 (w64 (30 * v5.1)) (w64 (30 * (w64 (1 + v7.1)))) (w64 (1 + v9.1)) (w64 (1000 * v11.1))).Room))])]⟩) := by
      intro s25 hM
      unfold spec_l3Leg_j1 at hM
      obtain ⟨v26, h27, hM⟩ := bind_some hM
      rcases cond_cases hM with ⟨h28, hM⟩ | ⟨h28, hM⟩
      · obtain ⟨v29, h30, hM⟩ := bind_some hM
        have hE : some ((Leg.mk ((Leg.mk s21 s22 ((Leg.mk v1.1 v3.1 (w64 (30 * v5.1)) (w64 (30 * (w64 (1 + v7.1)))) (w64 (1 + v9.1)) (w64 (1000 * v11.1))).Start) v29.1 s25 ((Leg.mk v1.1 v3.1 (w64 (30 * v5.1)) (w64 (30 * (w64 (1 + v7.1)))) (w64 (1 + v9.1)) (w64 (1000 * v11.1))).Room)).From) ((Leg.mk s21 s22 ((Leg.mk v1.1 v3.1 (w64 (30 * v5.1)) (w64 (30 * (w64 (1 + v7.1)))) (w64 (1 + v9.1)) (w64 (1000 * v11.1))).Start) v29.1 s25 ((Leg.mk v1.1 v3.1 (w64 (30 * v5.1)) (w64 (30 * (w64 (1 + v7.1)))) (w64 (1 + v9.1)) (w64 (1000 * v11.1))).Room)).To) ((Leg.mk s21 s22 ((Leg.mk v1.1 v3.1 (w64 (30 * v5.1)) (w64 (30 * (w64 (1 + v7.1)))) (w64 (1 + v9.1)) (w64 (1000 * v11.1))).Start) v29.1 s25 ((Leg.mk v1.1 v3.1 (w64 (30 * v5.1)) (w64 (30 * (w64 (1 + v7.1)))) (w64 (1 + v9.1)) (w64 (1000 * v11.1))).Room)).Start) ((Leg.mk s21 s22 ((Leg.mk v1.1 v3.1 (w64 (30 * v5.1)) (w64 (30 * (w64 (1 + v7.1)))) (w64 (1 + v9.1)) (w64 (1000 * v11.1))).Start) v29.1 s25 ((Leg.mk v1.1 v3.1 (w64 (30 * v5.1)) (w64 (30 * (w64 (1 + v7.1)))) (w64 (1 + v9.1)) (w64 (1000 * v11.1))).Room)).Takes) ((Leg.mk s21 s22 ((Leg.mk v1.1 v3.1 (w64 (30 * v5.1)) (w64 (30 * (w64 (1 + v7.1)))) (w64 (1 + v9.1)) (w64 (1000 * v11.1))).Start) v29.1 s25 ((Leg.mk v1.1 v3.1 (w64 (30 * v5.1)) (w64 (30 * (w64 (1 + v7.1)))) (w64 (1 + v9.1)) (w64 (1000 * v11.1))).Room)).Days) ((Leg.mk s21 s22 ((Leg.mk v1.1 v3.1 (w64 (30 * v5.1)) (w64 (30 * (w64 (1 + v7.1)))) (w64 (1 + v9.1)) (w64 (1000 * v11.1))).Start) v29.1 s25 ((Leg.mk v1.1 v3.1 (w64 (30 * v5.1)) (w64 (30 * (w64 (1 + v7.1)))) (w64 (1 + v9.1)) (w64 (1000 * v11.1))).Room)).Room)), v29.2) = some r := hM
        have hE := Option.some.inj hE
        subst hE
        exact pr R 9999 [.call true [900] (.o (.c (.v (.bool v26.1)))) [(900, .box 87 [.rs 1 (v26.2.b.map encU8), .v (.int .i64 v26.2.i), .v (.int .i64 v26.2.h)])] [], .as 41 true, .new 2, .ad (.keep [0, 2, 3, 40, 41, 42, 43] [900, 2, 0, 1]), .call true [900, 2] (.o (.c (.v (.int .i64 v29.1)))) [(900, .box 87 [.rs 1 (v29.2.b.map encU8), .v (.int .i64 v29.2.i), .v (.int .i64 v29.2.h)]), (2, .row 3 1 (([1, 1440, 4320] : List Int).map encI))] []] [] [900] [] (And.intro (And.intro (con_sw 900 900 (spec_l1Once_ok v23.2 9 v26 h27)) (rfl : ([900] : List Nat) = [900])) (And.intro h28 (And.intro (And.intro (con_sw 901 2 (con_sw 900 900 (spec_l1Int_ok v26.2 ([1, 1440, 4320] : List Int) v29 h30))) (rfl : ([900, 2] : List Nat) = [900, 2])) True.intro))) (by kernel_rfl)
      · have hE : some ((Leg.mk ((Leg.mk s21 s22 ((Leg.mk v1.1 v3.1 (w64 (30 * v5.1)) (w64 (30 * (w64 (1 + v7.1)))) (w64 (1 + v9.1)) (w64 (1000 * v11.1))).Start) ((Leg.mk v1.1 v3.1 (w64 (30 * v5.1)) (w64 (30 * (w64 (1 + v7.1)))) (w64 (1 + v9.1)) (w64 (1000 * v11.1))).Takes) s25 ((Leg.mk v1.1 v3.1 (w64 (30 * v5.1)) (w64 (30 * (w64 (1 + v7.1)))) (w64 (1 + v9.1)) (w64 (1000 * v11.1))).Room)).From) ((Leg.mk s21 s22 ((Leg.mk v1.1 v3.1 (w64 (30 * v5.1)) (w64 (30 * (w64 (1 + v7.1)))) (w64 (1 + v9.1)) (w64 (1000 * v11.1))).Start) ((Leg.mk v1.1 v3.1 (w64 (30 * v5.1)) (w64 (30 * (w64 (1 + v7.1)))) (w64 (1 + v9.1)) (w64 (1000 * v11.1))).Takes) s25 ((Leg.mk v1.1 v3.1 (w64 (30 * v5.1)) (w64 (30 * (w64 (1 + v7.1)))) (w64 (1 + v9.1)) (w64 (1000 * v11.1))).Room)).To) ((Leg.mk s21 s22 ((Leg.mk v1.1 v3.1 (w64 (30 * v5.1)) (w64 (30 * (w64 (1 + v7.1)))) (w64 (1 + v9.1)) (w64 (1000 * v11.1))).Start) ((Leg.mk v1.1 v3.1 (w64 (30 * v5.1)) (w64 (30 * (w64 (1 + v7.1)))) (w64 (1 + v9.1)) (w64 (1000 * v11.1))).Takes) s25 ((Leg.mk v1.1 v3.1 (w64 (30 * v5.1)) (w64 (30 * (w64 (1 + v7.1)))) (w64 (1 + v9.1)) (w64 (1000 * v11.1))).Room)).Start) ((Leg.mk s21 s22 ((Leg.mk v1.1 v3.1 (w64 (30 * v5.1)) (w64 (30 * (w64 (1 + v7.1)))) (w64 (1 + v9.1)) (w64 (1000 * v11.1))).Start) ((Leg.mk v1.1 v3.1 (w64 (30 * v5.1)) (w64 (30 * (w64 (1 + v7.1)))) (w64 (1 + v9.1)) (w64 (1000 * v11.1))).Takes) s25 ((Leg.mk v1.1 v3.1 (w64 (30 * v5.1)) (w64 (30 * (w64 (1 + v7.1)))) (w64 (1 + v9.1)) (w64 (1000 * v11.1))).Room)).Takes) ((Leg.mk s21 s22 ((Leg.mk v1.1 v3.1 (w64 (30 * v5.1)) (w64 (30 * (w64 (1 + v7.1)))) (w64 (1 + v9.1)) (w64 (1000 * v11.1))).Start) ((Leg.mk v1.1 v3.1 (w64 (30 * v5.1)) (w64 (30 * (w64 (1 + v7.1)))) (w64 (1 + v9.1)) (w64 (1000 * v11.1))).Takes) s25 ((Leg.mk v1.1 v3.1 (w64 (30 * v5.1)) (w64 (30 * (w64 (1 + v7.1)))) (w64 (1 + v9.1)) (w64 (1000 * v11.1))).Room)).Days) ((Leg.mk s21 s22 ((Leg.mk v1.1 v3.1 (w64 (30 * v5.1)) (w64 (30 * (w64 (1 + v7.1)))) (w64 (1 + v9.1)) (w64 (1000 * v11.1))).Start) ((Leg.mk v1.1 v3.1 (w64 (30 * v5.1)) (w64 (30 * (w64 (1 + v7.1)))) (w64 (1 + v9.1)) (w64 (1000 * v11.1))).Takes) s25 ((Leg.mk v1.1 v3.1 (w64 (30 * v5.1)) (w64 (30 * (w64 (1 + v7.1)))) (w64 (1 + v9.1)) (w64 (1000 * v11.1))).Room)).Room)), v26.2) = some r := hM
        have hE := Option.some.inj hE
        subst hE
        exact pr R 9999 [.call true [900] (.o (.c (.v (.bool v26.1)))) [(900, .box 87 [.rs 1 (v26.2.b.map encU8), .v (.int .i64 v26.2.i), .v (.int .i64 v26.2.h)])] [], .as 41 false] [] [900] [] (And.intro (And.intro (con_sw 900 900 (spec_l1Once_ok v23.2 9 v26 h27)) (rfl : ([900] : List Nat) = [900])) (And.intro h28 True.intro)) (by kernel_rfl)
    rcases cond_cases hM with ⟨h31, hM⟩ | ⟨h31, hM⟩
    · exact pc R 5 [.call true [900] (.o (.c (.v (.bool v23.1)))) [(900, .box 87 [.rs 1 (v23.2.b.map encU8), .v (.int .i64 v23.2.i), .v (.int .i64 v23.2.h)])] [], .as 38 true] [.keep [0, 2, 3] [900, 0, 1]] (And.intro (And.intro (con_sw 900 900 (spec_l1Once_ok (l1Cur.mk s18 s19 s20) 2 v23 h24)) (rfl : ([900] : List Nat) = [900])) (And.intro h31 True.intro)) (by kernel_rfl) (J1 127 hM)
    · exact pc R 5 [.call true [900] (.o (.c (.v (.bool v23.1)))) [(900, .box 87 [.rs 1 (v23.2.b.map encU8), .v (.int .i64 v23.2.i), .v (.int .i64 v23.2.h)])] [], .as 38 false] [.keep [0, 2, 3] [900, 0, 1]] (And.intro (And.intro (con_sw 900 900 (spec_l1Once_ok (l1Cur.mk s18 s19 s20) 2 v23 h24)) (rfl : ([900] : List Nat) = [900])) (And.intro h31 True.intro)) (by kernel_rfl) (J1 ((Leg.mk v1.1 v3.1 (w64 (30 * v5.1)) (w64 (30 * (w64 (1 + v7.1)))) (w64 (1 + v9.1)) (w64 (1000 * v11.1))).Days) hM)
  refine pc R 9999 [.new 0, .call true [900] (.o (.c (.v (.string v1.1)))) [(900, .box 87 [.rs 1 (v1.2.b.map encU8), .v (.int .i64 v1.2.i), .v (.int .i64 v1.2.h)])] [], .call true [900] (.o (.c (.v (.string v3.1)))) [(900, .box 87 [.rs 1 (v3.2.b.map encU8), .v (.int .i64 v3.2.i), .v (.int .i64 v3.2.h)])] [], .call true [900] (.o (.c (.v (.int .i64 v5.1)))) [(900, .box 87 [.rs 1 (v5.2.b.map encU8), .v (.int .i64 v5.2.i), .v (.int .i64 v5.2.h)])] [], .call true [900] (.o (.c (.v (.int .i64 v7.1)))) [(900, .box 87 [.rs 1 (v7.2.b.map encU8), .v (.int .i64 v7.2.i), .v (.int .i64 v7.2.h)])] [], .call true [900] (.o (.c (.v (.int .i64 v9.1)))) [(900, .box 87 [.rs 1 (v9.2.b.map encU8), .v (.int .i64 v9.2.i), .v (.int .i64 v9.2.h)])] [], .call true [900] (.o (.c (.v (.int .i64 v11.1)))) [(900, .box 87 [.rs 1 (v11.2.b.map encU8), .v (.int .i64 v11.2.i), .v (.int .i64 v11.2.h)])] [], .new 1] [.keep [0, 2, 3] [900, 0, 1]] (k' := [.code (.loop (cAt Try.f69 [1, 1, 0, 0, 0])), .blk 0, .code (cAt Try.f69 [1, 1, 1])]) (S' := spec_l3Leg_L1_S v1 v3 v5 v7 v9 v11 (v11.2.b, v11.2.i, v11.2.h, (Leg.mk v1.1 v3.1 (w64 (30 * v5.1)) (w64 (30 * (w64 (1 + v7.1)))) (w64 (1 + v9.1)) (w64 (1000 * v11.1))).From, (Leg.mk v1.1 v3.1 (w64 (30 * v5.1)) (w64 (30 * (w64 (1 + v7.1)))) (w64 (1 + v9.1)) (w64 (1000 * v11.1))).To)) (And.intro (And.intro (con_sw 900 900 (spec_l1Place_ok a0 v1 h2)) (rfl : ([900] : List Nat) = [900])) (And.intro (And.intro (con_sw 900 900 (spec_l1Place_ok v1.2 v3 h4)) (rfl : ([900] : List Nat) = [900])) (And.intro (And.intro (con_sw 900 900 (spec_l1Below_ok v3.2 48 v5 h6)) (rfl : ([900] : List Nat) = [900])) (And.intro (And.intro (con_sw 900 900 (spec_l1Below_ok v5.2 40 v7 h8)) (rfl : ([900] : List Nat) = [900])) (And.intro (And.intro (con_sw 900 900 (spec_l1Below_ok v7.2 127 v9 h10)) (rfl : ([900] : List Nat) = [900])) (And.intro (And.intro (con_sw 900 900 (spec_l1Below_ok v9.2 60 v11 h12)) (rfl : ([900] : List Nat) = [900])) True.intro)))))) (by kernel_rfl) ?_
  refine lq (spec_l3Leg_L1_S v1 v3 v5 v7 v9 v11) (body := spec_l3Leg_L1) (k := spec_l3Leg_L1_k v1 v3 v5 v7 v9 v11) hM fun m1 s c1 hM hK1 => ?_
  obtain ⟨s13, s14, s15, s16, s17⟩ := s
  have hM : spec_l3Leg_L1_b s13 s14 s15 s16 s17 = some c1 := hM
  unfold spec_l3Leg_L1_b at hM
  rcases cond_cases hM with ⟨h32, hM⟩ | ⟨h32, hM⟩
  · obtain ⟨v33, h34, hM⟩ := bind_some hM
    rcases cond_cases hM with ⟨h35, hM⟩ | ⟨h35, hM⟩
    · have hE : some (Ctl.next (v33.2.b, v33.2.i, v33.2.h, (ByteArray.mk #[68, 85, 66]), v33.1)) = some c1 := hM
      have hE := Option.some.inj hE
      subst hE
      exact pc R 9999 [.as 26 true, .new 3, .ad (.keep [0, 2, 3, 22, 23, 24, 25, 26, 27, 28] [900, 3, 0, 1]), .call true [900, 3] (.o (.c (.v (.string v33.1)))) [(900, .box 87 [.rs 1 (v33.2.b.map encU8), .v (.int .i64 v33.2.i), .v (.int .i64 v33.2.h)]), (3, .row 9 1 (([(ByteArray.mk #[65, 77, 83]), (ByteArray.mk #[66, 82, 85]), (ByteArray.mk #[67, 68, 71])] : List ByteArray).map encS))] [], .as 35 true] [.keep [0, 2, 3] [900, 0, 1]] (And.intro h32 (And.intro (And.intro (con_sw 901 3 (con_sw 900 900 (spec_l1Str_ok (l1Cur.mk s13 s14 s15) ([(ByteArray.mk #[65, 77, 83]), (ByteArray.mk #[66, 82, 85]), (ByteArray.mk #[67, 68, 71])] : List ByteArray) v33 h34))) (rfl : ([900, 3] : List Nat) = [900, 3])) (And.intro h35 True.intro))) (by kernel_rfl) (li (Sf := spec_l3Leg_L1_S v1 v3 v5 v7 v9 v11) (M := Mk (spec_l3Leg_L1) (spec_l3Leg_L1_k v1 v3 v5 v7 v9 v11) r) (k := [.blk 0, .code (cAt Try.f69 [1, 1, 1])]) (Nat.lt_succ_self m1) hK1)
    · have hE : some (Ctl.next (v33.2.b, v33.2.i, v33.2.h, s16, v33.1)) = some c1 := hM
      have hE := Option.some.inj hE
      subst hE
      exact pc R 9999 [.as 26 true, .new 3, .ad (.keep [0, 2, 3, 22, 23, 24, 25, 26, 27, 28] [900, 3, 0, 1]), .call true [900, 3] (.o (.c (.v (.string v33.1)))) [(900, .box 87 [.rs 1 (v33.2.b.map encU8), .v (.int .i64 v33.2.i), .v (.int .i64 v33.2.h)]), (3, .row 9 1 (([(ByteArray.mk #[65, 77, 83]), (ByteArray.mk #[66, 82, 85]), (ByteArray.mk #[67, 68, 71])] : List ByteArray).map encS))] [], .as 35 false] [.keep [0, 2, 3] [900, 0, 1]] (And.intro h32 (And.intro (And.intro (con_sw 901 3 (con_sw 900 900 (spec_l1Str_ok (l1Cur.mk s13 s14 s15) ([(ByteArray.mk #[65, 77, 83]), (ByteArray.mk #[66, 82, 85]), (ByteArray.mk #[67, 68, 71])] : List ByteArray) v33 h34))) (rfl : ([900, 3] : List Nat) = [900, 3])) (And.intro h35 True.intro))) (by kernel_rfl) (li (Sf := spec_l3Leg_L1_S v1 v3 v5 v7 v9 v11) (M := Mk (spec_l3Leg_L1) (spec_l3Leg_L1_k v1 v3 v5 v7 v9 v11) r) (k := [.blk 0, .code (cAt Try.f69 [1, 1, 1])]) (Nat.lt_succ_self m1) hK1)
  · have hE : some (Ctl.brk (s13, s14, s15, s16, s17)) = some c1 := hM
    have hE := Option.some.inj hE
    subst hE
    exact pc R 5 [.as 26 false] [.keep [0, 2, 3] [900, 0, 1]] (And.intro h32 True.intro) (by kernel_rfl) (K1 s13 s14 s15 s16 s17 hK1)

-- loop.example/g03014/spec.l3Draw
def spec_l3Draw_x4 (a1 : Int) (v1 : (Int × l1Cur)) (s9 : Int) (v22 : (Leg × l1Cur)) (v24 : (List Leg)) (v30 : Leg) (v32 : Leg) (v34 : (Int × l1Cur)) : St := ⟨[(0, .o (.c (.ptr 900 0))), (1, .o (.c (.v (.int .i64 a1)))), (4, .o (.c (.ptr 0 0))), (5, .o (.c (.ptr 1 0))), (6, .o (.c (.v (.int .i64 s9)))), (7, .o (.c (.ptr 4 0)))], [(900, .box 87 [.rs 1 (v34.2.b.map encU8), .v (.int .i64 v34.2.i), .v (.int .i64 v34.2.h)]), (0, .box 27 [.v (.slice none 0 0), .v (.slice none 0 0), .v (.int .i64 0)]), (1, .box 27 [.sl 6, .v (.slice none 0 0), .v (.int .i64 (w64 (15 * v1.1)))]), (6, .row 64 6 (v24.map Leg.enc)), (4, .box 64 [.v (.string v30.To), .v (.string v32.From), .v (.int .i64 (Int.tmod (w64 (v22.1.Start + (w64 (60 * v34.1)))) 1440)), .v (.int .i64 v22.1.Takes), .v (.int .i64 v22.1.Days), .v (.int .i64 v22.1.Room)])]⟩
def spec_l3Draw_L1_b (a1 : Int) (s5 : (List Int)) (s6 : Int) (s7 : Int) (s8 : (List Leg)) (s9 : Int) : Option (Ctl ((List Int) × Int × Int × (List Leg) × Int) ((List Int) × Int × Int × (List Leg)) (Network × l1Cur)) :=
  bif (decide (s9 > 0)) then
  (spec_l3Leg (l1Cur.mk s5 s6 s7)).bind fun v22 =>
  (ap 64 s8 ([v22.1] : List Leg)).bind fun v24 =>
  (spec_l1Once v22.2 3).bind fun v26 =>
  bif v26.1 then
  bif (decide ((v24.length : Int) < a1)) then
  (gi v24 (w64 ((v24.length : Int) - 1))).bind fun v30 =>
  (gi v24 (w64 ((v24.length : Int) - 1))).bind fun v32 =>
  (spec_l1Below v26.2 20).bind fun v34 =>
  (ap 64 v24 ([(Leg.mk v30.To v32.From (Int.tmod (w64 (v22.1.Start + (w64 (60 * v34.1)))) 1440) v22.1.Takes v22.1.Days v22.1.Room)] : List Leg)).bind fun v36 =>
  some (.next (v34.2.b, v34.2.i, v34.2.h, v36, w64 (s9 - 1)))
  else
  some (.next (v26.2.b, v26.2.i, v26.2.h, v24, w64 (s9 - 1)))
  else
  some (.next (v26.2.b, v26.2.i, v26.2.h, v24, w64 (s9 - 1)))
  else
  some (.brk (s5, s6, s7, s8))
def spec_l3Draw_L1 (a1 : Int) (s : (List Int) × Int × Int × (List Leg) × Int) : Option (Ctl ((List Int) × Int × Int × (List Leg) × Int) ((List Int) × Int × Int × (List Leg)) (Network × l1Cur)) := spec_l3Draw_L1_b a1 s.1 s.2.1 s.2.2.1 s.2.2.2.1 s.2.2.2.2
def spec_l3Draw_L1_s (a1 : Int) (v1 : (Int × l1Cur)) (s5 : (List Int)) (s6 : Int) (s7 : Int) (s8 : (List Leg)) (s9 : Int) : St := ⟨[(0, .o (.c (.ptr 900 0))), (1, .o (.c (.v (.int .i64 a1)))), (4, .o (.c (.ptr 0 0))), (5, .o (.c (.ptr 1 0))), (6, .o (.c (.v (.int .i64 s9))))], [(900, .box 87 [.rs 1 (s5.map encU8), .v (.int .i64 s6), .v (.int .i64 s7)]), (0, .box 27 [.v (.slice none 0 0), .v (.slice none 0 0), .v (.int .i64 0)]), (1, .box 27 [.sl 2, .v (.slice none 0 0), .v (.int .i64 (w64 (15 * v1.1)))]), (2, .row 64 6 (s8.map Leg.enc))]⟩
def spec_l3Draw_L1_S (a1 : Int) (v1 : (Int × l1Cur)) (s : (List Int) × Int × Int × (List Leg) × Int) : St := spec_l3Draw_L1_s a1 v1 s.1 s.2.1 s.2.2.1 s.2.2.2.1 s.2.2.2.2
def spec_l3Draw_L1_a (v1 : (Int × l1Cur)) (s10 : (List Int)) (s11 : Int) (s12 : Int) (s13 : (List Leg)) : Option (Network × l1Cur) :=
  (spec_l1Once (l1Cur.mk s10 s11 s12) 2).bind fun v14 =>
  bif v14.1 then
  (spec_l1Below v14.2 3).bind fun v17 =>
  (spec_l1Below v17.2 4).bind fun v19 =>
  some ((Network.mk s13 ([v17.1, w64 (3 + v19.1)] : List Int) (w64 (15 * v1.1))), v19.2)
  else
  some ((Network.mk s13 ([] : List Int) (w64 (15 * v1.1))), v14.2)
def spec_l3Draw_L1_k (v1 : (Int × l1Cur)) (x : ((List Int) × Int × Int × (List Leg)) ⊕ (Network × l1Cur)) : Option (Network × l1Cur) := match x with
  | .inl t => spec_l3Draw_L1_a v1 t.1 t.2.1 t.2.2.1 t.2.2.2
  | .inr y => some y
def spec_l3Draw (a0 : l1Cur) (a1 : Int) : Option (Network × l1Cur) :=
  (spec_l1Below a0 9).bind fun v1 =>
  (spec_l1Below v1.2 a1).bind fun v3 =>
  (loopM (spec_l3Draw_L1 a1) big (v3.2.b, v3.2.i, v3.2.h, [], w64 (1 + v3.1))).bind (spec_l3Draw_L1_k v1)
theorem spec_l3Draw_ok (a0 : l1Cur) (a1 : Int) (r : Network × l1Cur) (hM : spec_l3Draw a0 a1 = some r) :
    Con Try.prog 41 [.c (.ptr 900 0), .c (.v (.int .i64 a1))] [(900, .box 87 [.rs 1 (a0.b.map encU8), .v (.int .i64 a0.i), .v (.int .i64 a0.h)])] (.o (.agg [.sl 1000, .sl 1001, .v (.int .i64 r.1.Change)])) [(900, .box 87 [.rs 1 (r.2.b.map encU8), .v (.int .i64 r.2.i), .v (.int .i64 r.2.h)])] [(1000, .row 64 6 (r.1.Legs.map Leg.enc)), (1001, .row 3 1 (r.1.Off.map encI))] := by
  unfold spec_l3Draw at hM
  refine cn (N := 81) (pids := [900]) Try_mixed Try.func41 (by kernel_rfl) (by kernel_rfl) (by kernel_rfl) rfl fun ρ g w R => ?_
  obtain ⟨v1, h2, hM⟩ := bind_some hM
  obtain ⟨v3, h4, hM⟩ := bind_some hM
  have K1 : ∀ (s10 : (List Int)) (s11 : Int) (s12 : Int) (s13 : (List Leg)), spec_l3Draw_L1_a v1 s10 s11 s12 s13 = some r → Gr R [.code (cAt Try.f41 [1, 1, 1])] (⟨[(0, .o (.c (.ptr 900 0))), (4, .o (.c (.ptr 0 0))), (5, .o (.c (.ptr 1 0)))], [(900, .box 87 [.rs 1 (s10.map encU8), .v (.int .i64 s11), .v (.int .i64 s12)]), (0, .box 27 [.v (.slice none 0 0), .v (.slice none 0 0), .v (.int .i64 0)]), (1, .box 27 [.sl 2, .v (.slice none 0 0), .v (.int .i64 (w64 (15 * v1.1)))]), (2, .row 64 6 (s13.map Leg.enc))]⟩) := by
    intro s10 s11 s12 s13 hM
    unfold spec_l3Draw_L1_a at hM
    obtain ⟨v14, h15, hM⟩ := bind_some hM
    rcases cond_cases hM with ⟨h16, hM⟩ | ⟨h16, hM⟩
    · obtain ⟨v17, h18, hM⟩ := bind_some hM
      obtain ⟨v19, h20, hM⟩ := bind_some hM
      have hE : some ((Network.mk s13 ([v17.1, w64 (3 + v19.1)] : List Int) (w64 (15 * v1.1))), v19.2) = some r := hM
      have hE := Option.some.inj hE
      subst hE
      exact pr R 9999 [.call true [900] (.o (.c (.v (.bool v14.1)))) [(900, .box 87 [.rs 1 (v14.2.b.map encU8), .v (.int .i64 v14.2.i), .v (.int .i64 v14.2.h)])] [], .as 72 true, .call true [900] (.o (.c (.v (.int .i64 v17.1)))) [(900, .box 87 [.rs 1 (v17.2.b.map encU8), .v (.int .i64 v17.2.i), .v (.int .i64 v17.2.h)])] [], .call true [900] (.o (.c (.v (.int .i64 v19.1)))) [(900, .box 87 [.rs 1 (v19.2.b.map encU8), .v (.int .i64 v19.2.i), .v (.int .i64 v19.2.h)])] [], .new 3] [.sw 2 1000, .sw 3 1001] [900] [1000, 1001] (And.intro (And.intro (con_sw 900 900 (spec_l1Once_ok (l1Cur.mk s10 s11 s12) 2 v14 h15)) (rfl : ([900] : List Nat) = [900])) (And.intro h16 (And.intro (And.intro (con_sw 900 900 (spec_l1Below_ok v14.2 3 v17 h18)) (rfl : ([900] : List Nat) = [900])) (And.intro (And.intro (con_sw 900 900 (spec_l1Below_ok v17.2 4 v19 h20)) (rfl : ([900] : List Nat) = [900])) True.intro)))) (by kernel_rfl)
    · have hE : some ((Network.mk s13 ([] : List Int) (w64 (15 * v1.1))), v14.2) = some r := hM
      have hE := Option.some.inj hE
      subst hE
      exact pr R 9999 [.call true [900] (.o (.c (.v (.bool v14.1)))) [(900, .box 87 [.rs 1 (v14.2.b.map encU8), .v (.int .i64 v14.2.i), .v (.int .i64 v14.2.h)])] [], .as 72 false] [.sw 2 1000, .nb 0 1 1001 3 1] [900] [1000, 1001] (And.intro (And.intro (con_sw 900 900 (spec_l1Once_ok (l1Cur.mk s10 s11 s12) 2 v14 h15)) (rfl : ([900] : List Nat) = [900])) (And.intro h16 True.intro)) (by kernel_rfl)
  refine pc R 9999 [.new 0, .call true [900] (.o (.c (.v (.int .i64 v1.1)))) [(900, .box 87 [.rs 1 (v1.2.b.map encU8), .v (.int .i64 v1.2.i), .v (.int .i64 v1.2.h)])] [], .new 1, .call true [900] (.o (.c (.v (.int .i64 v3.1)))) [(900, .box 87 [.rs 1 (v3.2.b.map encU8), .v (.int .i64 v3.2.i), .v (.int .i64 v3.2.h)])] []] [.nb 1 0 2 64 6, .keep [0, 1, 4, 5, 6] [900, 0, 1, 2]] (k' := [.code (.loop (cAt Try.f41 [1, 1, 0, 1, 0, 0])), .blk 0, .code (cAt Try.f41 [1, 1, 1])]) (S' := spec_l3Draw_L1_S a1 v1 (v3.2.b, v3.2.i, v3.2.h, [], w64 (1 + v3.1))) (And.intro (And.intro (con_sw 900 900 (spec_l1Below_ok a0 9 v1 h2)) (rfl : ([900] : List Nat) = [900])) (And.intro (And.intro (con_sw 900 900 (spec_l1Below_ok v1.2 a1 v3 h4)) (rfl : ([900] : List Nat) = [900])) True.intro)) (by kernel_rfl) ?_
  refine lq (spec_l3Draw_L1_S a1 v1) (body := spec_l3Draw_L1 a1) (k := spec_l3Draw_L1_k v1) hM fun m1 s c1 hM hK1 => ?_
  obtain ⟨s5, s6, s7, s8, s9⟩ := s
  have hM : spec_l3Draw_L1_b a1 s5 s6 s7 s8 s9 = some c1 := hM
  unfold spec_l3Draw_L1_b at hM
  rcases cond_cases hM with ⟨h21, hM⟩ | ⟨h21, hM⟩
  · obtain ⟨v22, h23, hM⟩ := bind_some hM
    obtain ⟨v24, h25, hM⟩ := bind_some hM
    obtain ⟨v26, h27, hM⟩ := bind_some hM
    rcases cond_cases hM with ⟨h28, hM⟩ | ⟨h28, hM⟩
    · rcases cond_cases hM with ⟨h29, hM⟩ | ⟨h29, hM⟩
      · obtain ⟨v30, h31, hM⟩ := bind_some hM
        obtain ⟨v32, h33, hM⟩ := bind_some hM
        obtain ⟨v34, h35, hM⟩ := bind_some hM
        obtain ⟨v36, h37, hM⟩ := bind_some hM
        have hE : some (Ctl.next (v34.2.b, v34.2.i, v34.2.h, v36, w64 (s9 - 1))) = some c1 := hM
        have hE := Option.some.inj hE
        subst hE
        exact pc R 9999 [.as 17 true, .call true [900] (.o (.c (.v (.agg (Leg.enc v22.1).toArray)))) [(900, .box 87 [.rs 1 (v22.2.b.map encU8), .v (.int .i64 v22.2.i), .v (.int .i64 v22.2.h)])] [], .new 4, .new 5, .new 6, .nm (v24.map Leg.enc), .call true [900] (.o (.c (.v (.bool v26.1)))) [(900, .box 87 [.rs 1 (v26.2.b.map encU8), .v (.int .i64 v26.2.i), .v (.int .i64 v26.2.h)])] [], .as 30 true, .ln (v24.length), .as 36 true, .ln (v24.length), .ix (Leg.enc v30), .ln (v24.length), .ix (Leg.enc v32), .xo [[], [], [], [.call true [900] (.o (.c (.v (.int .i64 v34.1)))) [(900, .box 87 [.rs 1 (v34.2.b.map encU8), .v (.int .i64 v34.2.i), .v (.int .i64 v34.2.h)])] []], [], [], [], [], []] [.keep [0, 1, 4, 5, 6, 7] [900, 0, 1, 6, 4]] (spec_l3Draw_x4 a1 v1 s9 v22 v24 v30 v32 v34), .new 7, .new 8, .nm (v36.map Leg.enc)] [.sw 8 2, .keep [0, 1, 4, 5, 6] [900, 0, 1, 2]] (And.intro h21 (And.intro (And.intro (con_sw 900 900 (spec_l3Leg_ok (l1Cur.mk s5 s6 s7) v22 h23)) (rfl : ([900] : List Nat) = [900])) (And.intro (ap_ok Leg.enc h25) (And.intro (And.intro (con_sw 900 900 (spec_l1Once_ok v22.2 3 v26 h27)) (rfl : ([900] : List Nat) = [900])) (And.intro h28 (And.intro (lenm Leg.enc v24) (And.intro h29 (And.intro (lenm Leg.enc v24) (And.intro (gi_lt Leg.enc h31) (And.intro ((gi_map Leg.enc h31).2) (And.intro (lenm Leg.enc v24) (And.intro (gi_lt Leg.enc h33) (And.intro ((gi_map Leg.enc h33).2) (And.intro (And.intro (con_sw 900 900 (spec_l1Below_ok v26.2 20 v34 h35)) (rfl : ([900] : List Nat) = [900])) (And.intro (rfl : (spec_l3Draw_x4 a1 v1 s9 v22 v24 v30 v32 v34) = (spec_l3Draw_x4 a1 v1 s9 v22 v24 v30 v32 v34)) (And.intro (And.intro (con_sw 900 900 (spec_l1Below_ok v26.2 20 v34 h35)) (rfl : ([900] : List Nat) = [900])) (And.intro (rfl : (spec_l3Draw_x4 a1 v1 s9 v22 v24 v30 v32 v34) = (spec_l3Draw_x4 a1 v1 s9 v22 v24 v30 v32 v34)) (And.intro (ap_ok Leg.enc h37) True.intro)))))))))))))))))) (by kernel_rfl) (li (Sf := spec_l3Draw_L1_S a1 v1) (M := Mk (spec_l3Draw_L1 a1) (spec_l3Draw_L1_k v1) r) (k := [.blk 0, .code (cAt Try.f41 [1, 1, 1])]) (Nat.lt_succ_self m1) hK1)
      · have hE : some (Ctl.next (v26.2.b, v26.2.i, v26.2.h, v24, w64 (s9 - 1))) = some c1 := hM
        have hE := Option.some.inj hE
        subst hE
        exact pc R 9999 [.as 17 true, .call true [900] (.o (.c (.v (.agg (Leg.enc v22.1).toArray)))) [(900, .box 87 [.rs 1 (v22.2.b.map encU8), .v (.int .i64 v22.2.i), .v (.int .i64 v22.2.h)])] [], .new 4, .new 5, .new 6, .nm (v24.map Leg.enc), .call true [900] (.o (.c (.v (.bool v26.1)))) [(900, .box 87 [.rs 1 (v26.2.b.map encU8), .v (.int .i64 v26.2.i), .v (.int .i64 v26.2.h)])] [], .as 30 true, .ln (v24.length), .as 36 false] [.sw 6 2, .keep [0, 1, 4, 5, 6] [900, 0, 1, 2]] (And.intro h21 (And.intro (And.intro (con_sw 900 900 (spec_l3Leg_ok (l1Cur.mk s5 s6 s7) v22 h23)) (rfl : ([900] : List Nat) = [900])) (And.intro (ap_ok Leg.enc h25) (And.intro (And.intro (con_sw 900 900 (spec_l1Once_ok v22.2 3 v26 h27)) (rfl : ([900] : List Nat) = [900])) (And.intro h28 (And.intro (lenm Leg.enc v24) (And.intro h29 True.intro))))))) (by kernel_rfl) (li (Sf := spec_l3Draw_L1_S a1 v1) (M := Mk (spec_l3Draw_L1 a1) (spec_l3Draw_L1_k v1) r) (k := [.blk 0, .code (cAt Try.f41 [1, 1, 1])]) (Nat.lt_succ_self m1) hK1)
    · have hE : some (Ctl.next (v26.2.b, v26.2.i, v26.2.h, v24, w64 (s9 - 1))) = some c1 := hM
      have hE := Option.some.inj hE
      subst hE
      exact pc R 9999 [.as 17 true, .call true [900] (.o (.c (.v (.agg (Leg.enc v22.1).toArray)))) [(900, .box 87 [.rs 1 (v22.2.b.map encU8), .v (.int .i64 v22.2.i), .v (.int .i64 v22.2.h)])] [], .new 4, .new 5, .new 6, .nm (v24.map Leg.enc), .call true [900] (.o (.c (.v (.bool v26.1)))) [(900, .box 87 [.rs 1 (v26.2.b.map encU8), .v (.int .i64 v26.2.i), .v (.int .i64 v26.2.h)])] [], .as 30 false] [.sw 6 2, .keep [0, 1, 4, 5, 6] [900, 0, 1, 2]] (And.intro h21 (And.intro (And.intro (con_sw 900 900 (spec_l3Leg_ok (l1Cur.mk s5 s6 s7) v22 h23)) (rfl : ([900] : List Nat) = [900])) (And.intro (ap_ok Leg.enc h25) (And.intro (And.intro (con_sw 900 900 (spec_l1Once_ok v22.2 3 v26 h27)) (rfl : ([900] : List Nat) = [900])) (And.intro h28 True.intro))))) (by kernel_rfl) (li (Sf := spec_l3Draw_L1_S a1 v1) (M := Mk (spec_l3Draw_L1 a1) (spec_l3Draw_L1_k v1) r) (k := [.blk 0, .code (cAt Try.f41 [1, 1, 1])]) (Nat.lt_succ_self m1) hK1)
  · have hE : some (Ctl.brk (s5, s6, s7, s8)) = some c1 := hM
    have hE := Option.some.inj hE
    subst hE
    exact pc R 5 [.as 17 false] [.keep [0, 4, 5] [900, 0, 1, 2]] (And.intro h21 True.intro) (by kernel_rfl) (K1 s5 s6 s7 s8 hK1)

-- loop.example/g03014/spec.l3Any
def spec_l3Any_x1 (v1 : (Network × l1Cur)) (v3 : (Int × l1Cur)) (v8 : (Int × l1Cur)) (v10 : Leg) : St := ⟨[(0, .o (.c (.ptr 900 0))), (2, .o (.c (.ptr 0 0))), (3, .o (.c (.ptr 3 0)))], [(900, .box 87 [.rs 1 (v8.2.b.map encU8), .v (.int .i64 v8.2.i), .v (.int .i64 v8.2.h)]), (0, .box 27 [.v (.slice none 0 0), .v (.slice none 0 0), .v (.int .i64 0)]), (3, .box 27 [.sl 1, .sl 2, .v (.int .i64 v1.1.Change)]), (1, .row 64 6 ((List.set v1.1.Legs (Int.toNat v3.1) (Leg.mk v10.From v10.To v8.1 v10.Takes v10.Days v10.Room)).map Leg.enc)), (2, .row 3 1 (v1.1.Off.map encI))]⟩
def spec_l3Any_x2 (v1 : (Network × l1Cur)) (v3 : (Int × l1Cur)) (v13 : (Int × l1Cur)) (v15 : Leg) : St := ⟨[(0, .o (.c (.ptr 900 0))), (2, .o (.c (.ptr 0 0))), (3, .o (.c (.ptr 3 0)))], [(900, .box 87 [.rs 1 (v13.2.b.map encU8), .v (.int .i64 v13.2.i), .v (.int .i64 v13.2.h)]), (0, .box 27 [.v (.slice none 0 0), .v (.slice none 0 0), .v (.int .i64 0)]), (3, .box 27 [.sl 1, .sl 2, .v (.int .i64 v1.1.Change)]), (1, .row 64 6 ((List.set v1.1.Legs (Int.toNat v3.1) (Leg.mk v15.From v15.To v15.Start v13.1 v15.Days v15.Room)).map Leg.enc)), (2, .row 3 1 (v1.1.Off.map encI))]⟩
def spec_l3Any_x3 (v1 : (Network × l1Cur)) (v3 : (Int × l1Cur)) (v18 : (Int × l1Cur)) (v20 : Leg) : St := ⟨[(0, .o (.c (.ptr 900 0))), (2, .o (.c (.ptr 0 0))), (3, .o (.c (.ptr 3 0)))], [(900, .box 87 [.rs 1 (v18.2.b.map encU8), .v (.int .i64 v18.2.i), .v (.int .i64 v18.2.h)]), (0, .box 27 [.v (.slice none 0 0), .v (.slice none 0 0), .v (.int .i64 0)]), (3, .box 27 [.sl 1, .sl 2, .v (.int .i64 v1.1.Change)]), (1, .row 64 6 ((List.set v1.1.Legs (Int.toNat v3.1) (Leg.mk v20.From v20.To v20.Start v20.Takes v18.1 v20.Room)).map Leg.enc)), (2, .row 3 1 (v1.1.Off.map encI))]⟩
def spec_l3Any_x4 (v1 : (Network × l1Cur)) (v23 : (Int × l1Cur)) (v25 : (List Int)) : St := ⟨[(0, .o (.c (.ptr 900 0))), (2, .o (.c (.ptr 0 0))), (3, .o (.c (.ptr 3 0)))], [(900, .box 87 [.rs 1 (v23.2.b.map encU8), .v (.int .i64 v23.2.i), .v (.int .i64 v23.2.h)]), (0, .box 27 [.v (.slice none 0 0), .v (.slice none 0 0), .v (.int .i64 0)]), (3, .box 27 [.sl 1, .sl 9, .v (.int .i64 v1.1.Change)]), (1, .row 64 6 (v1.1.Legs.map Leg.enc)), (9, .row 3 1 (v25.map encI))]⟩
def spec_l3Any_x8 (v1 : (Network × l1Cur)) (v38 : (Int × l1Cur)) (v40 : (List Leg)) : St := ⟨[(0, .o (.c (.ptr 900 0))), (2, .o (.c (.ptr 0 0))), (3, .o (.c (.ptr 3 0)))], [(900, .box 87 [.rs 1 (v38.2.b.map encU8), .v (.int .i64 v38.2.i), .v (.int .i64 v38.2.h)]), (0, .box 27 [.v (.slice none 0 0), .v (.slice none 0 0), .v (.int .i64 0)]), (3, .box 27 [.rs 6 (v40.map Leg.enc), .sl 2, .v (.int .i64 v1.1.Change)]), (2, .row 3 1 (v1.1.Off.map encI))]⟩
def spec_l3Any_x9 (v1 : (Network × l1Cur)) (v3 : (Int × l1Cur)) (v5 : (Int × l1Cur)) (v45 : (List Leg)) : St := ⟨[(0, .o (.c (.ptr 900 0))), (2, .o (.c (.ptr 0 0))), (3, .o (.c (.ptr 3 0))), (4, .o (.c (.v (.int .i64 v3.1))))], [(900, .box 87 [.rs 1 (v5.2.b.map encU8), .v (.int .i64 v5.2.i), .v (.int .i64 v5.2.h)]), (0, .box 27 [.v (.slice none 0 0), .v (.slice none 0 0), .v (.int .i64 0)]), (3, .box 27 [.sl 13, .sl 2, .v (.int .i64 v1.1.Change)]), (13, .row 64 6 (v45.map Leg.enc)), (2, .row 3 1 (v1.1.Off.map encI))]⟩
def spec_l3Any_L1_b (v3 : (Int × l1Cur)) (s36 : (List Leg)) : Option (Ctl (List Leg) (List Leg) (Network × l1Cur)) :=
  bif (decide ((s36.length : Int) < 21)) then
  (gi s36 v3.1).bind fun v43 =>
  (ap 64 s36 ([v43] : List Leg)).bind fun v45 =>
  some (.next v45)
  else
  some (.brk s36)
def spec_l3Any_L1 (v3 : (Int × l1Cur)) (s : (List Leg)) : Option (Ctl (List Leg) (List Leg) (Network × l1Cur)) := spec_l3Any_L1_b v3 s
def spec_l3Any_L1_s (v1 : (Network × l1Cur)) (v3 : (Int × l1Cur)) (v5 : (Int × l1Cur)) (s36 : (List Leg)) : St := ⟨[(0, .o (.c (.ptr 900 0))), (2, .o (.c (.ptr 0 0))), (3, .o (.c (.ptr 3 0))), (4, .o (.c (.v (.int .i64 v3.1))))], [(900, .box 87 [.rs 1 (v5.2.b.map encU8), .v (.int .i64 v5.2.i), .v (.int .i64 v5.2.h)]), (0, .box 27 [.v (.slice none 0 0), .v (.slice none 0 0), .v (.int .i64 0)]), (3, .box 27 [.sl 1, .sl 2, .v (.int .i64 v1.1.Change)]), (1, .row 64 6 (s36.map Leg.enc)), (2, .row 3 1 (v1.1.Off.map encI))]⟩
def spec_l3Any_L1_S (v1 : (Network × l1Cur)) (v3 : (Int × l1Cur)) (v5 : (Int × l1Cur)) (s : (List Leg)) : St := spec_l3Any_L1_s v1 v3 v5 s
def spec_l3Any_L1_a (v1 : (Network × l1Cur)) (v5 : (Int × l1Cur)) (s37 : (List Leg)) : Option (Network × l1Cur) :=
  (spec_l1Int v5.2 ([20, 21] : List Int)).bind fun v38 =>
  (slM s37 0 v38.1).bind fun v40 =>
  some ((Network.mk v40 v1.1.Off v1.1.Change), v38.2)
def spec_l3Any_L1_k (v1 : (Network × l1Cur)) (v5 : (Int × l1Cur)) (x : ((List Leg)) ⊕ (Network × l1Cur)) : Option (Network × l1Cur) := match x with
  | .inl t => spec_l3Any_L1_a v1 v5 t
  | .inr y => some y
def spec_l3Any (a0 : l1Cur) : Option (Network × l1Cur) :=
  (spec_l3Draw a0 6).bind fun v1 =>
  (spec_l1Below v1.2 (v1.1.Legs.length : Int)).bind fun v3 =>
  (spec_l1Below v3.2 10).bind fun v5 =>
  bif (v5.1 == 0) then
  (spec_l1Int v5.2 ([(-1), 0, 1439, 1440] : List Int)).bind fun v8 =>
  (gi v1.1.Legs v3.1).bind fun v10 =>
  some ((Network.mk (List.set v1.1.Legs (Int.toNat v3.1) (Leg.mk v10.From v10.To v8.1 v10.Takes v10.Days v10.Room)) v1.1.Off v1.1.Change), v8.2)
  else
  bif (v5.1 == 1) then
  (spec_l1Int v5.2 ([0, 1, 4320, 4321] : List Int)).bind fun v13 =>
  (gi v1.1.Legs v3.1).bind fun v15 =>
  some ((Network.mk (List.set v1.1.Legs (Int.toNat v3.1) (Leg.mk v15.From v15.To v15.Start v13.1 v15.Days v15.Room)) v1.1.Off v1.1.Change), v13.2)
  else
  bif (v5.1 == 2) then
  (spec_l1Int v5.2 ([0, 127, 128, (-1)] : List Int)).bind fun v18 =>
  (gi v1.1.Legs v3.1).bind fun v20 =>
  some ((Network.mk (List.set v1.1.Legs (Int.toNat v3.1) (Leg.mk v20.From v20.To v20.Start v20.Takes v18.1 v20.Room)) v1.1.Off v1.1.Change), v18.2)
  else
  bif (v5.1 == 3) then
  (spec_l1Int v5.2 ([0, 60, 61, (-1)] : List Int)).bind fun v23 =>
  (ap 8 v1.1.Off ([v23.1] : List Int)).bind fun v25 =>
  some ((Network.mk v1.1.Legs v25 v1.1.Change), v23.2)
  else
  bif (v5.1 == 4) then
  (spec_l1Int v5.2 ([(-1), 240, 241] : List Int)).bind fun v28 =>
  some ((Network.mk v1.1.Legs v1.1.Off v28.1), v28.2)
  else
  bif (v5.1 == 5) then
  (gi v1.1.Legs v3.1).bind fun v31 =>
  (gi v1.1.Legs v3.1).bind fun v33 =>
  some ((Network.mk (List.set v1.1.Legs (Int.toNat v3.1) (Leg.mk v33.From v31.From v33.Start v33.Takes v33.Days v33.Room)) v1.1.Off v1.1.Change), v5.2)
  else
  bif (v5.1 == 6) then
  (loopM (spec_l3Any_L1 v3) big v1.1.Legs).bind (spec_l3Any_L1_k v1 v5)
  else
  some ((Network.mk v1.1.Legs v1.1.Off v1.1.Change), v5.2)
theorem spec_l3Any_ok (a0 : l1Cur) (r : Network × l1Cur) (hM : spec_l3Any a0 = some r) :
    Con Try.prog 65 [.c (.ptr 900 0)] [(900, .box 87 [.rs 1 (a0.b.map encU8), .v (.int .i64 a0.i), .v (.int .i64 a0.h)])] (.o (.agg [.rs 6 (r.1.Legs.map Leg.enc), .rs 1 (r.1.Off.map encI), .v (.int .i64 r.1.Change)])) [(900, .box 87 [.rs 1 (r.2.b.map encU8), .v (.int .i64 r.2.i), .v (.int .i64 r.2.h)])] [] := by
  unfold spec_l3Any at hM
  refine cn (N := 97) (pids := [900]) Try_mixed Try.func65 (by kernel_rfl) (by kernel_rfl) (by kernel_rfl) rfl fun ρ g w R => ?_
  obtain ⟨v1, h2, hM⟩ := bind_some hM
  obtain ⟨v3, h4, hM⟩ := bind_some hM
  obtain ⟨v5, h6, hM⟩ := bind_some hM
  rcases cond_cases hM with ⟨h7, hM⟩ | ⟨h7, hM⟩
  · obtain ⟨v8, h9, hM⟩ := bind_some hM
    obtain ⟨v10, h11, hM⟩ := bind_some hM
    have hE : some ((Network.mk (List.set v1.1.Legs (Int.toNat v3.1) (Leg.mk v10.From v10.To v8.1 v10.Takes v10.Days v10.Room)) v1.1.Off v1.1.Change), v8.2) = some r := hM
    have hE := Option.some.inj hE
    subst hE
    exact pr R 9999 [.new 0, .call true [900] (.o (.agg [.sl 1, .sl 2, .v (.int .i64 v1.1.Change)])) [(900, .box 87 [.rs 1 (v1.2.b.map encU8), .v (.int .i64 v1.2.i), .v (.int .i64 v1.2.h)])] [(1, .row 64 6 (v1.1.Legs.map Leg.enc)), (2, .row 3 1 (v1.1.Off.map encI))], .new 3, .ln (v1.1.Legs.length), .call true [900] (.o (.c (.v (.int .i64 v3.1)))) [(900, .box 87 [.rs 1 (v3.2.b.map encU8), .v (.int .i64 v3.2.i), .v (.int .i64 v3.2.h)])] [], .call true [900] (.o (.c (.v (.int .i64 v5.1)))) [(900, .box 87 [.rs 1 (v5.2.b.map encU8), .v (.int .i64 v5.2.i), .v (.int .i64 v5.2.h)])] [], .as 14 true, .xo [[], [], [], [], [.new 4], [.ad (.keep [0, 2, 3, 4, 5, 6, 7, 8, 9, 10, 11, 12, 13, 14, 15, 16, 17, 18, 19, 20, 21, 22, 23] [900, 4, 0, 1, 2, 3, 5, 6, 7, 8, 9, 10, 11, 12, 13, 14, 15, 16, 17, 18, 19, 20, 21, 22, 23, 24, 25, 26, 27, 28, 29, 30, 31, 32, 33, 34, 35, 36, 37, 38, 39, 40, 41, 42, 43, 44]), .call true [900, 4] (.o (.c (.v (.int .i64 v8.1)))) [(900, .box 87 [.rs 1 (v8.2.b.map encU8), .v (.int .i64 v8.2.i), .v (.int .i64 v8.2.h)]), (4, .row 3 1 (([(-1), 0, 1439, 1440] : List Int).map encI))] []], [], [], [.ix (Leg.enc v10), .nm ((List.set v1.1.Legs (Int.toNat v3.1) (Leg.mk v10.From v10.To v8.1 v10.Takes v10.Days v10.Room)).map Leg.enc)]] [.keep [0, 2, 3] [900, 0, 3, 1, 2]] (spec_l3Any_x1 v1 v3 v8 v10)] [.fz 1, .fz 2] [900] [] (And.intro (And.intro (con_sw 900 900 (con_sw 1001 2 (con_sw 1000 1 (spec_l3Draw_ok a0 6 v1 h2)))) (rfl : ([900] : List Nat) = [900])) (And.intro (lenm Leg.enc v1.1.Legs) (And.intro (And.intro (con_sw 900 900 (spec_l1Below_ok v1.2 (v1.1.Legs.length : Int) v3 h4)) (rfl : ([900] : List Nat) = [900])) (And.intro (And.intro (con_sw 900 900 (spec_l1Below_ok v3.2 10 v5 h6)) (rfl : ([900] : List Nat) = [900])) (And.intro h7 (And.intro (And.intro (con_sw 901 4 (con_sw 900 900 (spec_l1Int_ok v5.2 ([(-1), 0, 1439, 1440] : List Int) v8 h9))) (rfl : ([900, 4] : List Nat) = [900, 4])) (And.intro (gi_lt Leg.enc h11) (And.intro (And.intro (gi_map Leg.enc h11).2 (set_map Leg.enc v1.1.Legs (Int.toNat v3.1) (Leg.mk v10.From v10.To v8.1 v10.Takes v10.Days v10.Room))) (And.intro (rfl : (spec_l3Any_x1 v1 v3 v8 v10) = (spec_l3Any_x1 v1 v3 v8 v10)) (And.intro (And.intro (con_sw 901 4 (con_sw 900 900 (spec_l1Int_ok v5.2 ([(-1), 0, 1439, 1440] : List Int) v8 h9))) (rfl : ([900, 4] : List Nat) = [900, 4])) (And.intro (gi_lt Leg.enc h11) (And.intro (And.intro (gi_map Leg.enc h11).2 (set_map Leg.enc v1.1.Legs (Int.toNat v3.1) (Leg.mk v10.From v10.To v8.1 v10.Takes v10.Days v10.Room))) (And.intro (rfl : (spec_l3Any_x1 v1 v3 v8 v10) = (spec_l3Any_x1 v1 v3 v8 v10)) (And.intro (And.intro (con_sw 901 4 (con_sw 900 900 (spec_l1Int_ok v5.2 ([(-1), 0, 1439, 1440] : List Int) v8 h9))) (rfl : ([900, 4] : List Nat) = [900, 4])) (And.intro (gi_lt Leg.enc h11) (And.intro (And.intro (gi_map Leg.enc h11).2 (set_map Leg.enc v1.1.Legs (Int.toNat v3.1) (Leg.mk v10.From v10.To v8.1 v10.Takes v10.Days v10.Room))) (And.intro (rfl : (spec_l3Any_x1 v1 v3 v8 v10) = (spec_l3Any_x1 v1 v3 v8 v10)) True.intro))))))))))))))))) (by kernel_rfl)
  · rcases cond_cases hM with ⟨h12, hM⟩ | ⟨h12, hM⟩
    · obtain ⟨v13, h14, hM⟩ := bind_some hM
      obtain ⟨v15, h16, hM⟩ := bind_some hM
      have hE : some ((Network.mk (List.set v1.1.Legs (Int.toNat v3.1) (Leg.mk v15.From v15.To v15.Start v13.1 v15.Days v15.Room)) v1.1.Off v1.1.Change), v13.2) = some r := hM
      have hE := Option.some.inj hE
      subst hE
      exact pr R 9999 [.new 0, .call true [900] (.o (.agg [.sl 1, .sl 2, .v (.int .i64 v1.1.Change)])) [(900, .box 87 [.rs 1 (v1.2.b.map encU8), .v (.int .i64 v1.2.i), .v (.int .i64 v1.2.h)])] [(1, .row 64 6 (v1.1.Legs.map Leg.enc)), (2, .row 3 1 (v1.1.Off.map encI))], .new 3, .ln (v1.1.Legs.length), .call true [900] (.o (.c (.v (.int .i64 v3.1)))) [(900, .box 87 [.rs 1 (v3.2.b.map encU8), .v (.int .i64 v3.2.i), .v (.int .i64 v3.2.h)])] [], .call true [900] (.o (.c (.v (.int .i64 v5.1)))) [(900, .box 87 [.rs 1 (v5.2.b.map encU8), .v (.int .i64 v5.2.i), .v (.int .i64 v5.2.h)])] [], .as 14 false, .as 24 true, .xo [[], [], [], [], [.new 5], [.ad (.keep [0, 2, 3, 4, 5, 6, 7, 8, 9, 10, 11, 12, 13, 14, 15, 24, 25, 26, 27, 28, 29, 30, 31, 32, 33] [900, 5, 0, 1, 2, 3, 4, 6, 7, 8, 9, 10, 11, 12, 13, 14, 15, 16, 17, 18, 19, 20, 21, 22, 23, 24, 25, 26, 27, 28, 29, 30, 31, 32, 33, 34, 35, 36, 37, 38, 39, 40, 41, 42, 43, 44, 45]), .call true [900, 5] (.o (.c (.v (.int .i64 v13.1)))) [(900, .box 87 [.rs 1 (v13.2.b.map encU8), .v (.int .i64 v13.2.i), .v (.int .i64 v13.2.h)]), (5, .row 3 1 (([0, 1, 4320, 4321] : List Int).map encI))] []], [], [], [.ix (Leg.enc v15), .nm ((List.set v1.1.Legs (Int.toNat v3.1) (Leg.mk v15.From v15.To v15.Start v13.1 v15.Days v15.Room)).map Leg.enc)]] [.keep [0, 2, 3] [900, 0, 3, 1, 2]] (spec_l3Any_x2 v1 v3 v13 v15)] [.fz 1, .fz 2] [900] [] (And.intro (And.intro (con_sw 900 900 (con_sw 1001 2 (con_sw 1000 1 (spec_l3Draw_ok a0 6 v1 h2)))) (rfl : ([900] : List Nat) = [900])) (And.intro (lenm Leg.enc v1.1.Legs) (And.intro (And.intro (con_sw 900 900 (spec_l1Below_ok v1.2 (v1.1.Legs.length : Int) v3 h4)) (rfl : ([900] : List Nat) = [900])) (And.intro (And.intro (con_sw 900 900 (spec_l1Below_ok v3.2 10 v5 h6)) (rfl : ([900] : List Nat) = [900])) (And.intro h7 (And.intro h12 (And.intro (And.intro (con_sw 901 5 (con_sw 900 900 (spec_l1Int_ok v5.2 ([0, 1, 4320, 4321] : List Int) v13 h14))) (rfl : ([900, 5] : List Nat) = [900, 5])) (And.intro (gi_lt Leg.enc h16) (And.intro (And.intro (gi_map Leg.enc h16).2 (set_map Leg.enc v1.1.Legs (Int.toNat v3.1) (Leg.mk v15.From v15.To v15.Start v13.1 v15.Days v15.Room))) (And.intro (rfl : (spec_l3Any_x2 v1 v3 v13 v15) = (spec_l3Any_x2 v1 v3 v13 v15)) (And.intro (And.intro (con_sw 901 5 (con_sw 900 900 (spec_l1Int_ok v5.2 ([0, 1, 4320, 4321] : List Int) v13 h14))) (rfl : ([900, 5] : List Nat) = [900, 5])) (And.intro (gi_lt Leg.enc h16) (And.intro (And.intro (gi_map Leg.enc h16).2 (set_map Leg.enc v1.1.Legs (Int.toNat v3.1) (Leg.mk v15.From v15.To v15.Start v13.1 v15.Days v15.Room))) (And.intro (rfl : (spec_l3Any_x2 v1 v3 v13 v15) = (spec_l3Any_x2 v1 v3 v13 v15)) (And.intro (And.intro (con_sw 901 5 (con_sw 900 900 (spec_l1Int_ok v5.2 ([0, 1, 4320, 4321] : List Int) v13 h14))) (rfl : ([900, 5] : List Nat) = [900, 5])) (And.intro (gi_lt Leg.enc h16) (And.intro (And.intro (gi_map Leg.enc h16).2 (set_map Leg.enc v1.1.Legs (Int.toNat v3.1) (Leg.mk v15.From v15.To v15.Start v13.1 v15.Days v15.Room))) (And.intro (rfl : (spec_l3Any_x2 v1 v3 v13 v15) = (spec_l3Any_x2 v1 v3 v13 v15)) True.intro)))))))))))))))))) (by kernel_rfl)
    · rcases cond_cases hM with ⟨h17, hM⟩ | ⟨h17, hM⟩
      · obtain ⟨v18, h19, hM⟩ := bind_some hM
        obtain ⟨v20, h21, hM⟩ := bind_some hM
        have hE : some ((Network.mk (List.set v1.1.Legs (Int.toNat v3.1) (Leg.mk v20.From v20.To v20.Start v20.Takes v18.1 v20.Room)) v1.1.Off v1.1.Change), v18.2) = some r := hM
        have hE := Option.some.inj hE
        subst hE
        exact pr R 9999 [.new 0, .call true [900] (.o (.agg [.sl 1, .sl 2, .v (.int .i64 v1.1.Change)])) [(900, .box 87 [.rs 1 (v1.2.b.map encU8), .v (.int .i64 v1.2.i), .v (.int .i64 v1.2.h)])] [(1, .row 64 6 (v1.1.Legs.map Leg.enc)), (2, .row 3 1 (v1.1.Off.map encI))], .new 3, .ln (v1.1.Legs.length), .call true [900] (.o (.c (.v (.int .i64 v3.1)))) [(900, .box 87 [.rs 1 (v3.2.b.map encU8), .v (.int .i64 v3.2.i), .v (.int .i64 v3.2.h)])] [], .call true [900] (.o (.c (.v (.int .i64 v5.1)))) [(900, .box 87 [.rs 1 (v5.2.b.map encU8), .v (.int .i64 v5.2.i), .v (.int .i64 v5.2.h)])] [], .as 14 false, .as 24 false, .as 34 true, .xo [[], [], [], [], [.new 6], [.ad (.keep [0, 2, 3, 4, 5, 6, 7, 8, 9, 10, 11, 12, 13, 14, 15, 24, 25, 34, 35, 36, 37, 38, 39, 40, 41, 42, 43] [900, 6, 0, 1, 2, 3, 4, 5, 7, 8, 9, 10, 11, 12, 13, 14, 15, 16, 17, 18, 19, 20, 21, 22, 23, 24, 25, 26, 27, 28, 29, 30, 31, 32, 33, 34, 35, 36, 37, 38, 39, 40, 41, 42, 43, 44, 45, 46]), .call true [900, 6] (.o (.c (.v (.int .i64 v18.1)))) [(900, .box 87 [.rs 1 (v18.2.b.map encU8), .v (.int .i64 v18.2.i), .v (.int .i64 v18.2.h)]), (6, .row 3 1 (([0, 127, 128, (-1)] : List Int).map encI))] []], [], [], [.ix (Leg.enc v20), .nm ((List.set v1.1.Legs (Int.toNat v3.1) (Leg.mk v20.From v20.To v20.Start v20.Takes v18.1 v20.Room)).map Leg.enc)]] [.keep [0, 2, 3] [900, 0, 3, 1, 2]] (spec_l3Any_x3 v1 v3 v18 v20)] [.fz 1, .fz 2] [900] [] (And.intro (And.intro (con_sw 900 900 (con_sw 1001 2 (con_sw 1000 1 (spec_l3Draw_ok a0 6 v1 h2)))) (rfl : ([900] : List Nat) = [900])) (And.intro (lenm Leg.enc v1.1.Legs) (And.intro (And.intro (con_sw 900 900 (spec_l1Below_ok v1.2 (v1.1.Legs.length : Int) v3 h4)) (rfl : ([900] : List Nat) = [900])) (And.intro (And.intro (con_sw 900 900 (spec_l1Below_ok v3.2 10 v5 h6)) (rfl : ([900] : List Nat) = [900])) (And.intro h7 (And.intro h12 (And.intro h17 (And.intro (And.intro (con_sw 901 6 (con_sw 900 900 (spec_l1Int_ok v5.2 ([0, 127, 128, (-1)] : List Int) v18 h19))) (rfl : ([900, 6] : List Nat) = [900, 6])) (And.intro (gi_lt Leg.enc h21) (And.intro (And.intro (gi_map Leg.enc h21).2 (set_map Leg.enc v1.1.Legs (Int.toNat v3.1) (Leg.mk v20.From v20.To v20.Start v20.Takes v18.1 v20.Room))) (And.intro (rfl : (spec_l3Any_x3 v1 v3 v18 v20) = (spec_l3Any_x3 v1 v3 v18 v20)) (And.intro (And.intro (con_sw 901 6 (con_sw 900 900 (spec_l1Int_ok v5.2 ([0, 127, 128, (-1)] : List Int) v18 h19))) (rfl : ([900, 6] : List Nat) = [900, 6])) (And.intro (gi_lt Leg.enc h21) (And.intro (And.intro (gi_map Leg.enc h21).2 (set_map Leg.enc v1.1.Legs (Int.toNat v3.1) (Leg.mk v20.From v20.To v20.Start v20.Takes v18.1 v20.Room))) (And.intro (rfl : (spec_l3Any_x3 v1 v3 v18 v20) = (spec_l3Any_x3 v1 v3 v18 v20)) (And.intro (And.intro (con_sw 901 6 (con_sw 900 900 (spec_l1Int_ok v5.2 ([0, 127, 128, (-1)] : List Int) v18 h19))) (rfl : ([900, 6] : List Nat) = [900, 6])) (And.intro (gi_lt Leg.enc h21) (And.intro (And.intro (gi_map Leg.enc h21).2 (set_map Leg.enc v1.1.Legs (Int.toNat v3.1) (Leg.mk v20.From v20.To v20.Start v20.Takes v18.1 v20.Room))) (And.intro (rfl : (spec_l3Any_x3 v1 v3 v18 v20) = (spec_l3Any_x3 v1 v3 v18 v20)) True.intro))))))))))))))))))) (by kernel_rfl)
      · rcases cond_cases hM with ⟨h22, hM⟩ | ⟨h22, hM⟩
        · obtain ⟨v23, h24, hM⟩ := bind_some hM
          obtain ⟨v25, h26, hM⟩ := bind_some hM
          have hE : some ((Network.mk v1.1.Legs v25 v1.1.Change), v23.2) = some r := hM
          have hE := Option.some.inj hE
          subst hE
          exact pr R 9999 [.new 0, .call true [900] (.o (.agg [.sl 1, .sl 2, .v (.int .i64 v1.1.Change)])) [(900, .box 87 [.rs 1 (v1.2.b.map encU8), .v (.int .i64 v1.2.i), .v (.int .i64 v1.2.h)])] [(1, .row 64 6 (v1.1.Legs.map Leg.enc)), (2, .row 3 1 (v1.1.Off.map encI))], .new 3, .ln (v1.1.Legs.length), .call true [900] (.o (.c (.v (.int .i64 v3.1)))) [(900, .box 87 [.rs 1 (v3.2.b.map encU8), .v (.int .i64 v3.2.i), .v (.int .i64 v3.2.h)])] [], .call true [900] (.o (.c (.v (.int .i64 v5.1)))) [(900, .box 87 [.rs 1 (v5.2.b.map encU8), .v (.int .i64 v5.2.i), .v (.int .i64 v5.2.h)])] [], .as 14 false, .as 24 false, .as 34 false, .as 44 true, .xo [[], [], [], [.new 7], [.ad (.keep [0, 2, 3, 4, 5, 6, 7, 8, 9, 10, 11, 12, 13, 14, 15, 24, 25, 34, 35, 44, 45, 46, 47, 48, 49, 50, 51, 52, 53] [900, 7, 0, 1, 2, 3, 4, 5, 6, 8, 9, 10, 11, 12, 13, 14, 15, 16, 17, 18, 19, 20, 21, 22, 23, 24, 25, 26, 27, 28, 29, 30, 31, 32, 33, 34, 35, 36, 37, 38, 39, 40, 41, 42, 43, 44, 45, 46, 47]), .call true [900, 7] (.o (.c (.v (.int .i64 v23.1)))) [(900, .box 87 [.rs 1 (v23.2.b.map encU8), .v (.int .i64 v23.2.i), .v (.int .i64 v23.2.h)]), (7, .row 3 1 (([0, 60, 61, (-1)] : List Int).map encI))] []], [.new 8], [.new 9, .nm (v25.map encI)], [], []] [.keep [0, 2, 3] [900, 0, 3, 1, 9]] (spec_l3Any_x4 v1 v23 v25)] [.fz 1, .fz 9] [900] [] (And.intro (And.intro (con_sw 900 900 (con_sw 1001 2 (con_sw 1000 1 (spec_l3Draw_ok a0 6 v1 h2)))) (rfl : ([900] : List Nat) = [900])) (And.intro (lenm Leg.enc v1.1.Legs) (And.intro (And.intro (con_sw 900 900 (spec_l1Below_ok v1.2 (v1.1.Legs.length : Int) v3 h4)) (rfl : ([900] : List Nat) = [900])) (And.intro (And.intro (con_sw 900 900 (spec_l1Below_ok v3.2 10 v5 h6)) (rfl : ([900] : List Nat) = [900])) (And.intro h7 (And.intro h12 (And.intro h17 (And.intro h22 (And.intro (And.intro (con_sw 901 7 (con_sw 900 900 (spec_l1Int_ok v5.2 ([0, 60, 61, (-1)] : List Int) v23 h24))) (rfl : ([900, 7] : List Nat) = [900, 7])) (And.intro (ap_ok encI h26) (And.intro (rfl : (spec_l3Any_x4 v1 v23 v25) = (spec_l3Any_x4 v1 v23 v25)) (And.intro (And.intro (con_sw 901 7 (con_sw 900 900 (spec_l1Int_ok v5.2 ([0, 60, 61, (-1)] : List Int) v23 h24))) (rfl : ([900, 7] : List Nat) = [900, 7])) (And.intro (ap_ok encI h26) (And.intro (rfl : (spec_l3Any_x4 v1 v23 v25) = (spec_l3Any_x4 v1 v23 v25)) (And.intro (And.intro (con_sw 901 7 (con_sw 900 900 (spec_l1Int_ok v5.2 ([0, 60, 61, (-1)] : List Int) v23 h24))) (rfl : ([900, 7] : List Nat) = [900, 7])) (And.intro (ap_ok encI h26) (And.intro (rfl : (spec_l3Any_x4 v1 v23 v25) = (spec_l3Any_x4 v1 v23 v25)) (And.intro (ap_ok encI h26) (And.intro (rfl : (spec_l3Any_x4 v1 v23 v25) = (spec_l3Any_x4 v1 v23 v25)) True.intro))))))))))))))))))) (by kernel_rfl)
        · rcases cond_cases hM with ⟨h27, hM⟩ | ⟨h27, hM⟩
          · obtain ⟨v28, h29, hM⟩ := bind_some hM
            have hE : some ((Network.mk v1.1.Legs v1.1.Off v28.1), v28.2) = some r := hM
            have hE := Option.some.inj hE
            subst hE
            exact pr R 9999 [.new 0, .call true [900] (.o (.agg [.sl 1, .sl 2, .v (.int .i64 v1.1.Change)])) [(900, .box 87 [.rs 1 (v1.2.b.map encU8), .v (.int .i64 v1.2.i), .v (.int .i64 v1.2.h)])] [(1, .row 64 6 (v1.1.Legs.map Leg.enc)), (2, .row 3 1 (v1.1.Off.map encI))], .new 3, .ln (v1.1.Legs.length), .call true [900] (.o (.c (.v (.int .i64 v3.1)))) [(900, .box 87 [.rs 1 (v3.2.b.map encU8), .v (.int .i64 v3.2.i), .v (.int .i64 v3.2.h)])] [], .call true [900] (.o (.c (.v (.int .i64 v5.1)))) [(900, .box 87 [.rs 1 (v5.2.b.map encU8), .v (.int .i64 v5.2.i), .v (.int .i64 v5.2.h)])] [], .as 14 false, .as 24 false, .as 34 false, .as 44 false, .as 54 true, .new 10, .ad (.keep [0, 2, 3, 4, 5, 6, 7, 8, 9, 10, 11, 12, 13, 14, 15, 24, 25, 34, 35, 44, 45, 54, 55, 56, 57] [900, 10, 0, 1, 2, 3]), .call true [900, 10] (.o (.c (.v (.int .i64 v28.1)))) [(900, .box 87 [.rs 1 (v28.2.b.map encU8), .v (.int .i64 v28.2.i), .v (.int .i64 v28.2.h)]), (10, .row 3 1 (([(-1), 240, 241] : List Int).map encI))] []] [.fz 1, .fz 2] [900] [] (And.intro (And.intro (con_sw 900 900 (con_sw 1001 2 (con_sw 1000 1 (spec_l3Draw_ok a0 6 v1 h2)))) (rfl : ([900] : List Nat) = [900])) (And.intro (lenm Leg.enc v1.1.Legs) (And.intro (And.intro (con_sw 900 900 (spec_l1Below_ok v1.2 (v1.1.Legs.length : Int) v3 h4)) (rfl : ([900] : List Nat) = [900])) (And.intro (And.intro (con_sw 900 900 (spec_l1Below_ok v3.2 10 v5 h6)) (rfl : ([900] : List Nat) = [900])) (And.intro h7 (And.intro h12 (And.intro h17 (And.intro h22 (And.intro h27 (And.intro (And.intro (con_sw 901 10 (con_sw 900 900 (spec_l1Int_ok v5.2 ([(-1), 240, 241] : List Int) v28 h29))) (rfl : ([900, 10] : List Nat) = [900, 10])) True.intro)))))))))) (by kernel_rfl)
          · rcases cond_cases hM with ⟨h30, hM⟩ | ⟨h30, hM⟩
            · obtain ⟨v31, h32, hM⟩ := bind_some hM
              obtain ⟨v33, h34, hM⟩ := bind_some hM
              have hE : some ((Network.mk (List.set v1.1.Legs (Int.toNat v3.1) (Leg.mk v33.From v31.From v33.Start v33.Takes v33.Days v33.Room)) v1.1.Off v1.1.Change), v5.2) = some r := hM
              have hE := Option.some.inj hE
              subst hE
              exact pr R 9999 [.new 0, .call true [900] (.o (.agg [.sl 1, .sl 2, .v (.int .i64 v1.1.Change)])) [(900, .box 87 [.rs 1 (v1.2.b.map encU8), .v (.int .i64 v1.2.i), .v (.int .i64 v1.2.h)])] [(1, .row 64 6 (v1.1.Legs.map Leg.enc)), (2, .row 3 1 (v1.1.Off.map encI))], .new 3, .ln (v1.1.Legs.length), .call true [900] (.o (.c (.v (.int .i64 v3.1)))) [(900, .box 87 [.rs 1 (v3.2.b.map encU8), .v (.int .i64 v3.2.i), .v (.int .i64 v3.2.h)])] [], .call true [900] (.o (.c (.v (.int .i64 v5.1)))) [(900, .box 87 [.rs 1 (v5.2.b.map encU8), .v (.int .i64 v5.2.i), .v (.int .i64 v5.2.h)])] [], .as 14 false, .as 24 false, .as 34 false, .as 44 false, .as 54 false, .as 60 true, .ix (Leg.enc v31), .ix (Leg.enc v33), .nm ((List.set v1.1.Legs (Int.toNat v3.1) (Leg.mk v33.From v31.From v33.Start v33.Takes v33.Days v33.Room)).map Leg.enc)] [.fz 1, .fz 2] [900] [] (And.intro (And.intro (con_sw 900 900 (con_sw 1001 2 (con_sw 1000 1 (spec_l3Draw_ok a0 6 v1 h2)))) (rfl : ([900] : List Nat) = [900])) (And.intro (lenm Leg.enc v1.1.Legs) (And.intro (And.intro (con_sw 900 900 (spec_l1Below_ok v1.2 (v1.1.Legs.length : Int) v3 h4)) (rfl : ([900] : List Nat) = [900])) (And.intro (And.intro (con_sw 900 900 (spec_l1Below_ok v3.2 10 v5 h6)) (rfl : ([900] : List Nat) = [900])) (And.intro h7 (And.intro h12 (And.intro h17 (And.intro h22 (And.intro h27 (And.intro h30 (And.intro (gi_lt Leg.enc h32) (And.intro ((gi_map Leg.enc h32).2) (And.intro (gi_lt Leg.enc h34) (And.intro (And.intro (gi_map Leg.enc h34).2 (set_map Leg.enc v1.1.Legs (Int.toNat v3.1) (Leg.mk v33.From v31.From v33.Start v33.Takes v33.Days v33.Room))) True.intro)))))))))))))) (by kernel_rfl)
            · rcases cond_cases hM with ⟨h35, hM⟩ | ⟨h35, hM⟩
              · have K1 : ∀ (s37 : (List Leg)), spec_l3Any_L1_a v1 v5 s37 = some r → Gr R [.code (cAt Try.f65 [1, 1, 1, 0, 1, 0, 1, 1, 1, 1, 1, 1, 1, 1, 1, 1, 1, 1, 1, 0, 1]), .blk 0, .code (cAt Try.f65 [1, 1, 1, 1])] (⟨[(0, .o (.c (.ptr 900 0))), (2, .o (.c (.ptr 0 0))), (3, .o (.c (.ptr 3 0)))], [(900, .box 87 [.rs 1 (v5.2.b.map encU8), .v (.int .i64 v5.2.i), .v (.int .i64 v5.2.h)]), (0, .box 27 [.v (.slice none 0 0), .v (.slice none 0 0), .v (.int .i64 0)]), (3, .box 27 [.sl 1, .sl 2, .v (.int .i64 v1.1.Change)]), (1, .row 64 6 (s37.map Leg.enc)), (2, .row 3 1 (v1.1.Off.map encI))]⟩) := by
                  intro s37 hM
                  unfold spec_l3Any_L1_a at hM
                  obtain ⟨v38, h39, hM⟩ := bind_some hM
                  obtain ⟨v40, h41, hM⟩ := bind_some hM
                  have hE : some ((Network.mk v40 v1.1.Off v1.1.Change), v38.2) = some r := hM
                  have hE := Option.some.inj hE
                  subst hE
                  exact pr R 9999 [.xo [[], [], [], [.new 11], [.ad (.keep [0, 2, 3, 89, 90, 91, 92, 93, 94, 95] [900, 11, 0, 3, 1, 2, 4, 5, 6, 7, 8, 9, 10, 12, 13, 14, 15, 16, 17, 18, 19, 20, 21, 22, 23, 24, 25, 26, 27, 28, 29, 30, 31, 32, 33, 34, 35, 36, 37, 38, 39, 40, 41, 42, 43, 44, 45, 46, 47, 48, 49, 50, 51]), .call true [900, 11] (.o (.c (.v (.int .i64 v38.1)))) [(900, .box 87 [.rs 1 (v38.2.b.map encU8), .v (.int .i64 v38.2.i), .v (.int .i64 v38.2.h)]), (11, .row 3 1 (([20, 21] : List Int).map encI))] []], [.ad (.fz 1), .nm (v40.map Leg.enc)], [], []] [.keep [0, 2, 3] [900, 0, 3, 2]] (spec_l3Any_x8 v1 v38 v40)] [.fz 2] [900] [] (And.intro (And.intro (con_sw 901 11 (con_sw 900 900 (spec_l1Int_ok v5.2 ([20, 21] : List Int) v38 h39))) (rfl : ([900, 11] : List Nat) = [900, 11])) (And.intro (slM_ok Leg.enc h41) (And.intro (rfl : (spec_l3Any_x8 v1 v38 v40) = (spec_l3Any_x8 v1 v38 v40)) (And.intro (And.intro (con_sw 901 11 (con_sw 900 900 (spec_l1Int_ok v5.2 ([20, 21] : List Int) v38 h39))) (rfl : ([900, 11] : List Nat) = [900, 11])) (And.intro (slM_ok Leg.enc h41) (And.intro (rfl : (spec_l3Any_x8 v1 v38 v40) = (spec_l3Any_x8 v1 v38 v40)) (And.intro (And.intro (con_sw 901 11 (con_sw 900 900 (spec_l1Int_ok v5.2 ([20, 21] : List Int) v38 h39))) (rfl : ([900, 11] : List Nat) = [900, 11])) (And.intro (slM_ok Leg.enc h41) (And.intro (rfl : (spec_l3Any_x8 v1 v38 v40) = (spec_l3Any_x8 v1 v38 v40)) True.intro))))))))) (by kernel_rfl)
                refine pc R 9999 [.new 0, .call true [900] (.o (.agg [.sl 1, .sl 2, .v (.int .i64 v1.1.Change)])) [(900, .box 87 [.rs 1 (v1.2.b.map encU8), .v (.int .i64 v1.2.i), .v (.int .i64 v1.2.h)])] [(1, .row 64 6 (v1.1.Legs.map Leg.enc)), (2, .row 3 1 (v1.1.Off.map encI))], .new 3, .ln (v1.1.Legs.length), .call true [900] (.o (.c (.v (.int .i64 v3.1)))) [(900, .box 87 [.rs 1 (v3.2.b.map encU8), .v (.int .i64 v3.2.i), .v (.int .i64 v3.2.h)])] [], .call true [900] (.o (.c (.v (.int .i64 v5.1)))) [(900, .box 87 [.rs 1 (v5.2.b.map encU8), .v (.int .i64 v5.2.i), .v (.int .i64 v5.2.h)])] [], .as 14 false, .as 24 false, .as 34 false, .as 44 false, .as 54 false, .as 60 false, .as 73 true] [.keep [0, 2, 3, 4] [900, 0, 3, 1, 2]] (k' := [.code (.loop (cAt Try.f65 [1, 1, 1, 0, 1, 0, 1, 1, 1, 1, 1, 1, 1, 1, 1, 1, 1, 1, 1, 0, 0, 0, 0])), .blk 1, .code (cAt Try.f65 [1, 1, 1, 0, 1, 0, 1, 1, 1, 1, 1, 1, 1, 1, 1, 1, 1, 1, 1, 0, 1]), .blk 0, .code (cAt Try.f65 [1, 1, 1, 1])]) (S' := spec_l3Any_L1_S v1 v3 v5 v1.1.Legs) (And.intro (And.intro (con_sw 900 900 (con_sw 1001 2 (con_sw 1000 1 (spec_l3Draw_ok a0 6 v1 h2)))) (rfl : ([900] : List Nat) = [900])) (And.intro (lenm Leg.enc v1.1.Legs) (And.intro (And.intro (con_sw 900 900 (spec_l1Below_ok v1.2 (v1.1.Legs.length : Int) v3 h4)) (rfl : ([900] : List Nat) = [900])) (And.intro (And.intro (con_sw 900 900 (spec_l1Below_ok v3.2 10 v5 h6)) (rfl : ([900] : List Nat) = [900])) (And.intro h7 (And.intro h12 (And.intro h17 (And.intro h22 (And.intro h27 (And.intro h30 (And.intro h35 True.intro))))))))))) (by kernel_rfl) ?_
                refine lq (spec_l3Any_L1_S v1 v3 v5) (body := spec_l3Any_L1 v3) (k := spec_l3Any_L1_k v1 v5) hM fun m1 s c1 hM hK1 => ?_
                obtain ⟨s36, hs⟩ : ∃ z, z = s := ⟨_, rfl⟩
                subst hs
                have hM : spec_l3Any_L1_b v3 s36 = some c1 := hM
                unfold spec_l3Any_L1_b at hM
                rcases cond_cases hM with ⟨h42, hM⟩ | ⟨h42, hM⟩
                · obtain ⟨v43, h44, hM⟩ := bind_some hM
                  obtain ⟨v45, h46, hM⟩ := bind_some hM
                  have hE : some (Ctl.next v45) = some c1 := hM
                  have hE := Option.some.inj hE
                  subst hE
                  exact pc R 9999 [.ln (s36.length), .as 78 true, .xo [[], [], [], [], [], [], [.ix (Leg.enc v43)], [.new 12], [.new 13, .nm (v45.map Leg.enc)], [], []] [.keep [0, 2, 3, 4] [900, 0, 3, 13, 2]] (spec_l3Any_x9 v1 v3 v5 v45)] [.sw 13 1, .keep [0, 2, 3, 4] [900, 0, 3, 1, 2]] (And.intro (lenm Leg.enc s36) (And.intro h42 (And.intro (gi_lt Leg.enc h44) (And.intro ((gi_map Leg.enc h44).2) (And.intro (ap_ok Leg.enc h46) (And.intro (rfl : (spec_l3Any_x9 v1 v3 v5 v45) = (spec_l3Any_x9 v1 v3 v5 v45)) (And.intro (gi_lt Leg.enc h44) (And.intro ((gi_map Leg.enc h44).2) (And.intro (ap_ok Leg.enc h46) (And.intro (rfl : (spec_l3Any_x9 v1 v3 v5 v45) = (spec_l3Any_x9 v1 v3 v5 v45)) (And.intro ((gi_map Leg.enc h44).2) (And.intro (ap_ok Leg.enc h46) (And.intro (rfl : (spec_l3Any_x9 v1 v3 v5 v45) = (spec_l3Any_x9 v1 v3 v5 v45)) (And.intro (ap_ok Leg.enc h46) (And.intro (rfl : (spec_l3Any_x9 v1 v3 v5 v45) = (spec_l3Any_x9 v1 v3 v5 v45)) True.intro))))))))))))))) (by kernel_rfl) (li (Sf := spec_l3Any_L1_S v1 v3 v5) (M := Mk (spec_l3Any_L1 v3) (spec_l3Any_L1_k v1 v5) r) (k := [.blk 1, .code (cAt Try.f65 [1, 1, 1, 0, 1, 0, 1, 1, 1, 1, 1, 1, 1, 1, 1, 1, 1, 1, 1, 0, 1]), .blk 0, .code (cAt Try.f65 [1, 1, 1, 1])]) (Nat.lt_succ_self m1) hK1)
                · have hE : some (Ctl.brk s36) = some c1 := hM
                  have hE := Option.some.inj hE
                  subst hE
                  exact pc R 5 [.ln (s36.length), .as 78 false] [.keep [0, 2, 3] [900, 0, 3, 1, 2]] (And.intro (lenm Leg.enc s36) (And.intro h42 True.intro)) (by kernel_rfl) (K1 s36 hK1)
              · have hE : some ((Network.mk v1.1.Legs v1.1.Off v1.1.Change), v5.2) = some r := hM
                have hE := Option.some.inj hE
                subst hE
                exact pr R 9999 [.new 0, .call true [900] (.o (.agg [.sl 1, .sl 2, .v (.int .i64 v1.1.Change)])) [(900, .box 87 [.rs 1 (v1.2.b.map encU8), .v (.int .i64 v1.2.i), .v (.int .i64 v1.2.h)])] [(1, .row 64 6 (v1.1.Legs.map Leg.enc)), (2, .row 3 1 (v1.1.Off.map encI))], .new 3, .ln (v1.1.Legs.length), .call true [900] (.o (.c (.v (.int .i64 v3.1)))) [(900, .box 87 [.rs 1 (v3.2.b.map encU8), .v (.int .i64 v3.2.i), .v (.int .i64 v3.2.h)])] [], .call true [900] (.o (.c (.v (.int .i64 v5.1)))) [(900, .box 87 [.rs 1 (v5.2.b.map encU8), .v (.int .i64 v5.2.i), .v (.int .i64 v5.2.h)])] [], .as 14 false, .as 24 false, .as 34 false, .as 44 false, .as 54 false, .as 60 false, .as 73 false] [.fz 1, .fz 2] [900] [] (And.intro (And.intro (con_sw 900 900 (con_sw 1001 2 (con_sw 1000 1 (spec_l3Draw_ok a0 6 v1 h2)))) (rfl : ([900] : List Nat) = [900])) (And.intro (lenm Leg.enc v1.1.Legs) (And.intro (And.intro (con_sw 900 900 (spec_l1Below_ok v1.2 (v1.1.Legs.length : Int) v3 h4)) (rfl : ([900] : List Nat) = [900])) (And.intro (And.intro (con_sw 900 900 (spec_l1Below_ok v3.2 10 v5 h6)) (rfl : ([900] : List Nat) = [900])) (And.intro h7 (And.intro h12 (And.intro h17 (And.intro h22 (And.intro h27 (And.intro h30 (And.intro h35 True.intro))))))))))) (by kernel_rfl)

-- loop.example/g03014/spec.l4Net
def spec_l4Net (a0 : l1Cur) : Option (Network × l1Cur) :=
  (spec_l1Once a0 9).bind fun v1 =>
  bif v1.1 then
  (spec_l3Any v1.2).bind fun v4 =>
  some ((Network.mk v4.1.Legs v4.1.Off v4.1.Change), v4.2)
  else
  (spec_l3Draw v1.2 9).bind fun v6 =>
  some ((Network.mk v6.1.Legs v6.1.Off v6.1.Change), v6.2)
theorem spec_l4Net_ok (a0 : l1Cur) (r : Network × l1Cur) (hM : spec_l4Net a0 = some r) :
    Con Try.prog 55 [.c (.ptr 900 0)] [(900, .box 87 [.rs 1 (a0.b.map encU8), .v (.int .i64 a0.i), .v (.int .i64 a0.h)])] (.o (.agg [.rs 6 (r.1.Legs.map Leg.enc), .rs 1 (r.1.Off.map encI), .v (.int .i64 r.1.Change)])) [(900, .box 87 [.rs 1 (r.2.b.map encU8), .v (.int .i64 r.2.i), .v (.int .i64 r.2.h)])] [] := by
  unfold spec_l4Net at hM
  refine cn (N := 9) (pids := [900]) Try_mixed Try.func55 (by kernel_rfl) (by kernel_rfl) (by kernel_rfl) rfl fun ρ g w R => ?_
  obtain ⟨v1, h2, hM⟩ := bind_some hM
  rcases cond_cases hM with ⟨h3, hM⟩ | ⟨h3, hM⟩
  · obtain ⟨v4, h5, hM⟩ := bind_some hM
    have hE : some ((Network.mk v4.1.Legs v4.1.Off v4.1.Change), v4.2) = some r := hM
    have hE := Option.some.inj hE
    subst hE
    exact pr R 9999 [.new 0, .call true [900] (.o (.c (.v (.bool v1.1)))) [(900, .box 87 [.rs 1 (v1.2.b.map encU8), .v (.int .i64 v1.2.i), .v (.int .i64 v1.2.h)])] [], .as 4 true, .call true [900] (.o (.agg [.rs 6 (v4.1.Legs.map Leg.enc), .rs 1 (v4.1.Off.map encI), .v (.int .i64 v4.1.Change)])) [(900, .box 87 [.rs 1 (v4.2.b.map encU8), .v (.int .i64 v4.2.i), .v (.int .i64 v4.2.h)])] []] [] [900] [] (And.intro (And.intro (con_sw 900 900 (spec_l1Once_ok a0 9 v1 h2)) (rfl : ([900] : List Nat) = [900])) (And.intro h3 (And.intro (And.intro (con_sw 900 900 (spec_l3Any_ok v1.2 v4 h5)) (rfl : ([900] : List Nat) = [900])) True.intro))) (by kernel_rfl)
  · obtain ⟨v6, h7, hM⟩ := bind_some hM
    have hE : some ((Network.mk v6.1.Legs v6.1.Off v6.1.Change), v6.2) = some r := hM
    have hE := Option.some.inj hE
    subst hE
    exact pr R 9999 [.new 0, .call true [900] (.o (.c (.v (.bool v1.1)))) [(900, .box 87 [.rs 1 (v1.2.b.map encU8), .v (.int .i64 v1.2.i), .v (.int .i64 v1.2.h)])] [], .as 4 false, .call true [900] (.o (.agg [.sl 1, .sl 2, .v (.int .i64 v6.1.Change)])) [(900, .box 87 [.rs 1 (v6.2.b.map encU8), .v (.int .i64 v6.2.i), .v (.int .i64 v6.2.h)])] [(1, .row 64 6 (v6.1.Legs.map Leg.enc)), (2, .row 3 1 (v6.1.Off.map encI))]] [.fz 1, .fz 2] [900] [] (And.intro (And.intro (con_sw 900 900 (spec_l1Once_ok a0 9 v1 h2)) (rfl : ([900] : List Nat) = [900])) (And.intro h3 (And.intro (And.intro (con_sw 900 900 (con_sw 1001 2 (con_sw 1000 1 (spec_l3Draw_ok v1.2 9 v6 h7)))) (rfl : ([900] : List Nat) = [900])) True.intro))) (by kernel_rfl)

-- loop.example/g03014/spec.PlacesOf
def spec_PlacesOf_x7 (a0 : Network) (s2 : Int) (v19 : (List ByteArray)) : St := ⟨[(1, .o (.c (.ptr 0 0))), (3, .o (.c (.sl 6))), (4, .o (.c (.v (.int .i64 s2))))], [(0, .box 27 [.rs 6 (a0.Legs.map Leg.enc), .rs 1 (a0.Off.map encI), .v (.int .i64 a0.Change)]), (6, .row 9 1 (v19.map encS))]⟩
def spec_PlacesOf_x8 (a0 : Network) (s2 : Int) (v32 : (List ByteArray)) : St := ⟨[(1, .o (.c (.ptr 0 0))), (3, .o (.c (.sl 11))), (4, .o (.c (.v (.int .i64 s2))))], [(0, .box 27 [.rs 6 (a0.Legs.map Leg.enc), .rs 1 (a0.Off.map encI), .v (.int .i64 a0.Change)]), (11, .row 9 1 (v32.map encS))]⟩
def spec_PlacesOf_L2_b (s1 : (List ByteArray)) (s7 : ByteArray) (s8 : Int) : Option (Ctl Int Int (List ByteArray)) :=
  bif (decide (s8 < (s1.length : Int))) then
  (gi s1 s8).bind fun v35 =>
  bif (Op.bytesLess v35.toList s7.toList) then
  some (.next (w64 (s8 + 1)))
  else
  some (.brk s8)
  else
  some (.brk s8)
def spec_PlacesOf_L2 (s1 : (List ByteArray)) (s7 : ByteArray) (s : Int) : Option (Ctl Int Int (List ByteArray)) := spec_PlacesOf_L2_b s1 s7 s
def spec_PlacesOf_L2_s (a0 : Network) (s1 : (List ByteArray)) (s2 : Int) (s7 : ByteArray) (s8 : Int) : St := ⟨[(1, .o (.c (.ptr 0 0))), (3, .o (.c (.sl 1))), (4, .o (.c (.v (.int .i64 s2)))), (5, .o (.c (.v (.string s7)))), (6, .o (.c (.v (.int .i64 s8))))], [(0, .box 27 [.rs 6 (a0.Legs.map Leg.enc), .rs 1 (a0.Off.map encI), .v (.int .i64 a0.Change)]), (1, .row 9 1 (s1.map encS))]⟩
def spec_PlacesOf_L2_S (a0 : Network) (s1 : (List ByteArray)) (s2 : Int) (s7 : ByteArray) (s : Int) : St := spec_PlacesOf_L2_s a0 s1 s2 s7 s
def spec_PlacesOf_L2_a (s1 : (List ByteArray)) (s2 : Int) (s7 : ByteArray) (s9 : Int) : Option (Ctl ((List ByteArray) × Int) (List ByteArray) (List ByteArray)) :=
  bif (s9 == (s1.length : Int)) then
  (slM s1 0 s9).bind fun v11 =>
  (ap 16 ([] : List ByteArray) v11).bind fun v13 =>
  (ap 16 v13 ([s7] : List ByteArray)).bind fun v15 =>
  (slM s1 s9 s1.length).bind fun v17 =>
  (ap 16 v15 v17).bind fun v19 =>
  some (.next (v19, w64 (s2 + 1)))
  else
  (gi s1 s9).bind fun v21 =>
  bif (!(v21.toList == s7.toList)) then
  (slM s1 0 s9).bind fun v24 =>
  (ap 16 ([] : List ByteArray) v24).bind fun v26 =>
  (ap 16 v26 ([s7] : List ByteArray)).bind fun v28 =>
  (slM s1 s9 s1.length).bind fun v30 =>
  (ap 16 v28 v30).bind fun v32 =>
  some (.next (v32, w64 (s2 + 1)))
  else
  some (.next (s1, w64 (s2 + 1)))
def spec_PlacesOf_L2_k (s1 : (List ByteArray)) (s2 : Int) (s7 : ByteArray) (x : (Int) ⊕ ((List ByteArray))) : Option (Ctl ((List ByteArray) × Int) (List ByteArray) (List ByteArray)) := match x with
  | .inl t => spec_PlacesOf_L2_a s1 s2 s7 t
  | .inr y => some (.ret y)
def spec_PlacesOf_j1 (s1 : (List ByteArray)) (s2 : Int) (s7 : ByteArray) : Option (Ctl ((List ByteArray) × Int) (List ByteArray) (List ByteArray)) :=
  (loopM (spec_PlacesOf_L2 s1 s7) big 0).bind (spec_PlacesOf_L2_k s1 s2 s7)
def spec_PlacesOf_L1_b (a0 : Network) (s1 : (List ByteArray)) (s2 : Int) : Option (Ctl ((List ByteArray) × Int) (List ByteArray) (List ByteArray)) :=
  bif (decide (s2 < (w64 (2 * (a0.Legs.length : Int))))) then
  (gi a0.Legs (w64 (Int.tdiv s2 2))).bind fun v5 =>
  bif ((Int.tmod s2 2) == 1) then
  (gi a0.Legs (w64 (Int.tdiv s2 2))).bind fun v39 =>
  spec_PlacesOf_j1 s1 s2 v39.To
  else
  spec_PlacesOf_j1 s1 s2 v5.From
  else
  some (.brk s1)
def spec_PlacesOf_L1 (a0 : Network) (s : (List ByteArray) × Int) : Option (Ctl ((List ByteArray) × Int) (List ByteArray) (List ByteArray)) := spec_PlacesOf_L1_b a0 s.1 s.2
def spec_PlacesOf_L1_s (a0 : Network) (s1 : (List ByteArray)) (s2 : Int) : St := ⟨[(1, .o (.c (.ptr 0 0))), (3, .o (.c (.sl 1))), (4, .o (.c (.v (.int .i64 s2))))], [(0, .box 27 [.rs 6 (a0.Legs.map Leg.enc), .rs 1 (a0.Off.map encI), .v (.int .i64 a0.Change)]), (1, .row 9 1 (s1.map encS))]⟩
def spec_PlacesOf_L1_S (a0 : Network) (s : (List ByteArray) × Int) : St := spec_PlacesOf_L1_s a0 s.1 s.2
def spec_PlacesOf_L1_a (s3 : (List ByteArray)) : Option (List ByteArray) :=
  some s3
def spec_PlacesOf_L1_k (x : ((List ByteArray)) ⊕ ((List ByteArray))) : Option (List ByteArray) := match x with
  | .inl t => spec_PlacesOf_L1_a t
  | .inr y => some y
def spec_PlacesOf (a0 : Network) : Option (List ByteArray) :=
  (loopM (spec_PlacesOf_L1 a0) big (([] : List ByteArray), 0)).bind (spec_PlacesOf_L1_k)
theorem spec_PlacesOf_ok (a0 : Network) (r : (List ByteArray)) (hM : spec_PlacesOf a0 = some r) :
    Con Try.prog 29 [.agg [.rs 6 (a0.Legs.map Leg.enc), .rs 1 (a0.Off.map encI), .v (.int .i64 a0.Change)]] [] (.o (.c (.sl 1000))) [] [(1000, .row 9 1 (r.map encS))] := by
  unfold spec_PlacesOf at hM
  refine cn (N := 72) (pids := []) Try_mixed Try.func29 (by kernel_rfl) (by kernel_rfl) (by kernel_rfl) rfl fun ρ g w R => ?_
  have K1 : ∀ (s3 : (List ByteArray)), spec_PlacesOf_L1_a s3 = some r → Gr R [.code (cAt Try.f29 [1, 1, 1])] (⟨[(3, .o (.c (.sl 1)))], [(1, .row 9 1 (s3.map encS))]⟩) := by
    intro s3 hM
    unfold spec_PlacesOf_L1_a at hM
    have hE : some s3 = some r := hM
    have hE := Option.some.inj hE
    subst hE
    exact pr R 9999 [] [.sw 1 1000] [] [1000] True.intro (by kernel_rfl)
  refine pc R 9999 [.new 0, .new 1] [.keep [1, 3, 4] [0, 1]] (k' := [.code (.loop (cAt Try.f29 [1, 1, 0, 1, 0, 0])), .blk 0, .code (cAt Try.f29 [1, 1, 1])]) (S' := spec_PlacesOf_L1_S a0 (([] : List ByteArray), 0)) True.intro (by kernel_rfl) ?_
  refine lq (spec_PlacesOf_L1_S a0) (body := spec_PlacesOf_L1 a0) (k := spec_PlacesOf_L1_k) hM fun m1 s c1 hM hK1 => ?_
  obtain ⟨s1, s2⟩ := s
  have hM : spec_PlacesOf_L1_b a0 s1 s2 = some c1 := hM
  unfold spec_PlacesOf_L1_b at hM
  rcases cond_cases hM with ⟨h4, hM⟩ | ⟨h4, hM⟩
  · obtain ⟨v5, h6, hM⟩ := bind_some hM
    have J1 : ∀ (s7 : ByteArray), spec_PlacesOf_j1 s1 s2 s7 = some c1 → Gr R [.code (cAt Try.f29 [1, 1, 0, 1, 0, 0, 1, 0, 0, 1, 1]), .blk 1, .code (cAt Try.f29 [1, 1, 0, 1, 0, 0, 1, 1]), .inv (Jr R (spec_PlacesOf_L1_S a0) (Mk (spec_PlacesOf_L1 a0) (spec_PlacesOf_L1_k) r) (m1 + 1)), .blk 0, .code (cAt Try.f29 [1, 1, 1])] (⟨[(1, .o (.c (.ptr 0 0))), (3, .o (.c (.sl 1))), (4, .o (.c (.v (.int .i64 s2)))), (5, .o (.c (.v (.string s7))))], [(0, .box 27 [.rs 6 (a0.Legs.map Leg.enc), .rs 1 (a0.Off.map encI), .v (.int .i64 a0.Change)]), (1, .row 9 1 (s1.map encS))]⟩) := by
      intro s7 hM
      unfold spec_PlacesOf_j1 at hM
      have K2 : ∀ (s9 : Int), spec_PlacesOf_L2_a s1 s2 s7 s9 = some c1 → Gr R [.code (cAt Try.f29 [1, 1, 0, 1, 0, 0, 1, 0, 0, 1, 1, 1, 1]), .blk 1, .code (cAt Try.f29 [1, 1, 0, 1, 0, 0, 1, 1]), .inv (Jr R (spec_PlacesOf_L1_S a0) (Mk (spec_PlacesOf_L1 a0) (spec_PlacesOf_L1_k) r) (m1 + 1)), .blk 0, .code (cAt Try.f29 [1, 1, 1])] (⟨[(1, .o (.c (.ptr 0 0))), (3, .o (.c (.sl 1))), (4, .o (.c (.v (.int .i64 s2)))), (5, .o (.c (.v (.string s7)))), (6, .o (.c (.v (.int .i64 s9))))], [(0, .box 27 [.rs 6 (a0.Legs.map Leg.enc), .rs 1 (a0.Off.map encI), .v (.int .i64 a0.Change)]), (1, .row 9 1 (s1.map encS))]⟩) := by
        intro s9 hM
        unfold spec_PlacesOf_L2_a at hM
        rcases cond_cases hM with ⟨h10, hM⟩ | ⟨h10, hM⟩
        · obtain ⟨v11, h12, hM⟩ := bind_some hM
          obtain ⟨v13, h14, hM⟩ := bind_some hM
          obtain ⟨v15, h16, hM⟩ := bind_some hM
          obtain ⟨v17, h18, hM⟩ := bind_some hM
          obtain ⟨v19, h20, hM⟩ := bind_some hM
          have hE : some (Ctl.next (v19, w64 (s2 + 1))) = some c1 := hM
          have hE := Option.some.inj hE
          subst hE
          exact pc R 9999 [.ln (s1.length), .as 51 true, .xo [[.new 2], [], [], [.ad (.fz 1), .nm (v11.map encS)], [.new 3, .nm (v13.map encS)], [], [.new 4], [.new 5, .nm (v15.map encS)], [], [], [.nm (v17.map encS)], [.new 6, .nm (v19.map encS)], []] [.keep [1, 3, 4] [0, 6]] (spec_PlacesOf_x7 a0 s2 v19)] [.sw 6 1, .keep [1, 3, 4] [0, 1]] (And.intro (lenm encS s1) (And.intro h10 (And.intro (slM_ok encS h12) (And.intro (slM_okL encS h18) (And.intro (ap_ok encS h14) (And.intro (ap_ok encS h16) (And.intro (ap_ok encS h20) (And.intro (rfl : (spec_PlacesOf_x7 a0 s2 v19) = (spec_PlacesOf_x7 a0 s2 v19)) (And.intro (ap_ok encS h14) (And.intro (ap_ok encS h16) (And.intro (ap_ok encS h20) (And.intro (rfl : (spec_PlacesOf_x7 a0 s2 v19) = (spec_PlacesOf_x7 a0 s2 v19)) (And.intro (ap_ok encS h14) (And.intro (ap_ok encS h16) (And.intro (ap_ok encS h20) (And.intro (rfl : (spec_PlacesOf_x7 a0 s2 v19) = (spec_PlacesOf_x7 a0 s2 v19)) True.intro)))))))))))))))) (by kernel_rfl) (li (Sf := spec_PlacesOf_L1_S a0) (M := Mk (spec_PlacesOf_L1 a0) (spec_PlacesOf_L1_k) r) (k := [.blk 0, .code (cAt Try.f29 [1, 1, 1])]) (Nat.lt_succ_self m1) hK1)
        · obtain ⟨v21, h22, hM⟩ := bind_some hM
          rcases cond_cases hM with ⟨h23, hM⟩ | ⟨h23, hM⟩
          · obtain ⟨v24, h25, hM⟩ := bind_some hM
            obtain ⟨v26, h27, hM⟩ := bind_some hM
            obtain ⟨v28, h29, hM⟩ := bind_some hM
            obtain ⟨v30, h31, hM⟩ := bind_some hM
            obtain ⟨v32, h33, hM⟩ := bind_some hM
            have hE : some (Ctl.next (v32, w64 (s2 + 1))) = some c1 := hM
            have hE := Option.some.inj hE
            subst hE
            exact pc R 9999 [.ln (s1.length), .as 51 false, .ix (encS v21), .as 58 true, .xo [[.new 7], [], [], [.ad (.fz 1), .nm (v24.map encS)], [.new 8, .nm (v26.map encS)], [], [.new 9], [.new 10, .nm (v28.map encS)], [], [], [.nm (v30.map encS)], [.new 11, .nm (v32.map encS)], []] [.keep [1, 3, 4] [0, 11]] (spec_PlacesOf_x8 a0 s2 v32)] [.sw 11 1, .keep [1, 3, 4] [0, 1]] (And.intro (lenm encS s1) (And.intro h10 (And.intro (gi_lt encS h22) (And.intro ((gi_map encS h22).2) (And.intro h23 (And.intro (slM_ok encS h25) (And.intro (slM_okL encS h31) (And.intro (ap_ok encS h27) (And.intro (ap_ok encS h29) (And.intro (ap_ok encS h33) (And.intro (rfl : (spec_PlacesOf_x8 a0 s2 v32) = (spec_PlacesOf_x8 a0 s2 v32)) (And.intro (ap_ok encS h27) (And.intro (ap_ok encS h29) (And.intro (ap_ok encS h33) (And.intro (rfl : (spec_PlacesOf_x8 a0 s2 v32) = (spec_PlacesOf_x8 a0 s2 v32)) (And.intro (ap_ok encS h27) (And.intro (ap_ok encS h29) (And.intro (ap_ok encS h33) (And.intro (rfl : (spec_PlacesOf_x8 a0 s2 v32) = (spec_PlacesOf_x8 a0 s2 v32)) True.intro))))))))))))))))))) (by kernel_rfl) (li (Sf := spec_PlacesOf_L1_S a0) (M := Mk (spec_PlacesOf_L1 a0) (spec_PlacesOf_L1_k) r) (k := [.blk 0, .code (cAt Try.f29 [1, 1, 1])]) (Nat.lt_succ_self m1) hK1)
          · have hE : some (Ctl.next (s1, w64 (s2 + 1))) = some c1 := hM
            have hE := Option.some.inj hE
            subst hE
            exact pc R 9999 [.ln (s1.length), .as 51 false, .ix (encS v21), .as 58 false] [.keep [1, 3, 4] [0, 1]] (And.intro (lenm encS s1) (And.intro h10 (And.intro (gi_lt encS h22) (And.intro ((gi_map encS h22).2) (And.intro h23 True.intro))))) (by kernel_rfl) (li (Sf := spec_PlacesOf_L1_S a0) (M := Mk (spec_PlacesOf_L1 a0) (spec_PlacesOf_L1_k) r) (k := [.blk 0, .code (cAt Try.f29 [1, 1, 1])]) (Nat.lt_succ_self m1) hK1)
      refine pc R 9999 [] [.keep [1, 3, 4, 5, 6] [0, 1]] (k' := [.code (.loop (cAt Try.f29 [1, 1, 0, 1, 0, 0, 1, 0, 0, 1, 1, 1, 0, 0, 0])), .blk 2, .code (cAt Try.f29 [1, 1, 0, 1, 0, 0, 1, 0, 0, 1, 1, 1, 1]), .blk 1, .code (cAt Try.f29 [1, 1, 0, 1, 0, 0, 1, 1]), .inv (Jr R (spec_PlacesOf_L1_S a0) (Mk (spec_PlacesOf_L1 a0) (spec_PlacesOf_L1_k) r) (m1 + 1)), .blk 0, .code (cAt Try.f29 [1, 1, 1])]) (S' := spec_PlacesOf_L2_S a0 s1 s2 s7 0) True.intro (by kernel_rfl) ?_
      refine lq (spec_PlacesOf_L2_S a0 s1 s2 s7) (body := spec_PlacesOf_L2 s1 s7) (k := spec_PlacesOf_L2_k s1 s2 s7) hM fun m2 s c2 hM hK2 => ?_
      obtain ⟨s8, hs⟩ : ∃ z, z = s := ⟨_, rfl⟩
      subst hs
      have hM : spec_PlacesOf_L2_b s1 s7 s8 = some c2 := hM
      unfold spec_PlacesOf_L2_b at hM
      rcases cond_cases hM with ⟨h34, hM⟩ | ⟨h34, hM⟩
      · obtain ⟨v35, h36, hM⟩ := bind_some hM
        rcases cond_cases hM with ⟨h37, hM⟩ | ⟨h37, hM⟩
        · have hE : some (Ctl.next (w64 (s8 + 1))) = some c2 := hM
          have hE := Option.some.inj hE
          subst hE
          exact pc R 9999 [.ln (s1.length), .as 37 true, .ix (encS v35), .as 44 true] [.keep [1, 3, 4, 5, 6] [0, 1]] (And.intro (lenm encS s1) (And.intro h34 (And.intro (gi_lt encS h36) (And.intro ((gi_map encS h36).2) (And.intro h37 True.intro))))) (by kernel_rfl) (li (Sf := spec_PlacesOf_L2_S a0 s1 s2 s7) (M := Mk (spec_PlacesOf_L2 s1 s7) (spec_PlacesOf_L2_k s1 s2 s7) c1) (k := [.blk 2, .code (cAt Try.f29 [1, 1, 0, 1, 0, 0, 1, 0, 0, 1, 1, 1, 1]), .blk 1, .code (cAt Try.f29 [1, 1, 0, 1, 0, 0, 1, 1]), .inv (Jr R (spec_PlacesOf_L1_S a0) (Mk (spec_PlacesOf_L1 a0) (spec_PlacesOf_L1_k) r) (m1 + 1)), .blk 0, .code (cAt Try.f29 [1, 1, 1])]) (Nat.lt_succ_self m2) hK2)
        · have hE : some (Ctl.brk s8) = some c2 := hM
          have hE := Option.some.inj hE
          subst hE
          exact pc R 5 [.ln (s1.length), .as 37 true, .ix (encS v35), .as 44 false] [.keep [1, 3, 4, 5, 6] [0, 1]] (And.intro (lenm encS s1) (And.intro h34 (And.intro (gi_lt encS h36) (And.intro ((gi_map encS h36).2) (And.intro h37 True.intro))))) (by kernel_rfl) (K2 s8 hK2)
      · have hE : some (Ctl.brk s8) = some c2 := hM
        have hE := Option.some.inj hE
        subst hE
        exact pc R 5 [.ln (s1.length), .as 37 false] [.keep [1, 3, 4, 5, 6] [0, 1]] (And.intro (lenm encS s1) (And.intro h34 True.intro)) (by kernel_rfl) (K2 s8 hK2)
    rcases cond_cases hM with ⟨h38, hM⟩ | ⟨h38, hM⟩
    · obtain ⟨v39, h40, hM⟩ := bind_some hM
      exact pc R 14 [.ln (a0.Legs.length), .as 13 true, .ix (Leg.enc v5), .as 25 true, .ix (Leg.enc v39)] [.keep [1, 3, 4, 5] [0, 1]] (And.intro (lenm Leg.enc a0.Legs) (And.intro h4 (And.intro (gi_map Leg.enc h6) (And.intro h38 (And.intro (gi_map Leg.enc h40) True.intro))))) (by kernel_rfl) (J1 v39.To hM)
    · exact pc R 14 [.ln (a0.Legs.length), .as 13 true, .ix (Leg.enc v5), .as 25 false] [.keep [1, 3, 4, 5] [0, 1]] (And.intro (lenm Leg.enc a0.Legs) (And.intro h4 (And.intro (gi_map Leg.enc h6) (And.intro h38 True.intro)))) (by kernel_rfl) (J1 v5.From hM)
  · have hE : some (Ctl.brk s1) = some c1 := hM
    have hE := Option.some.inj hE
    subst hE
    exact pc R 5 [.ln (a0.Legs.length), .as 13 false] [.keep [3] [1]] (And.intro (lenm Leg.enc a0.Legs) (And.intro h4 True.intro)) (by kernel_rfl) (K1 s1 hK1)

-- loop.example/g03014/spec.l4Of
def spec_l4Of_at1ro (a0 : l1Cur) (a1 : Network) : Option (ByteArray × l1Cur) :=
  (spec_PlacesOf a1).bind fun v1 =>
  (spec_l1Once a0 9).bind fun v3 =>
  bif v3.1 then
  (spec_l1Place v3.2).bind fun v6 =>
  some (v6.1, v6.2)
  else
  (spec_l1Below v3.2 (v1.length : Int)).bind fun v8 =>
  (gi v1 v8.1).bind fun v10 =>
  some (v10, v8.2)
theorem spec_l4Of_at1ro_ok (a0 : l1Cur) (a1 : Network) (r : ByteArray × l1Cur) (hM : spec_l4Of_at1ro a0 a1 = some r) :
    Con Try.prog 56 [.c (.ptr 900 0), .agg [.rs 6 (a1.Legs.map Leg.enc), .rs 1 (a1.Off.map encI), .v (.int .i64 a1.Change)]] [(900, .box 87 [.rs 1 (a0.b.map encU8), .v (.int .i64 a0.i), .v (.int .i64 a0.h)])] (.o (.c (.v (.string r.1)))) [(900, .box 87 [.rs 1 (r.2.b.map encU8), .v (.int .i64 r.2.i), .v (.int .i64 r.2.h)])] [] := by
  unfold spec_l4Of_at1ro at hM
  refine cn (N := 19) (pids := [900]) Try_mixed Try.func56 (by kernel_rfl) (by kernel_rfl) (by kernel_rfl) rfl fun ρ g w R => ?_
  obtain ⟨v1, h2, hM⟩ := bind_some hM
  obtain ⟨v3, h4, hM⟩ := bind_some hM
  rcases cond_cases hM with ⟨h5, hM⟩ | ⟨h5, hM⟩
  · obtain ⟨v6, h7, hM⟩ := bind_some hM
    have hE : some (v6.1, v6.2) = some r := hM
    have hE := Option.some.inj hE
    subst hE
    exact pr R 9999 [.new 0, .call false [] (.o (.c (.sl 1))) [] [(1, .row 9 1 (v1.map encS))], .call true [900] (.o (.c (.v (.bool v3.1)))) [(900, .box 87 [.rs 1 (v3.2.b.map encU8), .v (.int .i64 v3.2.i), .v (.int .i64 v3.2.h)])] [], .as 9 true, .call true [900] (.o (.c (.v (.string v6.1)))) [(900, .box 87 [.rs 1 (v6.2.b.map encU8), .v (.int .i64 v6.2.i), .v (.int .i64 v6.2.h)])] []] [] [900] [] (And.intro (And.intro (con_sw 1000 1 (spec_PlacesOf_ok a1 v1 h2)) (rfl : ([] : List Nat) = [])) (And.intro (And.intro (con_sw 900 900 (spec_l1Once_ok a0 9 v3 h4)) (rfl : ([900] : List Nat) = [900])) (And.intro h5 (And.intro (And.intro (con_sw 900 900 (spec_l1Place_ok v3.2 v6 h7)) (rfl : ([900] : List Nat) = [900])) True.intro)))) (by kernel_rfl)
  · obtain ⟨v8, h9, hM⟩ := bind_some hM
    obtain ⟨v10, h11, hM⟩ := bind_some hM
    have hE : some (v10, v8.2) = some r := hM
    have hE := Option.some.inj hE
    subst hE
    exact pr R 9999 [.new 0, .call false [] (.o (.c (.sl 1))) [] [(1, .row 9 1 (v1.map encS))], .call true [900] (.o (.c (.v (.bool v3.1)))) [(900, .box 87 [.rs 1 (v3.2.b.map encU8), .v (.int .i64 v3.2.i), .v (.int .i64 v3.2.h)])] [], .as 9 false, .ln (v1.length), .call true [900] (.o (.c (.v (.int .i64 v8.1)))) [(900, .box 87 [.rs 1 (v8.2.b.map encU8), .v (.int .i64 v8.2.i), .v (.int .i64 v8.2.h)])] [], .ix (encS v10)] [] [900] [] (And.intro (And.intro (con_sw 1000 1 (spec_PlacesOf_ok a1 v1 h2)) (rfl : ([] : List Nat) = [])) (And.intro (And.intro (con_sw 900 900 (spec_l1Once_ok a0 9 v3 h4)) (rfl : ([900] : List Nat) = [900])) (And.intro h5 (And.intro (lenm encS v1) (And.intro (And.intro (con_sw 900 900 (spec_l1Below_ok v3.2 (v1.length : Int) v8 h9)) (rfl : ([900] : List Nat) = [900])) (And.intro (gi_lt encS h11) (And.intro ((gi_map encS h11).2) True.intro))))))) (by kernel_rfl)

-- loop.example/g03014/spec.l1Odd
def spec_l1Odd (a0 : l1Cur) : Option (Int × l1Cur) :=
  (spec_l1Int a0 ([(-1), 0, 1, 2, 255, 1440, 86400, 86401, 999999999, 1000000000, 1000000001, (-1000000001), 9223372036854775807, (-9223372036854775808)] : List Int)).bind fun v1 =>
  some (v1.1, v1.2)
theorem spec_l1Odd_ok (a0 : l1Cur) (r : Int × l1Cur) (hM : spec_l1Odd a0 = some r) :
    Con Try.prog 73 [.c (.ptr 900 0)] [(900, .box 87 [.rs 1 (a0.b.map encU8), .v (.int .i64 a0.i), .v (.int .i64 a0.h)])] (.o (.c (.v (.int .i64 r.1)))) [(900, .box 87 [.rs 1 (r.2.b.map encU8), .v (.int .i64 r.2.i), .v (.int .i64 r.2.h)])] [] := by
  unfold spec_l1Odd at hM
  refine cn (N := 6) (pids := [900]) Try_mixed Try.func73 (by kernel_rfl) (by kernel_rfl) (by kernel_rfl) rfl fun ρ g w R => ?_
  obtain ⟨v1, h2, hM⟩ := bind_some hM
  have hE : some (v1.1, v1.2) = some r := hM
  have hE := Option.some.inj hE
  subst hE
  exact pr R 9999 [.new 0, .ad (.keep [0, 2, 3, 4] [900, 0]), .call true [900, 0] (.o (.c (.v (.int .i64 v1.1)))) [(900, .box 87 [.rs 1 (v1.2.b.map encU8), .v (.int .i64 v1.2.i), .v (.int .i64 v1.2.h)]), (0, .row 3 1 (([(-1), 0, 1, 2, 255, 1440, 86400, 86401, 999999999, 1000000000, 1000000001, (-1000000001), 9223372036854775807, (-9223372036854775808)] : List Int).map encI))] []] [] [900] [] (And.intro (And.intro (con_sw 901 0 (con_sw 900 900 (spec_l1Int_ok a0 ([(-1), 0, 1, 2, 255, 1440, 86400, 86401, 999999999, 1000000000, 1000000001, (-1000000001), 9223372036854775807, (-9223372036854775808)] : List Int) v1 h2))) (rfl : ([900, 0] : List Nat) = [900, 0])) True.intro) (by kernel_rfl)

-- loop.example/g03014/spec.l4At
def spec_l4At (a0 : l1Cur) : Option (Int × l1Cur) :=
  (spec_l1Once a0 9).bind fun v1 =>
  bif v1.1 then
  (spec_l1Odd v1.2).bind fun v4 =>
  some (v4.1, v4.2)
  else
  (spec_l1Below v1.2 200).bind fun v6 =>
  some (w64 (60 * v6.1), v6.2)
theorem spec_l4At_ok (a0 : l1Cur) (r : Int × l1Cur) (hM : spec_l4At a0 = some r) :
    Con Try.prog 47 [.c (.ptr 900 0)] [(900, .box 87 [.rs 1 (a0.b.map encU8), .v (.int .i64 a0.i), .v (.int .i64 a0.h)])] (.o (.c (.v (.int .i64 r.1)))) [(900, .box 87 [.rs 1 (r.2.b.map encU8), .v (.int .i64 r.2.i), .v (.int .i64 r.2.h)])] [] := by
  unfold spec_l4At at hM
  refine cn (N := 10) (pids := [900]) Try_mixed Try.func47 (by kernel_rfl) (by kernel_rfl) (by kernel_rfl) rfl fun ρ g w R => ?_
  obtain ⟨v1, h2, hM⟩ := bind_some hM
  rcases cond_cases hM with ⟨h3, hM⟩ | ⟨h3, hM⟩
  · obtain ⟨v4, h5, hM⟩ := bind_some hM
    have hE : some (v4.1, v4.2) = some r := hM
    have hE := Option.some.inj hE
    subst hE
    exact pr R 9999 [.call true [900] (.o (.c (.v (.bool v1.1)))) [(900, .box 87 [.rs 1 (v1.2.b.map encU8), .v (.int .i64 v1.2.i), .v (.int .i64 v1.2.h)])] [], .as 4 true, .call true [900] (.o (.c (.v (.int .i64 v4.1)))) [(900, .box 87 [.rs 1 (v4.2.b.map encU8), .v (.int .i64 v4.2.i), .v (.int .i64 v4.2.h)])] []] [] [900] [] (And.intro (And.intro (con_sw 900 900 (spec_l1Once_ok a0 9 v1 h2)) (rfl : ([900] : List Nat) = [900])) (And.intro h3 (And.intro (And.intro (con_sw 900 900 (spec_l1Odd_ok v1.2 v4 h5)) (rfl : ([900] : List Nat) = [900])) True.intro))) (by kernel_rfl)
  · obtain ⟨v6, h7, hM⟩ := bind_some hM
    have hE : some (w64 (60 * v6.1), v6.2) = some r := hM
    have hE := Option.some.inj hE
    subst hE
    exact pr R 9999 [.call true [900] (.o (.c (.v (.bool v1.1)))) [(900, .box 87 [.rs 1 (v1.2.b.map encU8), .v (.int .i64 v1.2.i), .v (.int .i64 v1.2.h)])] [], .as 4 false, .call true [900] (.o (.c (.v (.int .i64 v6.1)))) [(900, .box 87 [.rs 1 (v6.2.b.map encU8), .v (.int .i64 v6.2.i), .v (.int .i64 v6.2.h)])] []] [] [900] [] (And.intro (And.intro (con_sw 900 900 (spec_l1Once_ok a0 9 v1 h2)) (rfl : ([900] : List Nat) = [900])) (And.intro h3 (And.intro (And.intro (con_sw 900 900 (spec_l1Below_ok v1.2 200 v6 h7)) (rfl : ([900] : List Nat) = [900])) True.intro))) (by kernel_rfl)

-- loop.example/g03014/spec.DrawEarliestAt
def spec_DrawEarliestAt_x1 (v3 : (Network × l1Cur)) (v5 : (ByteArray × l1Cur)) (v7 : (ByteArray × l1Cur)) (v9 : (Int × l1Cur)) : St := ⟨[(2, .o (.c (.ptr 0 0))), (3, .o (.c (.v (.string v5.1)))), (4, .o (.c (.v (.string v7.1)))), (5, .o (.c (.v (.int .i64 v9.1))))], [(0, .box 27 [.rs 6 (v3.1.Legs.map Leg.enc), .rs 1 (v3.1.Off.map encI), .v (.int .i64 v3.1.Change)])]⟩
def spec_DrawEarliestAt_s1 (v3 : (Network × l1Cur)) : St := ⟨[(2, .o (.c (.ptr 0 0))), (6, .o (.c (.ptr 1 0))), (7, .o (.c (.ptr 2 0)))], [(0, .box 27 [.v (.slice none 0 0), .v (.slice none 0 0), .v (.int .i64 0)]), (1, .box 87 [.rs 1 (v3.2.b.map encU8), .v (.int .i64 v3.2.i), .v (.int .i64 v3.2.h)]), (2, .box 27 [.rs 6 (v3.1.Legs.map Leg.enc), .rs 1 (v3.1.Off.map encI), .v (.int .i64 v3.1.Change)])]⟩
def spec_DrawEarliestAt_o1 (v5 : (ByteArray × l1Cur)) (v7 : (ByteArray × l1Cur)) (v9 : (Int × l1Cur)) : List (List Orc) := [[], [], [], [.call true [1] (.o (.c (.v (.string v5.1)))) [(1, .box 87 [.rs 1 (v5.2.b.map encU8), .v (.int .i64 v5.2.i), .v (.int .i64 v5.2.h)])] []], [], [], [.call true [1] (.o (.c (.v (.string v7.1)))) [(1, .box 87 [.rs 1 (v7.2.b.map encU8), .v (.int .i64 v7.2.i), .v (.int .i64 v7.2.h)])] []], [], [.call true [1] (.o (.c (.v (.int .i64 v9.1)))) [(1, .box 87 [.rs 1 (v9.2.b.map encU8), .v (.int .i64 v9.2.i), .v (.int .i64 v9.2.h)])] []], [], [], [], []]
theorem spec_DrawEarliestAt_y1 (v3 : (Network × l1Cur)) (v5 : (ByteArray × l1Cur)) (v7 : (ByteArray × l1Cur)) (v9 : (Int × l1Cur)) (L : List Nat) : subX Try.prog [] 21 (opsOf (cAt Try.f36 [1, 1, 1, 0])) (spec_DrawEarliestAt_o1 v5 v7 v9) L (spec_DrawEarliestAt_s1 v3) = subX Try.prog [] 21 (opsOf (cAt Try.f36 [1, 1, 1, 0])) (spec_DrawEarliestAt_o1 v5 v7 v9) L (spec_DrawEarliestAt_s1 v3) := rfl
def spec_DrawEarliestAt_j1 (v3 : (Network × l1Cur)) (v5 : (ByteArray × l1Cur)) (v7 : (ByteArray × l1Cur)) (v9 : (Int × l1Cur)) : Option (Network × ByteArray × ByteArray × Int) :=
  some ((Network.mk v3.1.Legs v3.1.Off v3.1.Change), v5.1, v7.1, v9.1)
def spec_DrawEarliestAt (a0 : (List Int)) : Option (Network × ByteArray × ByteArray × Int) :=
  (spec_l1New a0).bind fun v1 =>
  (spec_l4Net v1).bind fun v3 =>
  (spec_l4Of_at1ro v3.2 v3.1).bind fun v5 =>
  (spec_l4Of_at1ro v5.2 v3.1).bind fun v7 =>
  (spec_l4At v7.2).bind fun v9 =>
  spec_DrawEarliestAt_j1 v3 v5 v7 v9
theorem spec_DrawEarliestAt_ok (a0 : (List Int)) (r : Network × ByteArray × ByteArray × Int) (hM : spec_DrawEarliestAt a0 = some r) :
    Con Try.prog 36 [.c (.rs 1 (a0.map encU8))] [] (.tup [.agg [.rs 6 (r.1.Legs.map Leg.enc), .rs 1 (r.1.Off.map encI), .v (.int .i64 r.1.Change)], .c (.v (.string r.2.1)), .c (.v (.string r.2.2.1)), .c (.v (.int .i64 r.2.2.2))]) [] [] := by
  unfold spec_DrawEarliestAt at hM
  refine cn (N := 21) (pids := []) Try_mixed Try.func36 (by kernel_rfl) (by kernel_rfl) (by kernel_rfl) rfl fun ρ g w R => ?_
  obtain ⟨v1, h2, hM⟩ := bind_some hM
  obtain ⟨v3, h4, hM⟩ := bind_some hM
  obtain ⟨v5, h6, hM⟩ := bind_some hM
  obtain ⟨v7, h8, hM⟩ := bind_some hM
  obtain ⟨v9, h10, hM⟩ := bind_some hM
  have J1 : ∀ (_ : Unit), spec_DrawEarliestAt_j1 v3 v5 v7 v9 = some r → Gr R [.code .ret] (spec_DrawEarliestAt_x1 v3 v5 v7 v9) := by
    intro _ hM
    unfold spec_DrawEarliestAt_j1 at hM
    have hE : some ((Network.mk v3.1.Legs v3.1.Off v3.1.Change), v5.1, v7.1, v9.1) = some r := hM
    have hE := Option.some.inj hE
    subst hE
    exact pr R 9999 [] [] [] [] True.intro (by kernel_rfl)
  exact pc R 8 [.new 0, .call true [] (.o (.c (.ptr 1 0))) [] [(1, .box 87 [.rs 1 (v1.b.map encU8), .v (.int .i64 v1.i), .v (.int .i64 v1.h)])], .call true [1] (.o (.agg [.rs 6 (v3.1.Legs.map Leg.enc), .rs 1 (v3.1.Off.map encI), .v (.int .i64 v3.1.Change)])) [(1, .box 87 [.rs 1 (v3.2.b.map encU8), .v (.int .i64 v3.2.i), .v (.int .i64 v3.2.h)])] [], .new 2, .xg (spec_DrawEarliestAt_o1 v5 v7 v9) [.keep [2, 6, 7] [0, 1, 2]] [.keep [2, 3, 4, 5] [0]] (spec_DrawEarliestAt_x1 v3 v5 v7 v9) [[1, 4, 7], [0, 1, 4, 7], [1, 2, 4, 7], [1, 4, 5, 7], [0, 1, 2, 4, 7], [0, 1, 4, 5, 7], [1, 2, 3, 4, 7], [1, 2, 4, 5, 7], [0, 1, 2, 3, 4, 7], [0, 1, 2, 4, 5, 7], [1, 2, 3, 4, 5, 7], [0, 1, 2, 3, 4, 5, 7], [1, 2, 3, 4, 5, 6, 7], [0, 1, 2, 3, 4, 5, 6, 7], [1, 2, 3, 4, 5, 6, 7, 8], [0, 1, 2, 3, 4, 5, 6, 7, 8]]] [] (And.intro (And.intro (con_sw 1000 1 (spec_l1New_ok a0 v1 h2)) (rfl : ([] : List Nat) = [])) (And.intro (And.intro (con_sw 900 1 (spec_l4Net_ok v1 v3 h4)) (rfl : ([1] : List Nat) = [1])) (And.intro (spec_DrawEarliestAt_y1 v3 v5 v7 v9 [1, 4, 7]) (And.intro (spec_DrawEarliestAt_y1 v3 v5 v7 v9 [0, 1, 4, 7]) (And.intro (spec_DrawEarliestAt_y1 v3 v5 v7 v9 [1, 2, 4, 7]) (And.intro (spec_DrawEarliestAt_y1 v3 v5 v7 v9 [1, 4, 5, 7]) (And.intro (spec_DrawEarliestAt_y1 v3 v5 v7 v9 [0, 1, 2, 4, 7]) (And.intro (spec_DrawEarliestAt_y1 v3 v5 v7 v9 [0, 1, 4, 5, 7]) (And.intro (spec_DrawEarliestAt_y1 v3 v5 v7 v9 [0, 1, 2, 4, 7]) (And.intro (And.intro (con_sw 900 1 (spec_l4Of_at1ro_ok v3.2 v3.1 v5 h6)) (rfl : ([1] : List Nat) = [1])) (And.intro (spec_DrawEarliestAt_y1 v3 v5 v7 v9 [1, 2, 3, 4, 7]) (And.intro (spec_DrawEarliestAt_y1 v3 v5 v7 v9 [1, 2, 4, 5, 7]) (And.intro (spec_DrawEarliestAt_y1 v3 v5 v7 v9 [0, 1, 4, 5, 7]) (And.intro (spec_DrawEarliestAt_y1 v3 v5 v7 v9 [1, 2, 4, 5, 7]) (And.intro (And.intro (con_sw 900 1 (spec_l4Of_at1ro_ok v3.2 v3.1 v5 h6)) (rfl : ([1] : List Nat) = [1])) (And.intro (spec_DrawEarliestAt_y1 v3 v5 v7 v9 [0, 1, 2, 3, 4, 7]) (And.intro (spec_DrawEarliestAt_y1 v3 v5 v7 v9 [0, 1, 2, 4, 5, 7]) (And.intro (spec_DrawEarliestAt_y1 v3 v5 v7 v9 [0, 1, 2, 4, 5, 7]) (And.intro (spec_DrawEarliestAt_y1 v3 v5 v7 v9 [0, 1, 2, 3, 4, 7]) (And.intro (spec_DrawEarliestAt_y1 v3 v5 v7 v9 [1, 2, 3, 4, 5, 7]) (And.intro (spec_DrawEarliestAt_y1 v3 v5 v7 v9 [0, 1, 2, 4, 5, 7]) (And.intro (And.intro (con_sw 900 1 (spec_l4Of_at1ro_ok v3.2 v3.1 v5 h6)) (rfl : ([1] : List Nat) = [1])) (And.intro (spec_DrawEarliestAt_y1 v3 v5 v7 v9 [1, 2, 3, 4, 5, 7]) (And.intro (spec_DrawEarliestAt_y1 v3 v5 v7 v9 [0, 1, 2, 3, 4, 5, 7]) (And.intro (And.intro (con_sw 900 1 (spec_l4Of_at1ro_ok v3.2 v3.1 v5 h6)) (rfl : ([1] : List Nat) = [1])) (And.intro (spec_DrawEarliestAt_y1 v3 v5 v7 v9 [0, 1, 2, 3, 4, 5, 7]) (And.intro (spec_DrawEarliestAt_y1 v3 v5 v7 v9 [0, 1, 2, 3, 4, 5, 7]) (And.intro (And.intro (con_sw 900 1 (spec_l4Of_at1ro_ok v5.2 v3.1 v7 h8)) (rfl : ([1] : List Nat) = [1])) (And.intro (spec_DrawEarliestAt_y1 v3 v5 v7 v9 [1, 2, 3, 4, 5, 6, 7]) (And.intro (And.intro (con_sw 900 1 (spec_l4Of_at1ro_ok v5.2 v3.1 v7 h8)) (rfl : ([1] : List Nat) = [1])) (And.intro (spec_DrawEarliestAt_y1 v3 v5 v7 v9 [0, 1, 2, 3, 4, 5, 6, 7]) (And.intro (spec_DrawEarliestAt_y1 v3 v5 v7 v9 [0, 1, 2, 3, 4, 5, 6, 7]) (And.intro (And.intro (con_sw 900 1 (spec_l4At_ok v7.2 v9 h10)) (rfl : ([1] : List Nat) = [1])) (And.intro (spec_DrawEarliestAt_y1 v3 v5 v7 v9 [1, 2, 3, 4, 5, 6, 7, 8]) (And.intro (And.intro (con_sw 900 1 (spec_l4At_ok v7.2 v9 h10)) (rfl : ([1] : List Nat) = [1])) (And.intro (spec_DrawEarliestAt_y1 v3 v5 v7 v9 [0, 1, 2, 3, 4, 5, 6, 7, 8]) (And.intro (spec_DrawEarliestAt_y1 v3 v5 v7 v9 [0, 1, 2, 3, 4, 5, 6, 7, 8]) (And.intro (rfl : (spec_DrawEarliestAt_x1 v3 v5 v7 v9) = (spec_DrawEarliestAt_x1 v3 v5 v7 v9)) True.intro)))))))))))))))))))))))))))))))))))))) (by kernel_rfl) (J1 () hM)

-- loop.example/g03014/spec.DrawIsNetwork
def spec_DrawIsNetwork (a0 : (List Int)) : Option Network :=
  (spec_l1New a0).bind fun v1 =>
  (spec_l3Any v1).bind fun v3 =>
  some (Network.mk v3.1.Legs v3.1.Off v3.1.Change)
theorem spec_DrawIsNetwork_ok (a0 : (List Int)) (r : Network) (hM : spec_DrawIsNetwork a0 = some r) :
    Con Try.prog 37 [.c (.rs 1 (a0.map encU8))] [] (.o (.agg [.rs 6 (r.Legs.map Leg.enc), .rs 1 (r.Off.map encI), .v (.int .i64 r.Change)])) [] [] := by
  unfold spec_DrawIsNetwork at hM
  refine cn (N := 6) (pids := []) Try_mixed Try.func37 (by kernel_rfl) (by kernel_rfl) (by kernel_rfl) rfl fun ρ g w R => ?_
  obtain ⟨v1, h2, hM⟩ := bind_some hM
  obtain ⟨v3, h4, hM⟩ := bind_some hM
  have hE : some (Network.mk v3.1.Legs v3.1.Off v3.1.Change) = some r := hM
  have hE := Option.some.inj hE
  subst hE
  exact pr R 9999 [.new 0, .call true [] (.o (.c (.ptr 1 0))) [] [(1, .box 87 [.rs 1 (v1.b.map encU8), .v (.int .i64 v1.i), .v (.int .i64 v1.h)])], .call true [1] (.o (.agg [.rs 6 (v3.1.Legs.map Leg.enc), .rs 1 (v3.1.Off.map encI), .v (.int .i64 v3.1.Change)])) [(1, .box 87 [.rs 1 (v3.2.b.map encU8), .v (.int .i64 v3.2.i), .v (.int .i64 v3.2.h)])] []] [] [] [] (And.intro (And.intro (con_sw 1000 1 (spec_l1New_ok a0 v1 h2)) (rfl : ([] : List Nat) = [])) (And.intro (And.intro (con_sw 900 1 (spec_l3Any_ok v1 v3 h4)) (rfl : ([1] : List Nat) = [1])) True.intro)) (by kernel_rfl)

-- loop.example/g03014/spec.l1In
def spec_l1In (a0 : Int) (a1 : Int) (a2 : Int) : Option Bool :=
  bif (decide (a0 ≥ a1)) then
  some (decide (a0 ≤ a2))
  else
  some false
theorem spec_l1In_ok (a0 : Int) (a1 : Int) (a2 : Int) (r : Bool) (hM : spec_l1In a0 a1 a2 = some r) :
    Con Try.prog 64 [.c (.v (.int .i64 a0)), .c (.v (.int .i64 a1)), .c (.v (.int .i64 a2))] [] (.o (.c (.v (.bool r)))) [] [] := by
  unfold spec_l1In at hM
  refine cn (N := 15) (pids := []) Try_mixed Try.func64 (by kernel_rfl) (by kernel_rfl) (by kernel_rfl) rfl fun ρ g w R => ?_
  rcases cond_cases hM with ⟨h1, hM⟩ | ⟨h1, hM⟩
  · have hE : some (decide (a0 ≤ a2)) = some r := hM
    have hE := Option.some.inj hE
    subst hE
    exact pr R 9999 [.as 10 true] [] [] [] (And.intro h1 True.intro) (by kernel_rfl)
  · have hE : some false = some r := hM
    have hE := Option.some.inj hE
    subst hE
    exact pr R 9999 [.as 10 false] [] [] [] (And.intro h1 True.intro) (by kernel_rfl)

-- loop.example/g03014/spec.IsPlace
def spec_IsPlace_L1_b (a0 : ByteArray) (s2 : Int) : Option (Ctl Int Unit Bool) :=
  bif (decide (s2 < 3)) then
  (siM a0 s2).bind fun v4 =>
  (spec_l1In (w64 v4) 65 90).bind fun v6 =>
  bif (!v6) then
  some (.ret false)
  else
  some (.next (w64 (s2 + 1)))
  else
  some (.brk ())
def spec_IsPlace_L1 (a0 : ByteArray) (s : Int) : Option (Ctl Int Unit Bool) := spec_IsPlace_L1_b a0 s
def spec_IsPlace_L1_s (a0 : ByteArray) (s2 : Int) : St := ⟨[(0, .o (.c (.v (.string a0)))), (3, .o (.c (.v (.int .i64 s2))))], []⟩
def spec_IsPlace_L1_S (a0 : ByteArray) (s : Int) : St := spec_IsPlace_L1_s a0 s
def spec_IsPlace_L1_a : Option Bool :=
  some true
def spec_IsPlace_L1_k (x : (Unit) ⊕ (Bool)) : Option Bool := match x with
  | .inl t => spec_IsPlace_L1_a
  | .inr y => some y
def spec_IsPlace (a0 : ByteArray) : Option Bool :=
  bif ((a0.size : Int) != 3) then
  some false
  else
  (loopM (spec_IsPlace_L1 a0) big 0).bind (spec_IsPlace_L1_k)
theorem spec_IsPlace_ok (a0 : ByteArray) (r : Bool) (hM : spec_IsPlace a0 = some r) :
    Con Try.prog 66 [.c (.v (.string a0))] [] (.o (.c (.v (.bool r)))) [] [] := by
  unfold spec_IsPlace at hM
  refine cn (N := 17) (pids := []) Try_mixed Try.func66 (by kernel_rfl) (by kernel_rfl) (by kernel_rfl) rfl fun ρ g w R => ?_
  rcases cond_cases hM with ⟨h1, hM⟩ | ⟨h1, hM⟩
  · have hE : some false = some r := hM
    have hE := Option.some.inj hE
    subst hE
    exact pr R 9999 [.as 6 true] [] [] [] (And.intro h1 True.intro) (by kernel_rfl)
  · have K1 : ∀ (_ : Unit), spec_IsPlace_L1_a = some r → Gr R [.code (cAt Try.f66 [1, 1, 1])] (⟨[], []⟩) := by
      intro _ hM
      unfold spec_IsPlace_L1_a at hM
      have hE : some true = some r := hM
      have hE := Option.some.inj hE
      subst hE
      exact pr R 9999 [] [] [] [] True.intro (by kernel_rfl)
    refine pc R 9999 [.as 6 false] [.keep [0, 3] []] (k' := [.code (.loop (cAt Try.f66 [1, 1, 0, 1, 0, 0])), .blk 0, .code (cAt Try.f66 [1, 1, 1])]) (S' := spec_IsPlace_L1_S a0 0) (And.intro h1 True.intro) (by kernel_rfl) ?_
    refine lq (spec_IsPlace_L1_S a0) (body := spec_IsPlace_L1 a0) (k := spec_IsPlace_L1_k) hM fun m1 s c1 hM hK1 => ?_
    obtain ⟨s2, hs⟩ : ∃ z, z = s := ⟨_, rfl⟩
    subst hs
    have hM : spec_IsPlace_L1_b a0 s2 = some c1 := hM
    unfold spec_IsPlace_L1_b at hM
    rcases cond_cases hM with ⟨h3, hM⟩ | ⟨h3, hM⟩
    · obtain ⟨v4, h5, hM⟩ := bind_some hM
      obtain ⟨v6, h7, hM⟩ := bind_some hM
      rcases cond_cases hM with ⟨h8, hM⟩ | ⟨h8, hM⟩
      · have hE : some (Ctl.ret false) = some c1 := hM
        have hE := Option.some.inj hE
        subst hE
        have hE : some false = some r := hK1
        have hE := Option.some.inj hE
        subst hE
        exact pr R 9999 [.as 8 true, .ix [.int .u8 v4], .call false [] (.o (.c (.v (.bool v6)))) [] [], .as 16 true] [] [] [] (And.intro h3 (And.intro (siM_ok h5) (And.intro (spec_l1In_ok (w64 v4) 65 90 v6 h7) (And.intro h8 True.intro)))) (by kernel_rfl)
      · have hE : some (Ctl.next (w64 (s2 + 1))) = some c1 := hM
        have hE := Option.some.inj hE
        subst hE
        exact pc R 9999 [.as 8 true, .ix [.int .u8 v4], .call false [] (.o (.c (.v (.bool v6)))) [] [], .as 16 false] [.keep [0, 3] []] (And.intro h3 (And.intro (siM_ok h5) (And.intro (spec_l1In_ok (w64 v4) 65 90 v6 h7) (And.intro h8 True.intro)))) (by kernel_rfl) (li (Sf := spec_IsPlace_L1_S a0) (M := Mk (spec_IsPlace_L1 a0) (spec_IsPlace_L1_k) r) (k := [.blk 0, .code (cAt Try.f66 [1, 1, 1])]) (Nat.lt_succ_self m1) hK1)
    · have hE : some (Ctl.brk ()) = some c1 := hM
      have hE := Option.some.inj hE
      subst hE
      exact pc R 5 [.as 8 false] [.keep [] []] (And.intro h3 True.intro) (by kernel_rfl) (K1 () hK1)

-- loop.example/g03014/spec.IsLeg
def spec_IsLeg (a0 : Leg) : Option Bool :=
  (spec_IsPlace a0.From).bind fun v1 =>
  bif v1 then
  (spec_IsPlace a0.To).bind fun v4 =>
  bif v4 then
  bif (!(a0.From.toList == a0.To.toList)) then
  (spec_l1In a0.Start 0 1439).bind fun v8 =>
  bif v8 then
  (spec_l1In a0.Takes 1 4320).bind fun v11 =>
  bif v11 then
  (spec_l1In a0.Days 1 127).bind fun v14 =>
  bif v14 then
  (spec_l1In a0.Room 0 1000000).bind fun v17 =>
  some v17
  else
  some false
  else
  some false
  else
  some false
  else
  some false
  else
  some false
  else
  some false
theorem spec_IsLeg_ok (a0 : Leg) (r : Bool) (hM : spec_IsLeg a0 = some r) :
    Con Try.prog 38 [.c (.v (.agg (Leg.enc a0).toArray))] [] (.o (.c (.v (.bool r)))) [] [] := by
  unfold spec_IsLeg at hM
  refine cn (N := 38) (pids := []) Try_mixed Try.func38 (by kernel_rfl) (by kernel_rfl) (by kernel_rfl) rfl fun ρ g w R => ?_
  obtain ⟨v1, h2, hM⟩ := bind_some hM
  rcases cond_cases hM with ⟨h3, hM⟩ | ⟨h3, hM⟩
  · obtain ⟨v4, h5, hM⟩ := bind_some hM
    rcases cond_cases hM with ⟨h6, hM⟩ | ⟨h6, hM⟩
    · rcases cond_cases hM with ⟨h7, hM⟩ | ⟨h7, hM⟩
      · obtain ⟨v8, h9, hM⟩ := bind_some hM
        rcases cond_cases hM with ⟨h10, hM⟩ | ⟨h10, hM⟩
        · obtain ⟨v11, h12, hM⟩ := bind_some hM
          rcases cond_cases hM with ⟨h13, hM⟩ | ⟨h13, hM⟩
          · obtain ⟨v14, h15, hM⟩ := bind_some hM
            rcases cond_cases hM with ⟨h16, hM⟩ | ⟨h16, hM⟩
            · obtain ⟨v17, h18, hM⟩ := bind_some hM
              have hE : some v17 = some r := hM
              have hE := Option.some.inj hE
              subst hE
              exact pr R 9999 [.new 0, .call false [] (.o (.c (.v (.bool v1)))) [] [], .as 6 true, .call false [] (.o (.c (.v (.bool v4)))) [] [], .as 11 true, .as 18 true, .call false [] (.o (.c (.v (.bool v8)))) [] [], .as 23 true, .call false [] (.o (.c (.v (.bool v11)))) [] [], .as 28 true, .call false [] (.o (.c (.v (.bool v14)))) [] [], .as 33 true, .call false [] (.o (.c (.v (.bool v17)))) [] []] [] [] [] (And.intro (spec_IsPlace_ok a0.From v1 h2) (And.intro h3 (And.intro (spec_IsPlace_ok a0.To v4 h5) (And.intro h6 (And.intro h7 (And.intro (spec_l1In_ok a0.Start 0 1439 v8 h9) (And.intro h10 (And.intro (spec_l1In_ok a0.Takes 1 4320 v11 h12) (And.intro h13 (And.intro (spec_l1In_ok a0.Days 1 127 v14 h15) (And.intro h16 (And.intro (spec_l1In_ok a0.Room 0 1000000 v17 h18) True.intro)))))))))))) (by kernel_rfl)
            · have hE : some false = some r := hM
              have hE := Option.some.inj hE
              subst hE
              exact pr R 9999 [.new 0, .call false [] (.o (.c (.v (.bool v1)))) [] [], .as 6 true, .call false [] (.o (.c (.v (.bool v4)))) [] [], .as 11 true, .as 18 true, .call false [] (.o (.c (.v (.bool v8)))) [] [], .as 23 true, .call false [] (.o (.c (.v (.bool v11)))) [] [], .as 28 true, .call false [] (.o (.c (.v (.bool v14)))) [] [], .as 33 false] [] [] [] (And.intro (spec_IsPlace_ok a0.From v1 h2) (And.intro h3 (And.intro (spec_IsPlace_ok a0.To v4 h5) (And.intro h6 (And.intro h7 (And.intro (spec_l1In_ok a0.Start 0 1439 v8 h9) (And.intro h10 (And.intro (spec_l1In_ok a0.Takes 1 4320 v11 h12) (And.intro h13 (And.intro (spec_l1In_ok a0.Days 1 127 v14 h15) (And.intro h16 True.intro))))))))))) (by kernel_rfl)
          · have hE : some false = some r := hM
            have hE := Option.some.inj hE
            subst hE
            exact pr R 9999 [.new 0, .call false [] (.o (.c (.v (.bool v1)))) [] [], .as 6 true, .call false [] (.o (.c (.v (.bool v4)))) [] [], .as 11 true, .as 18 true, .call false [] (.o (.c (.v (.bool v8)))) [] [], .as 23 true, .call false [] (.o (.c (.v (.bool v11)))) [] [], .as 28 false] [] [] [] (And.intro (spec_IsPlace_ok a0.From v1 h2) (And.intro h3 (And.intro (spec_IsPlace_ok a0.To v4 h5) (And.intro h6 (And.intro h7 (And.intro (spec_l1In_ok a0.Start 0 1439 v8 h9) (And.intro h10 (And.intro (spec_l1In_ok a0.Takes 1 4320 v11 h12) (And.intro h13 True.intro))))))))) (by kernel_rfl)
        · have hE : some false = some r := hM
          have hE := Option.some.inj hE
          subst hE
          exact pr R 9999 [.new 0, .call false [] (.o (.c (.v (.bool v1)))) [] [], .as 6 true, .call false [] (.o (.c (.v (.bool v4)))) [] [], .as 11 true, .as 18 true, .call false [] (.o (.c (.v (.bool v8)))) [] [], .as 23 false] [] [] [] (And.intro (spec_IsPlace_ok a0.From v1 h2) (And.intro h3 (And.intro (spec_IsPlace_ok a0.To v4 h5) (And.intro h6 (And.intro h7 (And.intro (spec_l1In_ok a0.Start 0 1439 v8 h9) (And.intro h10 True.intro))))))) (by kernel_rfl)
      · have hE : some false = some r := hM
        have hE := Option.some.inj hE
        subst hE
        exact pr R 9999 [.new 0, .call false [] (.o (.c (.v (.bool v1)))) [] [], .as 6 true, .call false [] (.o (.c (.v (.bool v4)))) [] [], .as 11 true, .as 18 false] [] [] [] (And.intro (spec_IsPlace_ok a0.From v1 h2) (And.intro h3 (And.intro (spec_IsPlace_ok a0.To v4 h5) (And.intro h6 (And.intro h7 True.intro))))) (by kernel_rfl)
    · have hE : some false = some r := hM
      have hE := Option.some.inj hE
      subst hE
      exact pr R 9999 [.new 0, .call false [] (.o (.c (.v (.bool v1)))) [] [], .as 6 true, .call false [] (.o (.c (.v (.bool v4)))) [] [], .as 11 false] [] [] [] (And.intro (spec_IsPlace_ok a0.From v1 h2) (And.intro h3 (And.intro (spec_IsPlace_ok a0.To v4 h5) (And.intro h6 True.intro)))) (by kernel_rfl)
  · have hE : some false = some r := hM
    have hE := Option.some.inj hE
    subst hE
    exact pr R 9999 [.new 0, .call false [] (.o (.c (.v (.bool v1)))) [] [], .as 6 false] [] [] [] (And.intro (spec_IsPlace_ok a0.From v1 h2) (And.intro h3 True.intro)) (by kernel_rfl)

-- loop.example/g03014/spec.IsNetwork
def spec_IsNetwork_L2_b (a0 : Network) (s2 : Int) : Option (Ctl Int Unit Bool) :=
  bif (decide (s2 < (a0.Off.length : Int))) then
  (gi a0.Off s2).bind fun v8 =>
  (spec_l1In v8 0 60).bind fun v10 =>
  bif (!v10) then
  some (.ret false)
  else
  bif (decide (s2 > 0)) then
  (gi a0.Off (w64 (s2 - 1))).bind fun v14 =>
  (gi a0.Off s2).bind fun v16 =>
  bif (decide (v14 ≥ v16)) then
  some (.ret false)
  else
  some (.next (w64 (s2 + 1)))
  else
  some (.next (w64 (s2 + 1)))
  else
  some (.brk ())
def spec_IsNetwork_L2 (a0 : Network) (s : Int) : Option (Ctl Int Unit Bool) := spec_IsNetwork_L2_b a0 s
def spec_IsNetwork_L2_s (a0 : Network) (s2 : Int) : St := ⟨[(1, .o (.c (.ptr 0 0))), (4, .o (.c (.v (.int .i64 s2))))], [(0, .box 27 [.rs 6 (a0.Legs.map Leg.enc), .rs 1 (a0.Off.map encI), .v (.int .i64 a0.Change)])]⟩
def spec_IsNetwork_L2_S (a0 : Network) (s : Int) : St := spec_IsNetwork_L2_s a0 s
def spec_IsNetwork_L2_a (a0 : Network) : Option Bool :=
  bif (decide ((a0.Legs.length : Int) ≤ 20)) then
  bif (decide ((a0.Off.length : Int) ≤ 10)) then
  (spec_l1In a0.Change 0 240).bind fun v5 =>
  some v5
  else
  some false
  else
  some false
def spec_IsNetwork_L2_k (a0 : Network) (x : (Unit) ⊕ (Bool)) : Option Bool := match x with
  | .inl t => spec_IsNetwork_L2_a a0
  | .inr y => some y
def spec_IsNetwork_L1_b (a0 : Network) (s1 : Int) : Option (Ctl Int Unit Bool) :=
  bif (decide (s1 < (a0.Legs.length : Int))) then
  (gi a0.Legs s1).bind fun v20 =>
  (spec_IsLeg v20).bind fun v22 =>
  bif (!v22) then
  some (.ret false)
  else
  some (.next (w64 (s1 + 1)))
  else
  some (.brk ())
def spec_IsNetwork_L1 (a0 : Network) (s : Int) : Option (Ctl Int Unit Bool) := spec_IsNetwork_L1_b a0 s
def spec_IsNetwork_L1_s (a0 : Network) (s1 : Int) : St := ⟨[(1, .o (.c (.ptr 0 0))), (3, .o (.c (.v (.int .i64 s1))))], [(0, .box 27 [.rs 6 (a0.Legs.map Leg.enc), .rs 1 (a0.Off.map encI), .v (.int .i64 a0.Change)])]⟩
def spec_IsNetwork_L1_S (a0 : Network) (s : Int) : St := spec_IsNetwork_L1_s a0 s
def spec_IsNetwork_L1_a (a0 : Network) : Option Bool :=
  (loopM (spec_IsNetwork_L2 a0) big 0).bind (spec_IsNetwork_L2_k a0)
def spec_IsNetwork_L1_k (a0 : Network) (x : (Unit) ⊕ (Bool)) : Option Bool := match x with
  | .inl t => spec_IsNetwork_L1_a a0
  | .inr y => some y
def spec_IsNetwork (a0 : Network) : Option Bool :=
  (loopM (spec_IsNetwork_L1 a0) big 0).bind (spec_IsNetwork_L1_k a0)
theorem spec_IsNetwork_ok (a0 : Network) (r : Bool) (hM : spec_IsNetwork a0 = some r) :
    Con Try.prog 35 [.agg [.rs 6 (a0.Legs.map Leg.enc), .rs 1 (a0.Off.map encI), .v (.int .i64 a0.Change)]] [] (.o (.c (.v (.bool r)))) [] [] := by
  unfold spec_IsNetwork at hM
  refine cn (N := 66) (pids := []) Try_mixed Try.func35 (by kernel_rfl) (by kernel_rfl) (by kernel_rfl) rfl fun ρ g w R => ?_
  have K1 : ∀ (_ : Unit), spec_IsNetwork_L1_a a0 = some r → Gr R [.code (cAt Try.f35 [1, 1])] (⟨[(1, .o (.c (.ptr 0 0)))], [(0, .box 27 [.rs 6 (a0.Legs.map Leg.enc), .rs 1 (a0.Off.map encI), .v (.int .i64 a0.Change)])]⟩) := by
    intro _ hM
    unfold spec_IsNetwork_L1_a at hM
    have K2 : ∀ (_ : Unit), spec_IsNetwork_L2_a a0 = some r → Gr R [.code (cAt Try.f35 [1, 1, 1])] (⟨[(1, .o (.c (.ptr 0 0)))], [(0, .box 27 [.rs 6 (a0.Legs.map Leg.enc), .rs 1 (a0.Off.map encI), .v (.int .i64 a0.Change)])]⟩) := by
      intro _ hM
      unfold spec_IsNetwork_L2_a at hM
      rcases cond_cases hM with ⟨h3, hM⟩ | ⟨h3, hM⟩
      · rcases cond_cases hM with ⟨h4, hM⟩ | ⟨h4, hM⟩
        · obtain ⟨v5, h6, hM⟩ := bind_some hM
          have hE : some v5 = some r := hM
          have hE := Option.some.inj hE
          subst hE
          exact pr R 9999 [.ln (a0.Legs.length), .as 55 true, .ln (a0.Off.length), .as 61 true, .call false [] (.o (.c (.v (.bool v5)))) [] []] [] [] [] (And.intro (lenm Leg.enc a0.Legs) (And.intro h3 (And.intro (lenm encI a0.Off) (And.intro h4 (And.intro (spec_l1In_ok a0.Change 0 240 v5 h6) True.intro))))) (by kernel_rfl)
        · have hE : some false = some r := hM
          have hE := Option.some.inj hE
          subst hE
          exact pr R 9999 [.ln (a0.Legs.length), .as 55 true, .ln (a0.Off.length), .as 61 false] [] [] [] (And.intro (lenm Leg.enc a0.Legs) (And.intro h3 (And.intro (lenm encI a0.Off) (And.intro h4 True.intro)))) (by kernel_rfl)
      · have hE : some false = some r := hM
        have hE := Option.some.inj hE
        subst hE
        exact pr R 9999 [.ln (a0.Legs.length), .as 55 false] [] [] [] (And.intro (lenm Leg.enc a0.Legs) (And.intro h3 True.intro)) (by kernel_rfl)
    refine pc R 9999 [] [.keep [1, 4] [0]] (k' := [.code (.loop (cAt Try.f35 [1, 1, 0, 1, 0, 0])), .blk 2, .code (cAt Try.f35 [1, 1, 1])]) (S' := spec_IsNetwork_L2_S a0 0) True.intro (by kernel_rfl) ?_
    refine lq (spec_IsNetwork_L2_S a0) (body := spec_IsNetwork_L2 a0) (k := spec_IsNetwork_L2_k a0) hM fun m2 s c2 hM hK2 => ?_
    obtain ⟨s2, hs⟩ : ∃ z, z = s := ⟨_, rfl⟩
    subst hs
    have hM : spec_IsNetwork_L2_b a0 s2 = some c2 := hM
    unfold spec_IsNetwork_L2_b at hM
    rcases cond_cases hM with ⟨h7, hM⟩ | ⟨h7, hM⟩
    · obtain ⟨v8, h9, hM⟩ := bind_some hM
      obtain ⟨v10, h11, hM⟩ := bind_some hM
      rcases cond_cases hM with ⟨h12, hM⟩ | ⟨h12, hM⟩
      · have hE : some (Ctl.ret false) = some c2 := hM
        have hE := Option.some.inj hE
        subst hE
        have hE : some false = some r := hK2
        have hE := Option.some.inj hE
        subst hE
        exact pr R 9999 [.ln (a0.Off.length), .as 23 true, .ix (encI v8), .call false [] (.o (.c (.v (.bool v10)))) [] [], .as 33 true] [] [] [] (And.intro (lenm encI a0.Off) (And.intro h7 (And.intro (gi_map encI h9) (And.intro (spec_l1In_ok v8 0 60 v10 h11) (And.intro h12 True.intro))))) (by kernel_rfl)
      · rcases cond_cases hM with ⟨h13, hM⟩ | ⟨h13, hM⟩
        · obtain ⟨v14, h15, hM⟩ := bind_some hM
          obtain ⟨v16, h17, hM⟩ := bind_some hM
          rcases cond_cases hM with ⟨h18, hM⟩ | ⟨h18, hM⟩
          · have hE : some (Ctl.ret false) = some c2 := hM
            have hE := Option.some.inj hE
            subst hE
            have hE : some false = some r := hK2
            have hE := Option.some.inj hE
            subst hE
            exact pr R 9999 [.ln (a0.Off.length), .as 23 true, .ix (encI v8), .call false [] (.o (.c (.v (.bool v10)))) [] [], .as 33 false, .as 36 true, .ix (encI v14), .ix (encI v16), .as 50 true] [] [] [] (And.intro (lenm encI a0.Off) (And.intro h7 (And.intro (gi_map encI h9) (And.intro (spec_l1In_ok v8 0 60 v10 h11) (And.intro h12 (And.intro h13 (And.intro (gi_map encI h15) (And.intro (gi_map encI h17) (And.intro h18 True.intro))))))))) (by kernel_rfl)
          · have hE : some (Ctl.next (w64 (s2 + 1))) = some c2 := hM
            have hE := Option.some.inj hE
            subst hE
            exact pc R 9999 [.ln (a0.Off.length), .as 23 true, .ix (encI v8), .call false [] (.o (.c (.v (.bool v10)))) [] [], .as 33 false, .as 36 true, .ix (encI v14), .ix (encI v16), .as 50 false] [.keep [1, 4] [0]] (And.intro (lenm encI a0.Off) (And.intro h7 (And.intro (gi_map encI h9) (And.intro (spec_l1In_ok v8 0 60 v10 h11) (And.intro h12 (And.intro h13 (And.intro (gi_map encI h15) (And.intro (gi_map encI h17) (And.intro h18 True.intro))))))))) (by kernel_rfl) (li (Sf := spec_IsNetwork_L2_S a0) (M := Mk (spec_IsNetwork_L2 a0) (spec_IsNetwork_L2_k a0) r) (k := [.blk 2, .code (cAt Try.f35 [1, 1, 1])]) (Nat.lt_succ_self m2) hK2)
        · have hE : some (Ctl.next (w64 (s2 + 1))) = some c2 := hM
          have hE := Option.some.inj hE
          subst hE
          exact pc R 9999 [.ln (a0.Off.length), .as 23 true, .ix (encI v8), .call false [] (.o (.c (.v (.bool v10)))) [] [], .as 33 false, .as 36 false] [.keep [1, 4] [0]] (And.intro (lenm encI a0.Off) (And.intro h7 (And.intro (gi_map encI h9) (And.intro (spec_l1In_ok v8 0 60 v10 h11) (And.intro h12 (And.intro h13 True.intro)))))) (by kernel_rfl) (li (Sf := spec_IsNetwork_L2_S a0) (M := Mk (spec_IsNetwork_L2 a0) (spec_IsNetwork_L2_k a0) r) (k := [.blk 2, .code (cAt Try.f35 [1, 1, 1])]) (Nat.lt_succ_self m2) hK2)
    · have hE : some (Ctl.brk ()) = some c2 := hM
      have hE := Option.some.inj hE
      subst hE
      exact pc R 5 [.ln (a0.Off.length), .as 23 false] [.keep [1] [0]] (And.intro (lenm encI a0.Off) (And.intro h7 True.intro)) (by kernel_rfl) (K2 () hK2)
  refine pc R 9999 [.new 0] [.keep [1, 3] [0]] (k' := [.code (.loop (cAt Try.f35 [1, 0, 1, 0, 0])), .blk 0, .code (cAt Try.f35 [1, 1])]) (S' := spec_IsNetwork_L1_S a0 0) True.intro (by kernel_rfl) ?_
  refine lq (spec_IsNetwork_L1_S a0) (body := spec_IsNetwork_L1 a0) (k := spec_IsNetwork_L1_k a0) hM fun m1 s c1 hM hK1 => ?_
  obtain ⟨s1, hs⟩ : ∃ z, z = s := ⟨_, rfl⟩
  subst hs
  have hM : spec_IsNetwork_L1_b a0 s1 = some c1 := hM
  unfold spec_IsNetwork_L1_b at hM
  rcases cond_cases hM with ⟨h19, hM⟩ | ⟨h19, hM⟩
  · obtain ⟨v20, h21, hM⟩ := bind_some hM
    obtain ⟨v22, h23, hM⟩ := bind_some hM
    rcases cond_cases hM with ⟨h24, hM⟩ | ⟨h24, hM⟩
    · have hE : some (Ctl.ret false) = some c1 := hM
      have hE := Option.some.inj hE
      subst hE
      have hE : some false = some r := hK1
      have hE := Option.some.inj hE
      subst hE
      exact pr R 9999 [.ln (a0.Legs.length), .as 9 true, .ix (Leg.enc v20), .call false [] (.o (.c (.v (.bool v22)))) [] [], .as 18 true] [] [] [] (And.intro (lenm Leg.enc a0.Legs) (And.intro h19 (And.intro (gi_map Leg.enc h21) (And.intro (spec_IsLeg_ok v20 v22 h23) (And.intro h24 True.intro))))) (by kernel_rfl)
    · have hE : some (Ctl.next (w64 (s1 + 1))) = some c1 := hM
      have hE := Option.some.inj hE
      subst hE
      exact pc R 9999 [.ln (a0.Legs.length), .as 9 true, .ix (Leg.enc v20), .call false [] (.o (.c (.v (.bool v22)))) [] [], .as 18 false] [.keep [1, 3] [0]] (And.intro (lenm Leg.enc a0.Legs) (And.intro h19 (And.intro (gi_map Leg.enc h21) (And.intro (spec_IsLeg_ok v20 v22 h23) (And.intro h24 True.intro))))) (by kernel_rfl) (li (Sf := spec_IsNetwork_L1_S a0) (M := Mk (spec_IsNetwork_L1 a0) (spec_IsNetwork_L1_k a0) r) (k := [.blk 0, .code (cAt Try.f35 [1, 1])]) (Nat.lt_succ_self m1) hK1)
  · have hE : some (Ctl.brk ()) = some c1 := hM
    have hE := Option.some.inj hE
    subst hE
    exact pc R 5 [.ln (a0.Legs.length), .as 9 false] [.keep [1] [0]] (And.intro (lenm Leg.enc a0.Legs) (And.intro h19 True.intro)) (by kernel_rfl) (K1 () hK1)

-- math/bits.Len64
def bits_Len64_j2 (s3 : Int) (s4 : Int) : Option Int :=
  bif (decide (s3 ≥ 256)) then
  (siM (ByteArray.mk #[0, 1, 2, 2, 3, 3, 3, 3, 4, 4, 4, 4, 4, 4, 4, 4, 5, 5, 5, 5, 5, 5, 5, 5, 5, 5, 5, 5, 5, 5, 5, 5, 6, 6, 6, 6, 6, 6, 6, 6, 6, 6, 6, 6, 6, 6, 6, 6, 6, 6, 6, 6, 6, 6, 6, 6, 6, 6, 6, 6, 6, 6, 6, 6, 7, 7, 7, 7, 7, 7, 7, 7, 7, 7, 7, 7, 7, 7, 7, 7, 7, 7, 7, 7, 7, 7, 7, 7, 7, 7, 7, 7, 7, 7, 7, 7, 7, 7, 7, 7, 7, 7, 7, 7, 7, 7, 7, 7, 7, 7, 7, 7, 7, 7, 7, 7, 7, 7, 7, 7, 7, 7, 7, 7, 7, 7, 7, 7, 8, 8, 8, 8, 8, 8, 8, 8, 8, 8, 8, 8, 8, 8, 8, 8, 8, 8, 8, 8, 8, 8, 8, 8, 8, 8, 8, 8, 8, 8, 8, 8, 8, 8, 8, 8, 8, 8, 8, 8, 8, 8, 8, 8, 8, 8, 8, 8, 8, 8, 8, 8, 8, 8, 8, 8, 8, 8, 8, 8, 8, 8, 8, 8, 8, 8, 8, 8, 8, 8, 8, 8, 8, 8, 8, 8, 8, 8, 8, 8, 8, 8, 8, 8, 8, 8, 8, 8, 8, 8, 8, 8, 8, 8, 8, 8, 8, 8, 8, 8, 8, 8, 8, 8, 8, 8, 8, 8, 8, 8, 8, 8, 8, 8, 8, 8, 8, 8, 8, 8, 8, 8, 8, 8, 8, 8, 8, 8]) (IntKind.u8.wrap (Int.fdiv s3 (2 ^ 8)))).bind fun v6 =>
  some (w64 ((w64 (s4 + 8)) + (w64 v6)))
  else
  (siM (ByteArray.mk #[0, 1, 2, 2, 3, 3, 3, 3, 4, 4, 4, 4, 4, 4, 4, 4, 5, 5, 5, 5, 5, 5, 5, 5, 5, 5, 5, 5, 5, 5, 5, 5, 6, 6, 6, 6, 6, 6, 6, 6, 6, 6, 6, 6, 6, 6, 6, 6, 6, 6, 6, 6, 6, 6, 6, 6, 6, 6, 6, 6, 6, 6, 6, 6, 7, 7, 7, 7, 7, 7, 7, 7, 7, 7, 7, 7, 7, 7, 7, 7, 7, 7, 7, 7, 7, 7, 7, 7, 7, 7, 7, 7, 7, 7, 7, 7, 7, 7, 7, 7, 7, 7, 7, 7, 7, 7, 7, 7, 7, 7, 7, 7, 7, 7, 7, 7, 7, 7, 7, 7, 7, 7, 7, 7, 7, 7, 7, 7, 8, 8, 8, 8, 8, 8, 8, 8, 8, 8, 8, 8, 8, 8, 8, 8, 8, 8, 8, 8, 8, 8, 8, 8, 8, 8, 8, 8, 8, 8, 8, 8, 8, 8, 8, 8, 8, 8, 8, 8, 8, 8, 8, 8, 8, 8, 8, 8, 8, 8, 8, 8, 8, 8, 8, 8, 8, 8, 8, 8, 8, 8, 8, 8, 8, 8, 8, 8, 8, 8, 8, 8, 8, 8, 8, 8, 8, 8, 8, 8, 8, 8, 8, 8, 8, 8, 8, 8, 8, 8, 8, 8, 8, 8, 8, 8, 8, 8, 8, 8, 8, 8, 8, 8, 8, 8, 8, 8, 8, 8, 8, 8, 8, 8, 8, 8, 8, 8, 8, 8, 8, 8, 8, 8, 8, 8, 8, 8]) (IntKind.u8.wrap s3)).bind fun v8 =>
  some (w64 (s4 + (w64 v8)))
def bits_Len64_j1 (s1 : Int) (s2 : Int) : Option Int :=
  bif (decide (s1 ≥ 65536)) then
  bits_Len64_j2 (Int.fdiv s1 (2 ^ 16)) (w64 (s2 + 16))
  else
  bits_Len64_j2 s1 s2
def bits_Len64 (a0 : Int) : Option Int :=
  bif (decide (a0 ≥ 4294967296)) then
  bits_Len64_j1 (Int.fdiv a0 (2 ^ 32)) 32
  else
  bits_Len64_j1 a0 0
theorem bits_Len64_ok (a0 : Int) (r : Int) (hM : bits_Len64 a0 = some r) :
    Con Try.prog 120 [.c (.v (.int .u64 a0))] [] (.o (.c (.v (.int .i64 r)))) [] [] := by
  unfold bits_Len64 at hM
  refine cn (N := 25) (pids := []) Try_mixed Try.func120 (by kernel_rfl) (by kernel_rfl) (by kernel_rfl) rfl fun ρ g w R => ?_
  have J2 : ∀ (s1 : Int) (s2 : Int), bits_Len64_j1 s1 s2 = some r → Gr R [.code (cAt Try.f120 [1, 1])] (⟨[(0, .o (.c (.v (.int .u64 s1)))), (2, .o (.c (.v (.int .i64 s2))))], []⟩) := by
    intro s1 s2 hM
    unfold bits_Len64_j1 at hM
    have J2 : ∀ (s3 : Int) (s4 : Int), bits_Len64_j2 s3 s4 = some r → Gr R [.code (cAt Try.f120 [1, 1, 1])] (⟨[(0, .o (.c (.v (.int .u64 s3)))), (2, .o (.c (.v (.int .i64 s4))))], []⟩) := by
      intro s3 s4 hM
      unfold bits_Len64_j2 at hM
      rcases cond_cases hM with ⟨h5, hM⟩ | ⟨h5, hM⟩
      · obtain ⟨v6, h7, hM⟩ := bind_some hM
        have hE : some (w64 ((w64 (s4 + 8)) + (w64 v6))) = some r := hM
        have hE := Option.some.inj hE
        subst hE
        exact pr R 9999 [.as 14 true, .ix [.int .u8 v6]] [] [] [] (And.intro h5 (And.intro (siM_ok h7) True.intro)) (by kernel_rfl)
      · obtain ⟨v8, h9, hM⟩ := bind_some hM
        have hE : some (w64 (s4 + (w64 v8))) = some r := hM
        have hE := Option.some.inj hE
        subst hE
        exact pr R 9999 [.as 14 false, .ix [.int .u8 v8]] [] [] [] (And.intro h5 (And.intro (siM_ok h9) True.intro)) (by kernel_rfl)
    rcases cond_cases hM with ⟨h10, hM⟩ | ⟨h10, hM⟩
    · exact pc R 7 [.as 8 true] [.keep [0, 2] []] (And.intro h10 True.intro) (by kernel_rfl) (J2 (Int.fdiv s1 (2 ^ 16)) (w64 (s2 + 16)) hM)
    · exact pc R 5 [.as 8 false] [.keep [0, 2] []] (And.intro h10 True.intro) (by kernel_rfl) (J2 s1 s2 hM)
  rcases cond_cases hM with ⟨h11, hM⟩ | ⟨h11, hM⟩
  · exact pc R 9 [.as 4 true] [.keep [0, 2] []] (And.intro h11 True.intro) (by kernel_rfl) (J2 (Int.fdiv a0 (2 ^ 32)) 32 hM)
  · exact pc R 7 [.as 4 false] [.keep [0, 2] []] (And.intro h11 True.intro) (by kernel_rfl) (J2 a0 0 hM)

-- math/bits.Len
def bits_Len (a0 : Int) : Option Int :=
  (bits_Len64 a0).bind fun v1 =>
  some v1
theorem bits_Len_ok (a0 : Int) (r : Int) (hM : bits_Len a0 = some r) :
    Con Try.prog 107 [.c (.v (.int .u64 a0))] [] (.o (.c (.v (.int .i64 r)))) [] [] := by
  unfold bits_Len at hM
  refine cn (N := 8) (pids := []) Try_mixed Try.func107 (by kernel_rfl) (by kernel_rfl) (by kernel_rfl) rfl fun ρ g w R => ?_
  obtain ⟨v1, h2, hM⟩ := bind_some hM
  have hE : some v1 = some r := hM
  have hE := Option.some.inj hE
  subst hE
  exact pr R 9999 [.call false [] (.o (.c (.v (.int .i64 v1)))) [] []] [] [] [] (And.intro (bits_Len64_ok a0 v1 h2) True.intro) (by kernel_rfl)

-- slices.insertionSortOrdered[string]
def slices_insertionSortOrdered_string__at0nil_10_20_L1_b : Option (Ctl Unit Unit Unit) :=
  some (.brk ())
def slices_insertionSortOrdered_string__at0nil_10_20_L1 (s : Unit) : Option (Ctl Unit Unit Unit) := slices_insertionSortOrdered_string__at0nil_10_20_L1_b
def slices_insertionSortOrdered_string__at0nil_10_20_L1_s : St := ⟨[(0, .o (.c (.v (.slice none 0 0)))), (1, .o (.c (.v (.int .i64 0)))), (2, .o (.c (.v (.int .i64 0)))), (6, .o (.c (.v (.int .i64 1))))], []⟩
def slices_insertionSortOrdered_string__at0nil_10_20_L1_S (s : Unit) : St := slices_insertionSortOrdered_string__at0nil_10_20_L1_s
def slices_insertionSortOrdered_string__at0nil_10_20_L1_a : Option Unit :=
  some ()
def slices_insertionSortOrdered_string__at0nil_10_20_L1_k (x : (Unit) ⊕ (Unit)) : Option Unit := match x with
  | .inl t => slices_insertionSortOrdered_string__at0nil_10_20_L1_a
  | .inr y => some y
def slices_insertionSortOrdered_string__at0nil_10_20 : Option Unit :=
  (loopM (slices_insertionSortOrdered_string__at0nil_10_20_L1) big ()).bind (slices_insertionSortOrdered_string__at0nil_10_20_L1_k)
theorem slices_insertionSortOrdered_string__at0nil_10_20_ok (r : Unit) (hM : slices_insertionSortOrdered_string__at0nil_10_20 = some r) :
    Con Try.prog 110 [.c (.v (.slice none 0 0)), .c (.v (.int .i64 0)), .c (.v (.int .i64 0))] [] (.tup []) [] [] := by
  unfold slices_insertionSortOrdered_string__at0nil_10_20 at hM
  refine cn (N := 49) (pids := []) Try_mixed Try.func110 (by kernel_rfl) (by kernel_rfl) (by kernel_rfl) rfl fun ρ g w R => ?_
  have K1 : ∀ (_ : Unit), slices_insertionSortOrdered_string__at0nil_10_20_L1_a = some r → Gr R [] (⟨[], []⟩) := by
    intro _ hM
    unfold slices_insertionSortOrdered_string__at0nil_10_20_L1_a at hM
    have hE : some () = some r := hM
    have hE := Option.some.inj hE
    subst hE
    exact pr R 9999 [] [] [] [] True.intro (by kernel_rfl)
  refine pc R 9999 [] [.keep [0, 1, 2, 6] []] (k' := [.code (.loop (cAt Try.f110 [1, 0, 0])), .blk 0]) (S' := slices_insertionSortOrdered_string__at0nil_10_20_L1_S ()) True.intro (by kernel_rfl) ?_
  refine lq (slices_insertionSortOrdered_string__at0nil_10_20_L1_S) (body := slices_insertionSortOrdered_string__at0nil_10_20_L1) (k := slices_insertionSortOrdered_string__at0nil_10_20_L1_k) hM fun m1 s c1 hM hK1 => ?_
  have hM : slices_insertionSortOrdered_string__at0nil_10_20_L1_b = some c1 := hM
  unfold slices_insertionSortOrdered_string__at0nil_10_20_L1_b at hM
  have hE : some (Ctl.brk ()) = some c1 := hM
  have hE := Option.some.inj hE
  subst hE
  exact pc R 5 [] [.keep [] []] True.intro (by kernel_rfl) (K1 () hK1)

-- slices.pdqsortOrdered[string]
def slices_pdqsortOrdered_string__at0nil_10_20_L1_b : Option (Ctl Unit Unit Unit) :=
  (slices_insertionSortOrdered_string__at0nil_10_20).bind fun v1 =>
  some (.ret ())
def slices_pdqsortOrdered_string__at0nil_10_20_L1 (s : Unit) : Option (Ctl Unit Unit Unit) := slices_pdqsortOrdered_string__at0nil_10_20_L1_b
def slices_pdqsortOrdered_string__at0nil_10_20_L1_s (a3 : Int) : St := ⟨[(0, .o (.c (.v (.slice none 0 0)))), (1, .o (.c (.v (.int .i64 0)))), (2, .o (.c (.v (.int .i64 0)))), (3, .o (.c (.v (.int .i64 a3)))), (8, .o (.c (.v (.bool true)))), (9, .o (.c (.v (.bool true))))], []⟩
def slices_pdqsortOrdered_string__at0nil_10_20_L1_S (a3 : Int) (s : Unit) : St := slices_pdqsortOrdered_string__at0nil_10_20_L1_s a3
def slices_pdqsortOrdered_string__at0nil_10_20_L1_k (x : Unit ⊕ (Unit)) : Option Unit := match x with
  | .inl _ => none
  | .inr y => some y
def slices_pdqsortOrdered_string__at0nil_10_20_F (self : Int → Option Unit) (a3 : Int) : Option Unit :=
  (loopM (slices_pdqsortOrdered_string__at0nil_10_20_L1) big ()).bind (slices_pdqsortOrdered_string__at0nil_10_20_L1_k)
def slices_pdqsortOrdered_string__at0nil_10_20_n : Nat → Int → Option Unit
  | 0, _ => none
  | n + 1, a3 => slices_pdqsortOrdered_string__at0nil_10_20_F (slices_pdqsortOrdered_string__at0nil_10_20_n n) a3
def slices_pdqsortOrdered_string__at0nil_10_20 (a3 : Int) : Option Unit := slices_pdqsortOrdered_string__at0nil_10_20_n big a3
theorem slices_pdqsortOrdered_string__at0nil_10_20_step (self : Int → Option Unit) (ih : ∀ (a3 : Int) (r : Unit), self a3 = some r →
    Con Try.prog 106 [.c (.v (.slice none 0 0)), .c (.v (.int .i64 0)), .c (.v (.int .i64 0)), .c (.v (.int .i64 a3))] [] (.tup []) [] [])
     (a3 : Int) (r : Unit) (hM : slices_pdqsortOrdered_string__at0nil_10_20_F self a3 = some r) :
    Con Try.prog 106 [.c (.v (.slice none 0 0)), .c (.v (.int .i64 0)), .c (.v (.int .i64 0)), .c (.v (.int .i64 a3))] [] (.tup []) [] [] := by
  unfold slices_pdqsortOrdered_string__at0nil_10_20_F at hM
  refine cn (N := 134) (pids := []) Try_mixed Try.func106 (by kernel_rfl) (by kernel_rfl) (by kernel_rfl) rfl fun ρ g w R => ?_
  refine pc R 9999 [] [.keep [0, 1, 2, 3, 8, 9] []] (k' := [.code (.loop (cAt Try.f106 [1, 1, 0, 0])), .blk 0]) (S' := slices_pdqsortOrdered_string__at0nil_10_20_L1_S a3 ()) True.intro (by kernel_rfl) ?_
  refine lq (slices_pdqsortOrdered_string__at0nil_10_20_L1_S a3) (body := slices_pdqsortOrdered_string__at0nil_10_20_L1) (k := slices_pdqsortOrdered_string__at0nil_10_20_L1_k) hM fun m1 s c1 hM hK1 => ?_
  have hM : slices_pdqsortOrdered_string__at0nil_10_20_L1_b = some c1 := hM
  unfold slices_pdqsortOrdered_string__at0nil_10_20_L1_b at hM
  obtain ⟨v1, h2, hM⟩ := bind_some hM
  have hE : some (Ctl.ret ()) = some c1 := hM
  have hE := Option.some.inj hE
  subst hE
  have hE : some () = some r := hK1
  have hE := Option.some.inj hE
  subst hE
  exact pr R 9999 [.call false [] (.tup []) [] []] [] [] [] (And.intro (slices_insertionSortOrdered_string__at0nil_10_20_ok v1 h2) True.intro) (by kernel_rfl)
theorem slices_pdqsortOrdered_string__at0nil_10_20_nok : ∀ (n : Nat) (a3 : Int) (r : Unit), slices_pdqsortOrdered_string__at0nil_10_20_n n a3 = some r →
    Con Try.prog 106 [.c (.v (.slice none 0 0)), .c (.v (.int .i64 0)), .c (.v (.int .i64 0)), .c (.v (.int .i64 a3))] [] (.tup []) [] []
  | 0, _, _, h => by cases h
  | n + 1, a3, r, h => slices_pdqsortOrdered_string__at0nil_10_20_step (slices_pdqsortOrdered_string__at0nil_10_20_n n) (slices_pdqsortOrdered_string__at0nil_10_20_nok n) a3 r h
theorem slices_pdqsortOrdered_string__at0nil_10_20_ok (a3 : Int) (r : Unit) (h : slices_pdqsortOrdered_string__at0nil_10_20 a3 = some r) :
    Con Try.prog 106 [.c (.v (.slice none 0 0)), .c (.v (.int .i64 0)), .c (.v (.int .i64 0)), .c (.v (.int .i64 a3))] [] (.tup []) [] [] := slices_pdqsortOrdered_string__at0nil_10_20_nok big a3 r h

-- slices.Sort[[]string,string]
def slices_Sort___string_string__at0nil : Option Unit :=
  (bits_Len 0).bind fun v1 =>
  (slices_pdqsortOrdered_string__at0nil_10_20 v1).bind fun v3 =>
  some ()
theorem slices_Sort___string_string__at0nil_ok (r : Unit) (hM : slices_Sort___string_string__at0nil = some r) :
    Con Try.prog 96 [.c (.v (.slice none 0 0))] [] (.tup []) [] [] := by
  unfold slices_Sort___string_string__at0nil at hM
  refine cn (N := 11) (pids := []) Try_mixed Try.func96 (by kernel_rfl) (by kernel_rfl) (by kernel_rfl) rfl fun ρ g w R => ?_
  obtain ⟨v1, h2, hM⟩ := bind_some hM
  obtain ⟨v3, h4, hM⟩ := bind_some hM
  have hE : some () = some r := hM
  have hE := Option.some.inj hE
  subst hE
  exact pr R 9999 [.ad (.nr 3 1), .ln 0, .call false [] (.o (.c (.v (.int .i64 v1)))) [] [], .call false [] (.tup []) [] []] [] [] [] (And.intro (rfl : ([] : List (List Value)).length = 0) (And.intro (bits_Len_ok 0 v1 h2) (And.intro (slices_pdqsortOrdered_string__at0nil_10_20_ok v1 v3 h4) True.intro))) (by kernel_rfl)

-- sort.Strings
def sort_Strings_at0nil : Option Unit :=
  (slices_Sort___string_string__at0nil).bind fun v1 =>
  some ()
theorem sort_Strings_at0nil_ok (r : Unit) (hM : sort_Strings_at0nil = some r) :
    Con Try.prog 80 [.c (.v (.slice none 0 0))] [] (.tup []) [] [] := by
  unfold sort_Strings_at0nil at hM
  refine cn (N := 4) (pids := []) Try_mixed Try.func80 (by kernel_rfl) (by kernel_rfl) (by kernel_rfl) rfl fun ρ g w R => ?_
  obtain ⟨v1, h2, hM⟩ := bind_some hM
  have hE : some () = some r := hM
  have hE := Option.some.inj hE
  subst hE
  exact pr R 9999 [.call false [] (.tup []) [] []] [] [] [] (And.intro (slices_Sort___string_string__at0nil_ok v1 h2) True.intro) (by kernel_rfl)

-- sort.Strings
def sort_Strings (a0 : List ByteArray) : Option (List ByteArray) := if a0.length < 4611686018427387904 then some (sortB a0) else none
theorem sort_Strings_ok (a0 : List ByteArray) (r : List ByteArray) (hM : sort_Strings a0 = some r) :
    Con Try.prog 80 [.c (.sl 900)] [(900, .row 9 1 (a0.map encS))] (.tup []) [(900, .row 9 1 (r.map encS))] [] := by
  unfold sort_Strings at hM
  split at hM
  · rename_i h
    have hE := Option.some.inj hM
    subst hE
    exact con_sort Try.lays192 (by rfl) (sort_Strings_at0nil_ok () (by kernel_rfl)) a0 h
  · cases hM


-- loop.example/g03014/impl.PlacesOf
def impl_PlacesOf_L2_b (v8 : Leg) (s10 : (List ByteArray)) (s11 : (List ByteArray)) (s12 : Int) : Option (Ctl ((List ByteArray) × (List ByteArray) × Int) ((List ByteArray) × (List ByteArray)) (List ByteArray)) :=
  bif (decide (s12 < (([v8.From, v8.To] : List ByteArray).length : Int))) then
  (gi ([v8.From, v8.To] : List ByteArray) s12).bind fun v16 =>
  bif (!(memB v16 s10)) then
  (ap 16 s11 ([v16] : List ByteArray)).bind fun v19 =>
  some (.next (putB v16 s10, v19, w64 (s12 + 1)))
  else
  some (.next (s10, s11, w64 (s12 + 1)))
  else
  some (.brk (s10, s11))
def impl_PlacesOf_L2 (v8 : Leg) (s : (List ByteArray) × (List ByteArray) × Int) : Option (Ctl ((List ByteArray) × (List ByteArray) × Int) ((List ByteArray) × (List ByteArray)) (List ByteArray)) := impl_PlacesOf_L2_b v8 s.1 s.2.1 s.2.2
def impl_PlacesOf_L2_s (a0 : Network) (s3 : Int) (v8 : Leg) (s10 : (List ByteArray)) (s11 : (List ByteArray)) (s12 : Int) : St := ⟨[(3, .o (.c (.sl 1))), (4, .o (.c (.sl 2))), (12, .o (.c (.rs 6 (a0.Legs.map Leg.enc)))), (13, .o (.c (.v (.int .i64 (a0.Legs.length : Int))))), (14, .o (.c (.v (.int .i64 s3)))), (22, .o (.c (.sl 4))), (23, .o (.c (.v (.int .i64 (([v8.From, v8.To] : List ByteArray).length : Int))))), (24, .o (.c (.v (.int .i64 s12))))], [(1, .smap 9 4 s10), (2, .row 9 1 (s11.map encS)), (4, .row 9 1 (([v8.From, v8.To] : List ByteArray).map encS))]⟩
def impl_PlacesOf_L2_S (a0 : Network) (s3 : Int) (v8 : Leg) (s : (List ByteArray) × (List ByteArray) × Int) : St := impl_PlacesOf_L2_s a0 s3 v8 s.1 s.2.1 s.2.2
def impl_PlacesOf_L2_a (s3 : Int) (s13 : (List ByteArray)) (s14 : (List ByteArray)) : Option (Ctl ((List ByteArray) × (List ByteArray) × Int) (List ByteArray) (List ByteArray)) :=
  some (.next (s13, s14, w64 (s3 + 1)))
def impl_PlacesOf_L2_k (s3 : Int) (x : ((List ByteArray) × (List ByteArray)) ⊕ ((List ByteArray))) : Option (Ctl ((List ByteArray) × (List ByteArray) × Int) (List ByteArray) (List ByteArray)) := match x with
  | .inl t => impl_PlacesOf_L2_a s3 t.1 t.2
  | .inr y => some (.ret y)
def impl_PlacesOf_L1_b (a0 : Network) (s1 : (List ByteArray)) (s2 : (List ByteArray)) (s3 : Int) : Option (Ctl ((List ByteArray) × (List ByteArray) × Int) (List ByteArray) (List ByteArray)) :=
  bif (decide (s3 < (a0.Legs.length : Int))) then
  (gi a0.Legs s3).bind fun v8 =>
  (loopM (impl_PlacesOf_L2 v8) big (s1, s2, 0)).bind (impl_PlacesOf_L2_k s3)
  else
  some (.brk s2)
def impl_PlacesOf_L1 (a0 : Network) (s : (List ByteArray) × (List ByteArray) × Int) : Option (Ctl ((List ByteArray) × (List ByteArray) × Int) (List ByteArray) (List ByteArray)) := impl_PlacesOf_L1_b a0 s.1 s.2.1 s.2.2
def impl_PlacesOf_L1_s (a0 : Network) (s1 : (List ByteArray)) (s2 : (List ByteArray)) (s3 : Int) : St := ⟨[(3, .o (.c (.sl 1))), (4, .o (.c (.sl 2))), (12, .o (.c (.rs 6 (a0.Legs.map Leg.enc)))), (13, .o (.c (.v (.int .i64 (a0.Legs.length : Int))))), (14, .o (.c (.v (.int .i64 s3))))], [(1, .smap 9 4 s1), (2, .row 9 1 (s2.map encS))]⟩
def impl_PlacesOf_L1_S (a0 : Network) (s : (List ByteArray) × (List ByteArray) × Int) : St := impl_PlacesOf_L1_s a0 s.1 s.2.1 s.2.2
def impl_PlacesOf_L1_a (s4 : (List ByteArray)) : Option (List ByteArray) :=
  (sort_Strings s4).bind fun v5 =>
  some v5
def impl_PlacesOf_L1_k (x : ((List ByteArray)) ⊕ ((List ByteArray))) : Option (List ByteArray) := match x with
  | .inl t => impl_PlacesOf_L1_a t
  | .inr y => some y
def impl_PlacesOf (a0 : Network) : Option (List ByteArray) :=
  (loopM (impl_PlacesOf_L1 a0) big (([] : List ByteArray), ([] : List ByteArray), 0)).bind (impl_PlacesOf_L1_k)
theorem impl_PlacesOf_ok (a0 : Network) (r : (List ByteArray)) (hM : impl_PlacesOf a0 = some r) :
    Con Try.prog 58 [.agg [.rs 6 (a0.Legs.map Leg.enc), .rs 1 (a0.Off.map encI), .v (.int .i64 a0.Change)]] [] (.o (.c (.sl 1000))) [] [(1000, .row 9 1 (r.map encS))] := by
  unfold impl_PlacesOf at hM
  refine cn (N := 43) (pids := []) Try_mixed Try.func58 (by kernel_rfl) (by kernel_rfl) (by kernel_rfl) rfl fun ρ g w R => ?_
  have K1 : ∀ (s4 : (List ByteArray)), impl_PlacesOf_L1_a s4 = some r → Gr R [.code (cAt Try.f58 [1, 1, 1, 1])] (⟨[(4, .o (.c (.sl 2)))], [(2, .row 9 1 (s4.map encS))]⟩) := by
    intro s4 hM
    unfold impl_PlacesOf_L1_a at hM
    obtain ⟨v5, h6, hM⟩ := bind_some hM
    have hE : some v5 = some r := hM
    have hE := Option.some.inj hE
    subst hE
    exact pr R 9999 [.call false [2] (.tup []) [(2, .row 9 1 (v5.map encS))] []] [.sw 2 1000] [] [1000] (And.intro (And.intro (con_sw 900 2 (sort_Strings_ok s4 v5 h6)) (rfl : ([2] : List Nat) = [2])) True.intro) (by kernel_rfl)
  refine pc R 9999 [.new 0, .new 1, .new 2, .ln (a0.Legs.length)] [.keep [3, 4, 12, 13, 14] [1, 2]] (k' := [.code (.loop (cAt Try.f58 [1, 1, 1, 0, 1, 0, 0])), .blk 0, .code (cAt Try.f58 [1, 1, 1, 1])]) (S' := impl_PlacesOf_L1_S a0 (([] : List ByteArray), ([] : List ByteArray), 0)) (And.intro (lenm Leg.enc a0.Legs) True.intro) (by kernel_rfl) ?_
  refine lq (impl_PlacesOf_L1_S a0) (body := impl_PlacesOf_L1 a0) (k := impl_PlacesOf_L1_k) hM fun m1 s c1 hM hK1 => ?_
  obtain ⟨s1, s2, s3⟩ := s
  have hM : impl_PlacesOf_L1_b a0 s1 s2 s3 = some c1 := hM
  unfold impl_PlacesOf_L1_b at hM
  rcases cond_cases hM with ⟨h7, hM⟩ | ⟨h7, hM⟩
  · obtain ⟨v8, h9, hM⟩ := bind_some hM
    have K2 : ∀ (s13 : (List ByteArray)) (s14 : (List ByteArray)), impl_PlacesOf_L2_a s3 s13 s14 = some c1 → Gr R [.blk 1, .code (cAt Try.f58 [1, 1, 1, 0, 1, 0, 0, 1, 1, 1]), .inv (Jr R (impl_PlacesOf_L1_S a0) (Mk (impl_PlacesOf_L1 a0) (impl_PlacesOf_L1_k) r) (m1 + 1)), .blk 0, .code (cAt Try.f58 [1, 1, 1, 1])] (⟨[(3, .o (.c (.sl 1))), (4, .o (.c (.sl 2))), (12, .o (.c (.rs 6 (a0.Legs.map Leg.enc)))), (13, .o (.c (.v (.int .i64 (a0.Legs.length : Int))))), (14, .o (.c (.v (.int .i64 s3))))], [(1, .smap 9 4 s13), (2, .row 9 1 (s14.map encS))]⟩) := by
      intro s13 s14 hM
      unfold impl_PlacesOf_L2_a at hM
      have hE : some (Ctl.next (s13, s14, w64 (s3 + 1))) = some c1 := hM
      have hE := Option.some.inj hE
      subst hE
      exact pc R 9999 [] [.keep [3, 4, 12, 13, 14] [1, 2]] True.intro (by kernel_rfl) (li (Sf := impl_PlacesOf_L1_S a0) (M := Mk (impl_PlacesOf_L1 a0) (impl_PlacesOf_L1_k) r) (k := [.blk 0, .code (cAt Try.f58 [1, 1, 1, 1])]) (Nat.lt_succ_self m1) hK1)
    refine pc R 9999 [.as 15 true, .ix (Leg.enc v8), .new 3, .new 4, .ln (([v8.From, v8.To] : List ByteArray).length)] [.keep [3, 4, 12, 13, 14, 22, 23, 24] [1, 2, 4]] (k' := [.code (.loop (cAt Try.f58 [1, 1, 1, 0, 1, 0, 0, 1, 1, 0, 0, 1, 1, 0, 0])), .blk 2, .blk 1, .code (cAt Try.f58 [1, 1, 1, 0, 1, 0, 0, 1, 1, 1]), .inv (Jr R (impl_PlacesOf_L1_S a0) (Mk (impl_PlacesOf_L1 a0) (impl_PlacesOf_L1_k) r) (m1 + 1)), .blk 0, .code (cAt Try.f58 [1, 1, 1, 1])]) (S' := impl_PlacesOf_L2_S a0 s3 v8 (s1, s2, 0)) (And.intro h7 (And.intro (gi_map Leg.enc h9) (And.intro (lenm encS ([v8.From, v8.To] : List ByteArray)) True.intro))) (by kernel_rfl) ?_
    refine lq (impl_PlacesOf_L2_S a0 s3 v8) (body := impl_PlacesOf_L2 v8) (k := impl_PlacesOf_L2_k s3) hM fun m2 s c2 hM hK2 => ?_
    obtain ⟨s10, s11, s12⟩ := s
    have hM : impl_PlacesOf_L2_b v8 s10 s11 s12 = some c2 := hM
    unfold impl_PlacesOf_L2_b at hM
    rcases cond_cases hM with ⟨h15, hM⟩ | ⟨h15, hM⟩
    · obtain ⟨v16, h17, hM⟩ := bind_some hM
      rcases cond_cases hM with ⟨h18, hM⟩ | ⟨h18, hM⟩
      · obtain ⟨v19, h20, hM⟩ := bind_some hM
        have hE : some (Ctl.next (putB v16 s10, v19, w64 (s12 + 1))) = some c2 := hM
        have hE := Option.some.inj hE
        subst hE
        exact pc R 9999 [.as 25 true, .ix (encS v16), .as 31 true, .new 5, .new 6, .nm (v19.map encS)] [.sw 6 2, .keep [3, 4, 12, 13, 14, 22, 23, 24] [1, 2, 4]] (And.intro h15 (And.intro (gi_lt encS h17) (And.intro ((gi_map encS h17).2) (And.intro h18 (And.intro (ap_ok encS h20) True.intro))))) (by kernel_rfl) (li (Sf := impl_PlacesOf_L2_S a0 s3 v8) (M := Mk (impl_PlacesOf_L2 v8) (impl_PlacesOf_L2_k s3) c1) (k := [.blk 2, .blk 1, .code (cAt Try.f58 [1, 1, 1, 0, 1, 0, 0, 1, 1, 1]), .inv (Jr R (impl_PlacesOf_L1_S a0) (Mk (impl_PlacesOf_L1 a0) (impl_PlacesOf_L1_k) r) (m1 + 1)), .blk 0, .code (cAt Try.f58 [1, 1, 1, 1])]) (Nat.lt_succ_self m2) hK2)
      · have hE : some (Ctl.next (s10, s11, w64 (s12 + 1))) = some c2 := hM
        have hE := Option.some.inj hE
        subst hE
        exact pc R 9999 [.as 25 true, .ix (encS v16), .as 31 false] [.keep [3, 4, 12, 13, 14, 22, 23, 24] [1, 2, 4]] (And.intro h15 (And.intro (gi_lt encS h17) (And.intro ((gi_map encS h17).2) (And.intro h18 True.intro)))) (by kernel_rfl) (li (Sf := impl_PlacesOf_L2_S a0 s3 v8) (M := Mk (impl_PlacesOf_L2 v8) (impl_PlacesOf_L2_k s3) c1) (k := [.blk 2, .blk 1, .code (cAt Try.f58 [1, 1, 1, 0, 1, 0, 0, 1, 1, 1]), .inv (Jr R (impl_PlacesOf_L1_S a0) (Mk (impl_PlacesOf_L1 a0) (impl_PlacesOf_L1_k) r) (m1 + 1)), .blk 0, .code (cAt Try.f58 [1, 1, 1, 1])]) (Nat.lt_succ_self m2) hK2)
    · have hE : some (Ctl.brk (s10, s11)) = some c2 := hM
      have hE := Option.some.inj hE
      subst hE
      exact pc R 5 [.as 25 false] [.keep [3, 4, 12, 13, 14] [1, 2]] (And.intro h15 True.intro) (by kernel_rfl) (K2 s10 s11 hK2)
  · have hE : some (Ctl.brk s2) = some c1 := hM
    have hE := Option.some.inj hE
    subst hE
    exact pc R 5 [.as 15 false] [.keep [4] [2]] (And.intro h7 True.intro) (by kernel_rfl) (K1 s2 hK1)

-- loop.example/g03014/impl.IsPlace
def impl_IsPlace_L1_b (a0 : ByteArray) (s1 : Int) : Option (Ctl Int Unit Bool) :=
  bif (decide (s1 < (a0.size : Int))) then
  (siM a0 s1).bind fun v3 =>
  bif (decide (v3 < 65)) then
  some (.ret false)
  else
  (siM a0 s1).bind fun v6 =>
  bif (decide (v6 > 90)) then
  some (.ret false)
  else
  some (.next (w64 (s1 + 1)))
  else
  some (.brk ())
def impl_IsPlace_L1 (a0 : ByteArray) (s : Int) : Option (Ctl Int Unit Bool) := impl_IsPlace_L1_b a0 s
def impl_IsPlace_L1_s (a0 : ByteArray) (s1 : Int) : St := ⟨[(0, .o (.c (.v (.string a0)))), (3, .o (.c (.v (.int .i64 s1))))], []⟩
def impl_IsPlace_L1_S (a0 : ByteArray) (s : Int) : St := impl_IsPlace_L1_s a0 s
def impl_IsPlace_L1_a (a0 : ByteArray) : Option Bool :=
  some ((a0.size : Int) == 3)
def impl_IsPlace_L1_k (a0 : ByteArray) (x : (Unit) ⊕ (Bool)) : Option Bool := match x with
  | .inl t => impl_IsPlace_L1_a a0
  | .inr y => some y
def impl_IsPlace (a0 : ByteArray) : Option Bool :=
  (loopM (impl_IsPlace_L1 a0) big 0).bind (impl_IsPlace_L1_k a0)
theorem impl_IsPlace_ok (a0 : ByteArray) (r : Bool) (hM : impl_IsPlace a0 = some r) :
    Con Try.prog 97 [.c (.v (.string a0))] [] (.o (.c (.v (.bool r)))) [] [] := by
  unfold impl_IsPlace at hM
  refine cn (N := 23) (pids := []) Try_mixed Try.func97 (by kernel_rfl) (by kernel_rfl) (by kernel_rfl) rfl fun ρ g w R => ?_
  have K1 : ∀ (_ : Unit), impl_IsPlace_L1_a a0 = some r → Gr R [.code (cAt Try.f97 [1, 1])] (⟨[(0, .o (.c (.v (.string a0))))], []⟩) := by
    intro _ hM
    unfold impl_IsPlace_L1_a at hM
    have hE : some ((a0.size : Int) == 3) = some r := hM
    have hE := Option.some.inj hE
    subst hE
    exact pr R 9999 [] [] [] [] True.intro (by kernel_rfl)
  refine pc R 9999 [] [.keep [0, 3] []] (k' := [.code (.loop (cAt Try.f97 [1, 0, 1, 0, 0])), .blk 0, .code (cAt Try.f97 [1, 1])]) (S' := impl_IsPlace_L1_S a0 0) True.intro (by kernel_rfl) ?_
  refine lq (impl_IsPlace_L1_S a0) (body := impl_IsPlace_L1 a0) (k := impl_IsPlace_L1_k a0) hM fun m1 s c1 hM hK1 => ?_
  obtain ⟨s1, hs⟩ : ∃ z, z = s := ⟨_, rfl⟩
  subst hs
  have hM : impl_IsPlace_L1_b a0 s1 = some c1 := hM
  unfold impl_IsPlace_L1_b at hM
  rcases cond_cases hM with ⟨h2, hM⟩ | ⟨h2, hM⟩
  · obtain ⟨v3, h4, hM⟩ := bind_some hM
    rcases cond_cases hM with ⟨h5, hM⟩ | ⟨h5, hM⟩
    · have hE : some (Ctl.ret false) = some c1 := hM
      have hE := Option.some.inj hE
      subst hE
      have hE : some false = some r := hK1
      have hE := Option.some.inj hE
      subst hE
      exact pr R 9999 [.as 7 true, .ix [.int .u8 v3], .as 14 true] [] [] [] (And.intro h2 (And.intro (siM_ok h4) (And.intro h5 True.intro))) (by kernel_rfl)
    · obtain ⟨v6, h7, hM⟩ := bind_some hM
      rcases cond_cases hM with ⟨h8, hM⟩ | ⟨h8, hM⟩
      · have hE : some (Ctl.ret false) = some c1 := hM
        have hE := Option.some.inj hE
        subst hE
        have hE : some false = some r := hK1
        have hE := Option.some.inj hE
        subst hE
        exact pr R 9999 [.as 7 true, .ix [.int .u8 v3], .as 14 false, .ix [.int .u8 v6], .as 19 true] [] [] [] (And.intro h2 (And.intro (siM_ok h4) (And.intro h5 (And.intro (siM_ok h7) (And.intro h8 True.intro))))) (by kernel_rfl)
      · have hE : some (Ctl.next (w64 (s1 + 1))) = some c1 := hM
        have hE := Option.some.inj hE
        subst hE
        exact pc R 9999 [.as 7 true, .ix [.int .u8 v3], .as 14 false, .ix [.int .u8 v6], .as 19 false] [.keep [0, 3] []] (And.intro h2 (And.intro (siM_ok h4) (And.intro h5 (And.intro (siM_ok h7) (And.intro h8 True.intro))))) (by kernel_rfl) (li (Sf := impl_IsPlace_L1_S a0) (M := Mk (impl_IsPlace_L1 a0) (impl_IsPlace_L1_k a0) r) (k := [.blk 0, .code (cAt Try.f97 [1, 1])]) (Nat.lt_succ_self m1) hK1)
  · have hE : some (Ctl.brk ()) = some c1 := hM
    have hE := Option.some.inj hE
    subst hE
    exact pc R 5 [.as 7 false] [.keep [0] []] (And.intro h2 True.intro) (by kernel_rfl) (K1 () hK1)

-- loop.example/g03014/impl.within
def impl_within (a0 : Int) (a1 : Int) (a2 : Int) : Option Bool :=
  bif (decide (a1 ≤ a0)) then
  some (decide (a0 ≤ a2))
  else
  some false
theorem impl_within_ok (a0 : Int) (a1 : Int) (a2 : Int) (r : Bool) (hM : impl_within a0 a1 a2 = some r) :
    Con Try.prog 57 [.c (.v (.int .i64 a0)), .c (.v (.int .i64 a1)), .c (.v (.int .i64 a2))] [] (.o (.c (.v (.bool r)))) [] [] := by
  unfold impl_within at hM
  refine cn (N := 15) (pids := []) Try_mixed Try.func57 (by kernel_rfl) (by kernel_rfl) (by kernel_rfl) rfl fun ρ g w R => ?_
  rcases cond_cases hM with ⟨h1, hM⟩ | ⟨h1, hM⟩
  · have hE : some (decide (a0 ≤ a2)) = some r := hM
    have hE := Option.some.inj hE
    subst hE
    exact pr R 9999 [.as 10 true] [] [] [] (And.intro h1 True.intro) (by kernel_rfl)
  · have hE : some false = some r := hM
    have hE := Option.some.inj hE
    subst hE
    exact pr R 9999 [.as 10 false] [] [] [] (And.intro h1 True.intro) (by kernel_rfl)

-- loop.example/g03014/impl.IsLeg
def impl_IsLeg (a0 : Leg) : Option Bool :=
  (impl_IsPlace a0.From).bind fun v1 =>
  bif v1 then
  (impl_IsPlace a0.To).bind fun v4 =>
  bif v4 then
  bif (!(a0.From.toList == a0.To.toList)) then
  (impl_within a0.Start 0 1439).bind fun v8 =>
  bif v8 then
  (impl_within a0.Takes 1 4320).bind fun v11 =>
  bif v11 then
  (impl_within a0.Days 1 127).bind fun v14 =>
  bif v14 then
  (impl_within a0.Room 0 1000000).bind fun v17 =>
  some v17
  else
  some false
  else
  some false
  else
  some false
  else
  some false
  else
  some false
  else
  some false
theorem impl_IsLeg_ok (a0 : Leg) (r : Bool) (hM : impl_IsLeg a0 = some r) :
    Con Try.prog 81 [.c (.v (.agg (Leg.enc a0).toArray))] [] (.o (.c (.v (.bool r)))) [] [] := by
  unfold impl_IsLeg at hM
  refine cn (N := 38) (pids := []) Try_mixed Try.func81 (by kernel_rfl) (by kernel_rfl) (by kernel_rfl) rfl fun ρ g w R => ?_
  obtain ⟨v1, h2, hM⟩ := bind_some hM
  rcases cond_cases hM with ⟨h3, hM⟩ | ⟨h3, hM⟩
  · obtain ⟨v4, h5, hM⟩ := bind_some hM
    rcases cond_cases hM with ⟨h6, hM⟩ | ⟨h6, hM⟩
    · rcases cond_cases hM with ⟨h7, hM⟩ | ⟨h7, hM⟩
      · obtain ⟨v8, h9, hM⟩ := bind_some hM
        rcases cond_cases hM with ⟨h10, hM⟩ | ⟨h10, hM⟩
        · obtain ⟨v11, h12, hM⟩ := bind_some hM
          rcases cond_cases hM with ⟨h13, hM⟩ | ⟨h13, hM⟩
          · obtain ⟨v14, h15, hM⟩ := bind_some hM
            rcases cond_cases hM with ⟨h16, hM⟩ | ⟨h16, hM⟩
            · obtain ⟨v17, h18, hM⟩ := bind_some hM
              have hE : some v17 = some r := hM
              have hE := Option.some.inj hE
              subst hE
              exact pr R 9999 [.new 0, .call false [] (.o (.c (.v (.bool v1)))) [] [], .as 6 true, .call false [] (.o (.c (.v (.bool v4)))) [] [], .as 11 true, .as 18 true, .call false [] (.o (.c (.v (.bool v8)))) [] [], .as 23 true, .call false [] (.o (.c (.v (.bool v11)))) [] [], .as 28 true, .call false [] (.o (.c (.v (.bool v14)))) [] [], .as 33 true, .call false [] (.o (.c (.v (.bool v17)))) [] []] [] [] [] (And.intro (impl_IsPlace_ok a0.From v1 h2) (And.intro h3 (And.intro (impl_IsPlace_ok a0.To v4 h5) (And.intro h6 (And.intro h7 (And.intro (impl_within_ok a0.Start 0 1439 v8 h9) (And.intro h10 (And.intro (impl_within_ok a0.Takes 1 4320 v11 h12) (And.intro h13 (And.intro (impl_within_ok a0.Days 1 127 v14 h15) (And.intro h16 (And.intro (impl_within_ok a0.Room 0 1000000 v17 h18) True.intro)))))))))))) (by kernel_rfl)
            · have hE : some false = some r := hM
              have hE := Option.some.inj hE
              subst hE
              exact pr R 9999 [.new 0, .call false [] (.o (.c (.v (.bool v1)))) [] [], .as 6 true, .call false [] (.o (.c (.v (.bool v4)))) [] [], .as 11 true, .as 18 true, .call false [] (.o (.c (.v (.bool v8)))) [] [], .as 23 true, .call false [] (.o (.c (.v (.bool v11)))) [] [], .as 28 true, .call false [] (.o (.c (.v (.bool v14)))) [] [], .as 33 false] [] [] [] (And.intro (impl_IsPlace_ok a0.From v1 h2) (And.intro h3 (And.intro (impl_IsPlace_ok a0.To v4 h5) (And.intro h6 (And.intro h7 (And.intro (impl_within_ok a0.Start 0 1439 v8 h9) (And.intro h10 (And.intro (impl_within_ok a0.Takes 1 4320 v11 h12) (And.intro h13 (And.intro (impl_within_ok a0.Days 1 127 v14 h15) (And.intro h16 True.intro))))))))))) (by kernel_rfl)
          · have hE : some false = some r := hM
            have hE := Option.some.inj hE
            subst hE
            exact pr R 9999 [.new 0, .call false [] (.o (.c (.v (.bool v1)))) [] [], .as 6 true, .call false [] (.o (.c (.v (.bool v4)))) [] [], .as 11 true, .as 18 true, .call false [] (.o (.c (.v (.bool v8)))) [] [], .as 23 true, .call false [] (.o (.c (.v (.bool v11)))) [] [], .as 28 false] [] [] [] (And.intro (impl_IsPlace_ok a0.From v1 h2) (And.intro h3 (And.intro (impl_IsPlace_ok a0.To v4 h5) (And.intro h6 (And.intro h7 (And.intro (impl_within_ok a0.Start 0 1439 v8 h9) (And.intro h10 (And.intro (impl_within_ok a0.Takes 1 4320 v11 h12) (And.intro h13 True.intro))))))))) (by kernel_rfl)
        · have hE : some false = some r := hM
          have hE := Option.some.inj hE
          subst hE
          exact pr R 9999 [.new 0, .call false [] (.o (.c (.v (.bool v1)))) [] [], .as 6 true, .call false [] (.o (.c (.v (.bool v4)))) [] [], .as 11 true, .as 18 true, .call false [] (.o (.c (.v (.bool v8)))) [] [], .as 23 false] [] [] [] (And.intro (impl_IsPlace_ok a0.From v1 h2) (And.intro h3 (And.intro (impl_IsPlace_ok a0.To v4 h5) (And.intro h6 (And.intro h7 (And.intro (impl_within_ok a0.Start 0 1439 v8 h9) (And.intro h10 True.intro))))))) (by kernel_rfl)
      · have hE : some false = some r := hM
        have hE := Option.some.inj hE
        subst hE
        exact pr R 9999 [.new 0, .call false [] (.o (.c (.v (.bool v1)))) [] [], .as 6 true, .call false [] (.o (.c (.v (.bool v4)))) [] [], .as 11 true, .as 18 false] [] [] [] (And.intro (impl_IsPlace_ok a0.From v1 h2) (And.intro h3 (And.intro (impl_IsPlace_ok a0.To v4 h5) (And.intro h6 (And.intro h7 True.intro))))) (by kernel_rfl)
    · have hE : some false = some r := hM
      have hE := Option.some.inj hE
      subst hE
      exact pr R 9999 [.new 0, .call false [] (.o (.c (.v (.bool v1)))) [] [], .as 6 true, .call false [] (.o (.c (.v (.bool v4)))) [] [], .as 11 false] [] [] [] (And.intro (impl_IsPlace_ok a0.From v1 h2) (And.intro h3 (And.intro (impl_IsPlace_ok a0.To v4 h5) (And.intro h6 True.intro)))) (by kernel_rfl)
  · have hE : some false = some r := hM
    have hE := Option.some.inj hE
    subst hE
    exact pr R 9999 [.new 0, .call false [] (.o (.c (.v (.bool v1)))) [] [], .as 6 false] [] [] [] (And.intro (impl_IsPlace_ok a0.From v1 h2) (And.intro h3 True.intro)) (by kernel_rfl)

-- loop.example/g03014/impl.IsNetwork
def impl_IsNetwork_L2_b (a0 : Network) (s2 : Int) : Option (Ctl Int Unit Bool) :=
  bif (decide (s2 < (a0.Off.length : Int))) then
  (gi a0.Off s2).bind fun v8 =>
  (impl_within v8 0 60).bind fun v10 =>
  bif (!v10) then
  some (.ret false)
  else
  bif (decide (s2 > 0)) then
  (gi a0.Off (w64 (s2 - 1))).bind fun v14 =>
  bif (decide (v14 ≥ v8)) then
  some (.ret false)
  else
  some (.next (w64 (s2 + 1)))
  else
  some (.next (w64 (s2 + 1)))
  else
  some (.brk ())
def impl_IsNetwork_L2 (a0 : Network) (s : Int) : Option (Ctl Int Unit Bool) := impl_IsNetwork_L2_b a0 s
def impl_IsNetwork_L2_s (a0 : Network) (s2 : Int) : St := ⟨[(1, .o (.c (.ptr 0 0))), (19, .o (.c (.rs 1 (a0.Off.map encI)))), (20, .o (.c (.v (.int .i64 (a0.Off.length : Int))))), (21, .o (.c (.v (.int .i64 s2))))], [(0, .box 27 [.rs 6 (a0.Legs.map Leg.enc), .rs 1 (a0.Off.map encI), .v (.int .i64 a0.Change)])]⟩
def impl_IsNetwork_L2_S (a0 : Network) (s : Int) : St := impl_IsNetwork_L2_s a0 s
def impl_IsNetwork_L2_a (a0 : Network) : Option Bool :=
  bif (decide ((a0.Legs.length : Int) ≤ 20)) then
  bif (decide ((a0.Off.length : Int) ≤ 10)) then
  (impl_within a0.Change 0 240).bind fun v5 =>
  some v5
  else
  some false
  else
  some false
def impl_IsNetwork_L2_k (a0 : Network) (x : (Unit) ⊕ (Bool)) : Option Bool := match x with
  | .inl t => impl_IsNetwork_L2_a a0
  | .inr y => some y
def impl_IsNetwork_L1_b (a0 : Network) (s1 : Int) : Option (Ctl Int Unit Bool) :=
  bif (decide (s1 < (a0.Legs.length : Int))) then
  (gi a0.Legs s1).bind fun v18 =>
  (impl_IsLeg v18).bind fun v20 =>
  bif (!v20) then
  some (.ret false)
  else
  some (.next (w64 (s1 + 1)))
  else
  some (.brk ())
def impl_IsNetwork_L1 (a0 : Network) (s : Int) : Option (Ctl Int Unit Bool) := impl_IsNetwork_L1_b a0 s
def impl_IsNetwork_L1_s (a0 : Network) (s1 : Int) : St := ⟨[(1, .o (.c (.ptr 0 0))), (8, .o (.c (.rs 6 (a0.Legs.map Leg.enc)))), (9, .o (.c (.v (.int .i64 (a0.Legs.length : Int))))), (10, .o (.c (.v (.int .i64 s1))))], [(0, .box 27 [.rs 6 (a0.Legs.map Leg.enc), .rs 1 (a0.Off.map encI), .v (.int .i64 a0.Change)])]⟩
def impl_IsNetwork_L1_S (a0 : Network) (s : Int) : St := impl_IsNetwork_L1_s a0 s
def impl_IsNetwork_L1_a (a0 : Network) : Option Bool :=
  (loopM (impl_IsNetwork_L2 a0) big 0).bind (impl_IsNetwork_L2_k a0)
def impl_IsNetwork_L1_k (a0 : Network) (x : (Unit) ⊕ (Bool)) : Option Bool := match x with
  | .inl t => impl_IsNetwork_L1_a a0
  | .inr y => some y
def impl_IsNetwork (a0 : Network) : Option Bool :=
  (loopM (impl_IsNetwork_L1 a0) big 0).bind (impl_IsNetwork_L1_k a0)
theorem impl_IsNetwork_ok (a0 : Network) (r : Bool) (hM : impl_IsNetwork a0 = some r) :
    Con Try.prog 60 [.agg [.rs 6 (a0.Legs.map Leg.enc), .rs 1 (a0.Off.map encI), .v (.int .i64 a0.Change)]] [] (.o (.c (.v (.bool r)))) [] [] := by
  unfold impl_IsNetwork at hM
  refine cn (N := 59) (pids := []) Try_mixed Try.func60 (by kernel_rfl) (by kernel_rfl) (by kernel_rfl) rfl fun ρ g w R => ?_
  have K1 : ∀ (_ : Unit), impl_IsNetwork_L1_a a0 = some r → Gr R [.code (cAt Try.f60 [1, 1])] (⟨[(1, .o (.c (.ptr 0 0)))], [(0, .box 27 [.rs 6 (a0.Legs.map Leg.enc), .rs 1 (a0.Off.map encI), .v (.int .i64 a0.Change)])]⟩) := by
    intro _ hM
    unfold impl_IsNetwork_L1_a at hM
    have K2 : ∀ (_ : Unit), impl_IsNetwork_L2_a a0 = some r → Gr R [.code (cAt Try.f60 [1, 1, 1])] (⟨[(1, .o (.c (.ptr 0 0)))], [(0, .box 27 [.rs 6 (a0.Legs.map Leg.enc), .rs 1 (a0.Off.map encI), .v (.int .i64 a0.Change)])]⟩) := by
      intro _ hM
      unfold impl_IsNetwork_L2_a at hM
      rcases cond_cases hM with ⟨h3, hM⟩ | ⟨h3, hM⟩
      · rcases cond_cases hM with ⟨h4, hM⟩ | ⟨h4, hM⟩
        · obtain ⟨v5, h6, hM⟩ := bind_some hM
          have hE : some v5 = some r := hM
          have hE := Option.some.inj hE
          subst hE
          exact pr R 9999 [.ln (a0.Legs.length), .as 48 true, .ln (a0.Off.length), .as 54 true, .call false [] (.o (.c (.v (.bool v5)))) [] []] [] [] [] (And.intro (lenm Leg.enc a0.Legs) (And.intro h3 (And.intro (lenm encI a0.Off) (And.intro h4 (And.intro (impl_within_ok a0.Change 0 240 v5 h6) True.intro))))) (by kernel_rfl)
        · have hE : some false = some r := hM
          have hE := Option.some.inj hE
          subst hE
          exact pr R 9999 [.ln (a0.Legs.length), .as 48 true, .ln (a0.Off.length), .as 54 false] [] [] [] (And.intro (lenm Leg.enc a0.Legs) (And.intro h3 (And.intro (lenm encI a0.Off) (And.intro h4 True.intro)))) (by kernel_rfl)
      · have hE : some false = some r := hM
        have hE := Option.some.inj hE
        subst hE
        exact pr R 9999 [.ln (a0.Legs.length), .as 48 false] [] [] [] (And.intro (lenm Leg.enc a0.Legs) (And.intro h3 True.intro)) (by kernel_rfl)
    refine pc R 9999 [.ln (a0.Off.length)] [.keep [1, 19, 20, 21] [0]] (k' := [.code (.loop (cAt Try.f60 [1, 1, 0, 1, 0, 0])), .blk 2, .code (cAt Try.f60 [1, 1, 1])]) (S' := impl_IsNetwork_L2_S a0 0) (And.intro (lenm encI a0.Off) True.intro) (by kernel_rfl) ?_
    refine lq (impl_IsNetwork_L2_S a0) (body := impl_IsNetwork_L2 a0) (k := impl_IsNetwork_L2_k a0) hM fun m2 s c2 hM hK2 => ?_
    obtain ⟨s2, hs⟩ : ∃ z, z = s := ⟨_, rfl⟩
    subst hs
    have hM : impl_IsNetwork_L2_b a0 s2 = some c2 := hM
    unfold impl_IsNetwork_L2_b at hM
    rcases cond_cases hM with ⟨h7, hM⟩ | ⟨h7, hM⟩
    · obtain ⟨v8, h9, hM⟩ := bind_some hM
      obtain ⟨v10, h11, hM⟩ := bind_some hM
      rcases cond_cases hM with ⟨h12, hM⟩ | ⟨h12, hM⟩
      · have hE : some (Ctl.ret false) = some c2 := hM
        have hE := Option.some.inj hE
        subst hE
        have hE : some false = some r := hK2
        have hE := Option.some.inj hE
        subst hE
        exact pr R 9999 [.as 22 true, .ix (encI v8), .call false [] (.o (.c (.v (.bool v10)))) [] [], .as 29 true] [] [] [] (And.intro h7 (And.intro (gi_map encI h9) (And.intro (impl_within_ok v8 0 60 v10 h11) (And.intro h12 True.intro)))) (by kernel_rfl)
      · rcases cond_cases hM with ⟨h13, hM⟩ | ⟨h13, hM⟩
        · obtain ⟨v14, h15, hM⟩ := bind_some hM
          rcases cond_cases hM with ⟨h16, hM⟩ | ⟨h16, hM⟩
          · have hE : some (Ctl.ret false) = some c2 := hM
            have hE := Option.some.inj hE
            subst hE
            have hE : some false = some r := hK2
            have hE := Option.some.inj hE
            subst hE
            exact pr R 9999 [.as 22 true, .ix (encI v8), .call false [] (.o (.c (.v (.bool v10)))) [] [], .as 29 false, .as 32 true, .ix (encI v14), .as 42 true] [] [] [] (And.intro h7 (And.intro (gi_map encI h9) (And.intro (impl_within_ok v8 0 60 v10 h11) (And.intro h12 (And.intro h13 (And.intro (gi_map encI h15) (And.intro h16 True.intro))))))) (by kernel_rfl)
          · have hE : some (Ctl.next (w64 (s2 + 1))) = some c2 := hM
            have hE := Option.some.inj hE
            subst hE
            exact pc R 9999 [.as 22 true, .ix (encI v8), .call false [] (.o (.c (.v (.bool v10)))) [] [], .as 29 false, .as 32 true, .ix (encI v14), .as 42 false] [.keep [1, 19, 20, 21] [0]] (And.intro h7 (And.intro (gi_map encI h9) (And.intro (impl_within_ok v8 0 60 v10 h11) (And.intro h12 (And.intro h13 (And.intro (gi_map encI h15) (And.intro h16 True.intro))))))) (by kernel_rfl) (li (Sf := impl_IsNetwork_L2_S a0) (M := Mk (impl_IsNetwork_L2 a0) (impl_IsNetwork_L2_k a0) r) (k := [.blk 2, .code (cAt Try.f60 [1, 1, 1])]) (Nat.lt_succ_self m2) hK2)
        · have hE : some (Ctl.next (w64 (s2 + 1))) = some c2 := hM
          have hE := Option.some.inj hE
          subst hE
          exact pc R 9999 [.as 22 true, .ix (encI v8), .call false [] (.o (.c (.v (.bool v10)))) [] [], .as 29 false, .as 32 false] [.keep [1, 19, 20, 21] [0]] (And.intro h7 (And.intro (gi_map encI h9) (And.intro (impl_within_ok v8 0 60 v10 h11) (And.intro h12 (And.intro h13 True.intro))))) (by kernel_rfl) (li (Sf := impl_IsNetwork_L2_S a0) (M := Mk (impl_IsNetwork_L2 a0) (impl_IsNetwork_L2_k a0) r) (k := [.blk 2, .code (cAt Try.f60 [1, 1, 1])]) (Nat.lt_succ_self m2) hK2)
    · have hE : some (Ctl.brk ()) = some c2 := hM
      have hE := Option.some.inj hE
      subst hE
      exact pc R 5 [.as 22 false] [.keep [1] [0]] (And.intro h7 True.intro) (by kernel_rfl) (K2 () hK2)
  refine pc R 9999 [.new 0, .ln (a0.Legs.length)] [.keep [1, 8, 9, 10] [0]] (k' := [.code (.loop (cAt Try.f60 [1, 0, 1, 0, 0])), .blk 0, .code (cAt Try.f60 [1, 1])]) (S' := impl_IsNetwork_L1_S a0 0) (And.intro (lenm Leg.enc a0.Legs) True.intro) (by kernel_rfl) ?_
  refine lq (impl_IsNetwork_L1_S a0) (body := impl_IsNetwork_L1 a0) (k := impl_IsNetwork_L1_k a0) hM fun m1 s c1 hM hK1 => ?_
  obtain ⟨s1, hs⟩ : ∃ z, z = s := ⟨_, rfl⟩
  subst hs
  have hM : impl_IsNetwork_L1_b a0 s1 = some c1 := hM
  unfold impl_IsNetwork_L1_b at hM
  rcases cond_cases hM with ⟨h17, hM⟩ | ⟨h17, hM⟩
  · obtain ⟨v18, h19, hM⟩ := bind_some hM
    obtain ⟨v20, h21, hM⟩ := bind_some hM
    rcases cond_cases hM with ⟨h22, hM⟩ | ⟨h22, hM⟩
    · have hE : some (Ctl.ret false) = some c1 := hM
      have hE := Option.some.inj hE
      subst hE
      have hE : some false = some r := hK1
      have hE := Option.some.inj hE
      subst hE
      exact pr R 9999 [.as 11 true, .ix (Leg.enc v18), .new 1, .call false [] (.o (.c (.v (.bool v20)))) [] [], .as 16 true] [] [] [] (And.intro h17 (And.intro (gi_map Leg.enc h19) (And.intro (impl_IsLeg_ok v18 v20 h21) (And.intro h22 True.intro)))) (by kernel_rfl)
    · have hE : some (Ctl.next (w64 (s1 + 1))) = some c1 := hM
      have hE := Option.some.inj hE
      subst hE
      exact pc R 9999 [.as 11 true, .ix (Leg.enc v18), .new 1, .call false [] (.o (.c (.v (.bool v20)))) [] [], .as 16 false] [.keep [1, 8, 9, 10] [0]] (And.intro h17 (And.intro (gi_map Leg.enc h19) (And.intro (impl_IsLeg_ok v18 v20 h21) (And.intro h22 True.intro)))) (by kernel_rfl) (li (Sf := impl_IsNetwork_L1_S a0) (M := Mk (impl_IsNetwork_L1 a0) (impl_IsNetwork_L1_k a0) r) (k := [.blk 0, .code (cAt Try.f60 [1, 1])]) (Nat.lt_succ_self m1) hK1)
  · have hE : some (Ctl.brk ()) = some c1 := hM
    have hE := Option.some.inj hE
    subst hE
    exact pc R 5 [.as 11 false] [.keep [1] [0]] (And.intro h17 True.intro) (by kernel_rfl) (K1 () hK1)

-- loop.example/g03014/impl.nextOf
def impl_nextOf (a0 : Network) : Option (Network) :=
  some a0
theorem impl_nextOf_ok (a0 : Network) (r : (Network)) (hM : impl_nextOf a0 = some r) :
    Con Try.prog 62 [.agg [.rs 6 (a0.Legs.map Leg.enc), .rs 1 (a0.Off.map encI), .v (.int .i64 a0.Change)]] [] (.o (.c (.fn 83 [1000]))) [] [(1000, .box 27 [.rs 6 (r.Legs.map Leg.enc), .rs 1 (r.Off.map encI), .v (.int .i64 r.Change)])] := by
  unfold impl_nextOf at hM
  refine cn (N := 4) (pids := []) Try_mixed Try.func62 (by kernel_rfl) (by kernel_rfl) (by kernel_rfl) rfl fun ρ g w R => ?_
  have hE : some a0 = some r := hM
  have hE := Option.some.inj hE
  subst hE
  exact pr R 9999 [.new 0] [.sw 0 1000] [] [1000] True.intro (by kernel_rfl)

-- loop.example/g03014/impl.placeAt
def impl_placeAt_L1_b (a0 : (List ByteArray)) (a1 : ByteArray) (s1 : Int) : Option (Ctl Int Unit Int) :=
  bif (decide (s1 < (a0.length : Int))) then
  (gi a0 s1).bind fun v3 =>
  bif (v3.toList == a1.toList) then
  some (.ret s1)
  else
  some (.next (w64 (s1 + 1)))
  else
  some (.brk ())
def impl_placeAt_L1 (a0 : (List ByteArray)) (a1 : ByteArray) (s : Int) : Option (Ctl Int Unit Int) := impl_placeAt_L1_b a0 a1 s
def impl_placeAt_L1_s (a0 : (List ByteArray)) (a1 : ByteArray) (s1 : Int) : St := ⟨[(1, .o (.c (.v (.string a1)))), (7, .o (.c (.rs 1 (a0.map encS)))), (8, .o (.c (.v (.int .i64 (a0.length : Int))))), (9, .o (.c (.v (.int .i64 s1))))], []⟩
def impl_placeAt_L1_S (a0 : (List ByteArray)) (a1 : ByteArray) (s : Int) : St := impl_placeAt_L1_s a0 a1 s
def impl_placeAt_L1_a : Option Int :=
  some (-1)
def impl_placeAt_L1_k (x : (Unit) ⊕ (Int)) : Option Int := match x with
  | .inl t => impl_placeAt_L1_a
  | .inr y => some y
def impl_placeAt (a0 : (List ByteArray)) (a1 : ByteArray) : Option Int :=
  (loopM (impl_placeAt_L1 a0 a1) big 0).bind (impl_placeAt_L1_k)
theorem impl_placeAt_ok (a0 : (List ByteArray)) (a1 : ByteArray) (r : Int) (hM : impl_placeAt a0 a1 = some r) :
    Con Try.prog 59 [.c (.rs 1 (a0.map encS)), .c (.v (.string a1))] [] (.o (.c (.v (.int .i64 r)))) [] [] := by
  unfold impl_placeAt at hM
  refine cn (N := 19) (pids := []) Try_mixed Try.func59 (by kernel_rfl) (by kernel_rfl) (by kernel_rfl) rfl fun ρ g w R => ?_
  have K1 : ∀ (_ : Unit), impl_placeAt_L1_a = some r → Gr R [.code (cAt Try.f59 [1, 1])] (⟨[], []⟩) := by
    intro _ hM
    unfold impl_placeAt_L1_a at hM
    have hE : some (-1) = some r := hM
    have hE := Option.some.inj hE
    subst hE
    exact pr R 9999 [] [] [] [] True.intro (by kernel_rfl)
  refine pc R 9999 [.ln (a0.length)] [.keep [1, 7, 8, 9] []] (k' := [.code (.loop (cAt Try.f59 [1, 0, 1, 0, 0])), .blk 0, .code (cAt Try.f59 [1, 1])]) (S' := impl_placeAt_L1_S a0 a1 0) (And.intro (lenm encS a0) True.intro) (by kernel_rfl) ?_
  refine lq (impl_placeAt_L1_S a0 a1) (body := impl_placeAt_L1 a0 a1) (k := impl_placeAt_L1_k) hM fun m1 s c1 hM hK1 => ?_
  obtain ⟨s1, hs⟩ : ∃ z, z = s := ⟨_, rfl⟩
  subst hs
  have hM : impl_placeAt_L1_b a0 a1 s1 = some c1 := hM
  unfold impl_placeAt_L1_b at hM
  rcases cond_cases hM with ⟨h2, hM⟩ | ⟨h2, hM⟩
  · obtain ⟨v3, h4, hM⟩ := bind_some hM
    rcases cond_cases hM with ⟨h5, hM⟩ | ⟨h5, hM⟩
    · have hE : some (Ctl.ret s1) = some c1 := hM
      have hE := Option.some.inj hE
      subst hE
      have hE : some s1 = some r := hK1
      have hE := Option.some.inj hE
      subst hE
      exact pr R 9999 [.as 10 true, .ix (encS v3), .as 16 true] [] [] [] (And.intro h2 (And.intro (gi_map encS h4) (And.intro h5 True.intro))) (by kernel_rfl)
    · have hE : some (Ctl.next (w64 (s1 + 1))) = some c1 := hM
      have hE := Option.some.inj hE
      subst hE
      exact pc R 9999 [.as 10 true, .ix (encS v3), .as 16 false] [.keep [1, 7, 8, 9] []] (And.intro h2 (And.intro (gi_map encS h4) (And.intro h5 True.intro))) (by kernel_rfl) (li (Sf := impl_placeAt_L1_S a0 a1) (M := Mk (impl_placeAt_L1 a0 a1) (impl_placeAt_L1_k) r) (k := [.blk 0, .code (cAt Try.f59 [1, 1])]) (Nat.lt_succ_self m1) hK1)
  · have hE : some (Ctl.brk ()) = some c1 := hM
    have hE := Option.some.inj hE
    subst hE
    exact pc R 5 [.as 10 false] [.keep [] []] (And.intro h2 True.intro) (by kernel_rfl) (K1 () hK1)

-- loop.example/g03014/impl.readyAt
def impl_readyAt (a0 : Network) (a1 : Int) (a2 : Bool) : Option Int :=
  bif a2 then
  some a1
  else
  some (w64 (a1 + a0.Change))
theorem impl_readyAt_ok (a0 : Network) (a1 : Int) (a2 : Bool) (r : Int) (hM : impl_readyAt a0 a1 a2 = some r) :
    Con Try.prog 82 [.agg [.rs 6 (a0.Legs.map Leg.enc), .rs 1 (a0.Off.map encI), .v (.int .i64 a0.Change)], .c (.v (.int .i64 a1)), .c (.v (.bool a2))] [] (.o (.c (.v (.int .i64 r)))) [] [] := by
  unfold impl_readyAt at hM
  refine cn (N := 13) (pids := []) Try_mixed Try.func82 (by kernel_rfl) (by kernel_rfl) (by kernel_rfl) rfl fun ρ g w R => ?_
  rcases cond_cases hM with ⟨h1, hM⟩ | ⟨h1, hM⟩
  · have hE : some a1 = some r := hM
    have hE := Option.some.inj hE
    subst hE
    exact pr R 9999 [.new 0, .as 7 true] [] [] [] (And.intro h1 True.intro) (by kernel_rfl)
  · have hE : some (w64 (a1 + a0.Change)) = some r := hM
    have hE := Option.some.inj hE
    subst hE
    exact pr R 9999 [.new 0, .as 7 false] [] [] [] (And.intro h1 True.intro) (by kernel_rfl)

-- loop.example/g03014/impl.runs
def impl_runs_L1_b (a0 : Network) (a2 : Int) (s11 : Int) : Option (Ctl Int Unit Bool) :=
  bif (decide (s11 < (a0.Off.length : Int))) then
  (gi a0.Off s11).bind fun v13 =>
  bif (v13 == a2) then
  some (.ret false)
  else
  some (.next (w64 (s11 + 1)))
  else
  some (.brk ())
def impl_runs_L1 (a0 : Network) (a2 : Int) (s : Int) : Option (Ctl Int Unit Bool) := impl_runs_L1_b a0 a2 s
def impl_runs_L1_s (a0 : Network) (a2 : Int) (s11 : Int) : St := ⟨[(2, .o (.c (.v (.int .i64 a2)))), (37, .o (.c (.rs 1 (a0.Off.map encI)))), (38, .o (.c (.v (.int .i64 (a0.Off.length : Int))))), (39, .o (.c (.v (.int .i64 s11))))], []⟩
def impl_runs_L1_S (a0 : Network) (a2 : Int) (s : Int) : St := impl_runs_L1_s a0 a2 s
def impl_runs_L1_a : Option Bool :=
  some true
def impl_runs_L1_k (x : (Unit) ⊕ (Bool)) : Option Bool := match x with
  | .inl t => impl_runs_L1_a
  | .inr y => some y
def impl_runs (a0 : Network) (a1 : Int) (a2 : Int) : Option Bool :=
  bif (decide (a1 < 0)) then
  some false
  else
  bif (decide (a1 ≥ (a0.Legs.length : Int))) then
  some false
  else
  (impl_within a2 0 60).bind fun v3 =>
  bif (!v3) then
  some false
  else
  (gi a0.Legs a1).bind fun v6 =>
  (shrM v6.Days (Int.tmod a2 7)).bind fun v8 =>
  bif ((w64 ((BitVec.ofInt 64 v8 &&& BitVec.ofInt 64 1).toNat)) == 0) then
  some false
  else
  (loopM (impl_runs_L1 a0 a2) big 0).bind (impl_runs_L1_k)
theorem impl_runs_ok (a0 : Network) (a1 : Int) (a2 : Int) (r : Bool) (hM : impl_runs a0 a1 a2 = some r) :
    Con Try.prog 95 [.agg [.rs 6 (a0.Legs.map Leg.enc), .rs 1 (a0.Off.map encI), .v (.int .i64 a0.Change)], .c (.v (.int .i64 a1)), .c (.v (.int .i64 a2))] [] (.o (.c (.v (.bool r)))) [] [] := by
  unfold impl_runs at hM
  refine cn (N := 47) (pids := []) Try_mixed Try.func95 (by kernel_rfl) (by kernel_rfl) (by kernel_rfl) rfl fun ρ g w R => ?_
  rcases cond_cases hM with ⟨h1, hM⟩ | ⟨h1, hM⟩
  · have hE : some false = some r := hM
    have hE := Option.some.inj hE
    subst hE
    exact pr R 9999 [.new 0, .as 11 true] [] [] [] (And.intro h1 True.intro) (by kernel_rfl)
  · rcases cond_cases hM with ⟨h2, hM⟩ | ⟨h2, hM⟩
    · have hE : some false = some r := hM
      have hE := Option.some.inj hE
      subst hE
      exact pr R 9999 [.new 0, .as 11 false, .ln (a0.Legs.length), .as 18 true] [] [] [] (And.intro h1 (And.intro (lenm Leg.enc a0.Legs) (And.intro h2 True.intro))) (by kernel_rfl)
    · obtain ⟨v3, h4, hM⟩ := bind_some hM
      rcases cond_cases hM with ⟨h5, hM⟩ | ⟨h5, hM⟩
      · have hE : some false = some r := hM
        have hE := Option.some.inj hE
        subst hE
        exact pr R 9999 [.new 0, .as 11 false, .ln (a0.Legs.length), .as 18 false, .call false [] (.o (.c (.v (.bool v3)))) [] [], .as 23 true] [] [] [] (And.intro h1 (And.intro (lenm Leg.enc a0.Legs) (And.intro h2 (And.intro (impl_within_ok a2 0 60 v3 h4) (And.intro h5 True.intro))))) (by kernel_rfl)
      · obtain ⟨v6, h7, hM⟩ := bind_some hM
        obtain ⟨v8, h9, hM⟩ := bind_some hM
        rcases cond_cases hM with ⟨h10, hM⟩ | ⟨h10, hM⟩
        · have hE : some false = some r := hM
          have hE := Option.some.inj hE
          subst hE
          exact pr R 9999 [.new 0, .as 11 false, .ln (a0.Legs.length), .as 18 false, .call false [] (.o (.c (.v (.bool v3)))) [] [], .as 23 false, .ix (Leg.enc v6), .run 32 (.int .i64 v8), .as 35 true] [] [] [] (And.intro h1 (And.intro (lenm Leg.enc a0.Legs) (And.intro h2 (And.intro (impl_within_ok a2 0 60 v3 h4) (And.intro h5 (And.intro (gi_map Leg.enc h7) (And.intro (shrM_run (P := Try.prog) (t := 3) (x := .tmp 0) (y := .tmp 0) h9) (And.intro h10 True.intro)))))))) (by kernel_rfl)
        · have K1 : ∀ (_ : Unit), impl_runs_L1_a = some r → Gr R [.code (cAt Try.f95 [1, 1, 1])] (⟨[], []⟩) := by
            intro _ hM
            unfold impl_runs_L1_a at hM
            have hE : some true = some r := hM
            have hE := Option.some.inj hE
            subst hE
            exact pr R 9999 [] [] [] [] True.intro (by kernel_rfl)
          refine pc R 9999 [.new 0, .as 11 false, .ln (a0.Legs.length), .as 18 false, .call false [] (.o (.c (.v (.bool v3)))) [] [], .as 23 false, .ix (Leg.enc v6), .run 32 (.int .i64 v8), .as 35 false, .ln (a0.Off.length)] [.keep [2, 37, 38, 39] []] (k' := [.code (.loop (cAt Try.f95 [1, 1, 0, 1, 0, 0])), .blk 0, .code (cAt Try.f95 [1, 1, 1])]) (S' := impl_runs_L1_S a0 a2 0) (And.intro h1 (And.intro (lenm Leg.enc a0.Legs) (And.intro h2 (And.intro (impl_within_ok a2 0 60 v3 h4) (And.intro h5 (And.intro (gi_map Leg.enc h7) (And.intro (shrM_run (P := Try.prog) (t := 3) (x := .tmp 0) (y := .tmp 0) h9) (And.intro h10 (And.intro (lenm encI a0.Off) True.intro))))))))) (by kernel_rfl) ?_
          refine lq (impl_runs_L1_S a0 a2) (body := impl_runs_L1 a0 a2) (k := impl_runs_L1_k) hM fun m1 s c1 hM hK1 => ?_
          obtain ⟨s11, hs⟩ : ∃ z, z = s := ⟨_, rfl⟩
          subst hs
          have hM : impl_runs_L1_b a0 a2 s11 = some c1 := hM
          unfold impl_runs_L1_b at hM
          rcases cond_cases hM with ⟨h12, hM⟩ | ⟨h12, hM⟩
          · obtain ⟨v13, h14, hM⟩ := bind_some hM
            rcases cond_cases hM with ⟨h15, hM⟩ | ⟨h15, hM⟩
            · have hE : some (Ctl.ret false) = some c1 := hM
              have hE := Option.some.inj hE
              subst hE
              have hE : some false = some r := hK1
              have hE := Option.some.inj hE
              subst hE
              exact pr R 9999 [.as 40 true, .ix (encI v13), .as 45 true] [] [] [] (And.intro h12 (And.intro (gi_map encI h14) (And.intro h15 True.intro))) (by kernel_rfl)
            · have hE : some (Ctl.next (w64 (s11 + 1))) = some c1 := hM
              have hE := Option.some.inj hE
              subst hE
              exact pc R 9999 [.as 40 true, .ix (encI v13), .as 45 false] [.keep [2, 37, 38, 39] []] (And.intro h12 (And.intro (gi_map encI h14) (And.intro h15 True.intro))) (by kernel_rfl) (li (Sf := impl_runs_L1_S a0 a2) (M := Mk (impl_runs_L1 a0 a2) (impl_runs_L1_k) r) (k := [.blk 0, .code (cAt Try.f95 [1, 1, 1])]) (Nat.lt_succ_self m1) hK1)
          · have hE : some (Ctl.brk ()) = some c1 := hM
            have hE := Option.some.inj hE
            subst hE
            exact pc R 5 [.as 40 false] [.keep [] []] (And.intro h12 True.intro) (by kernel_rfl) (K1 () hK1)

-- loop.example/g03014/impl.starts
def impl_starts (a0 : Network) (a1 : Trip) : Option Int :=
  (gi a0.Legs a1.Leg).bind fun v1 =>
  some (w64 ((w64 (a1.Day * 1440)) + v1.Start))
theorem impl_starts_ok (a0 : Network) (a1 : Trip) (r : Int) (hM : impl_starts a0 a1 = some r) :
    Con Try.prog 49 [.agg [.rs 6 (a0.Legs.map Leg.enc), .rs 1 (a0.Off.map encI), .v (.int .i64 a0.Change)], .c (.v (.agg (Trip.enc a1).toArray))] [] (.o (.c (.v (.int .i64 r)))) [] [] := by
  unfold impl_starts at hM
  refine cn (N := 16) (pids := []) Try_mixed Try.func49 (by kernel_rfl) (by kernel_rfl) (by kernel_rfl) rfl fun ρ g w R => ?_
  obtain ⟨v1, h2, hM⟩ := bind_some hM
  have hE : some (w64 ((w64 (a1.Day * 1440)) + v1.Start)) = some r := hM
  have hE := Option.some.inj hE
  subst hE
  exact pr R 9999 [.new 0, .new 1, .ix (Leg.enc v1)] [] [] [] (And.intro (gi_map Leg.enc h2) True.intro) (by kernel_rfl)

-- loop.example/g03014/impl.next
def impl_next_L1_b (a0 : Network) (a1 : Int) (a2 : Int) (s1 : Int) : Option (Ctl Int Unit (Trip × Bool)) :=
  bif (decide (s1 ≤ 60)) then
  (impl_runs a0 a1 s1).bind fun v3 =>
  bif v3 then
  (impl_starts a0 (Trip.mk ((Trip.mk a1 s1).Leg) ((Trip.mk a1 s1).Day))).bind fun v6 =>
  bif (decide (v6 ≥ a2)) then
  some (.ret ((Trip.mk ((Trip.mk ((Trip.mk a1 s1).Leg) ((Trip.mk a1 s1).Day)).Leg) ((Trip.mk ((Trip.mk a1 s1).Leg) ((Trip.mk a1 s1).Day)).Day)), true))
  else
  some (.next (w64 (s1 + 1)))
  else
  some (.next (w64 (s1 + 1)))
  else
  some (.brk ())
def impl_next_L1 (a0 : Network) (a1 : Int) (a2 : Int) (s : Int) : Option (Ctl Int Unit (Trip × Bool)) := impl_next_L1_b a0 a1 a2 s
def impl_next_L1_s (a0 : Network) (a1 : Int) (a2 : Int) (s1 : Int) : St := ⟨[(1, .o (.c (.v (.int .i64 a1)))), (2, .o (.c (.v (.int .i64 a2)))), (3, .o (.c (.ptr 0 0))), (6, .o (.c (.ptr 1 0))), (8, .o (.c (.v (.int .i64 s1))))], [(0, .box 27 [.rs 6 (a0.Legs.map Leg.enc), .rs 1 (a0.Off.map encI), .v (.int .i64 a0.Change)]), (1, .box 32 [.v (.int .i64 0), .v (.int .i64 0)])]⟩
def impl_next_L1_S (a0 : Network) (a1 : Int) (a2 : Int) (s : Int) : St := impl_next_L1_s a0 a1 a2 s
def impl_next_L1_a : Option (Trip × Bool) :=
  some ((Trip.mk ((Trip.mk 0 0).Leg) ((Trip.mk 0 0).Day)), false)
def impl_next_L1_k (x : (Unit) ⊕ (Trip × Bool)) : Option (Trip × Bool) := match x with
  | .inl t => impl_next_L1_a
  | .inr y => some y
def impl_next (a0 : Network) (a1 : Int) (a2 : Int) : Option (Trip × Bool) :=
  (loopM (impl_next_L1 a0 a1 a2) big 0).bind (impl_next_L1_k)
theorem impl_next_ok (a0 : Network) (a1 : Int) (a2 : Int) (r : Trip × Bool) (hM : impl_next a0 a1 a2 = some r) :
    Con Try.prog 84 [.agg [.rs 6 (a0.Legs.map Leg.enc), .rs 1 (a0.Off.map encI), .v (.int .i64 a0.Change)], .c (.v (.int .i64 a1)), .c (.v (.int .i64 a2))] [] (.tup [.c (.v (.agg (Trip.enc r.1).toArray)), .c (.v (.bool r.2))]) [] [] := by
  unfold impl_next at hM
  refine cn (N := 30) (pids := []) Try_mixed Try.func84 (by kernel_rfl) (by kernel_rfl) (by kernel_rfl) rfl fun ρ g w R => ?_
  have K1 : ∀ (_ : Unit), impl_next_L1_a = some r → Gr R [.code (cAt Try.f84 [1, 1])] (⟨[(6, .o (.c (.ptr 1 0)))], [(1, .box 32 [.v (.int .i64 0), .v (.int .i64 0)])]⟩) := by
    intro _ hM
    unfold impl_next_L1_a at hM
    have hE : some ((Trip.mk ((Trip.mk 0 0).Leg) ((Trip.mk 0 0).Day)), false) = some r := hM
    have hE := Option.some.inj hE
    subst hE
    exact pr R 9999 [] [] [] [] True.intro (by kernel_rfl)
  refine pc R 9999 [.new 0, .new 1] [.keep [1, 2, 3, 6, 8] [0, 1]] (k' := [.code (.loop (cAt Try.f84 [1, 0, 1, 0, 0])), .blk 0, .code (cAt Try.f84 [1, 1])]) (S' := impl_next_L1_S a0 a1 a2 0) True.intro (by kernel_rfl) ?_
  refine lq (impl_next_L1_S a0 a1 a2) (body := impl_next_L1 a0 a1 a2) (k := impl_next_L1_k) hM fun m1 s c1 hM hK1 => ?_
  obtain ⟨s1, hs⟩ : ∃ z, z = s := ⟨_, rfl⟩
  subst hs
  have hM : impl_next_L1_b a0 a1 a2 s1 = some c1 := hM
  unfold impl_next_L1_b at hM
  rcases cond_cases hM with ⟨h2, hM⟩ | ⟨h2, hM⟩
  · obtain ⟨v3, h4, hM⟩ := bind_some hM
    rcases cond_cases hM with ⟨h5, hM⟩ | ⟨h5, hM⟩
    · obtain ⟨v6, h7, hM⟩ := bind_some hM
      rcases cond_cases hM with ⟨h8, hM⟩ | ⟨h8, hM⟩
      · have hE : some (Ctl.ret ((Trip.mk ((Trip.mk ((Trip.mk a1 s1).Leg) ((Trip.mk a1 s1).Day)).Leg) ((Trip.mk ((Trip.mk a1 s1).Leg) ((Trip.mk a1 s1).Day)).Day)), true)) = some c1 := hM
        have hE := Option.some.inj hE
        subst hE
        have hE : some ((Trip.mk ((Trip.mk ((Trip.mk a1 s1).Leg) ((Trip.mk a1 s1).Day)).Leg) ((Trip.mk ((Trip.mk a1 s1).Leg) ((Trip.mk a1 s1).Day)).Day)), true) = some r := hK1
        have hE := Option.some.inj hE
        subst hE
        exact pr R 9999 [.as 11 true, .new 2, .call false [] (.o (.c (.v (.bool v3)))) [] [], .as 21 true, .call false [] (.o (.c (.v (.int .i64 v6)))) [] [], .as 27 true] [] [] [] (And.intro h2 (And.intro (impl_runs_ok a0 a1 s1 v3 h4) (And.intro h5 (And.intro (impl_starts_ok a0 (Trip.mk ((Trip.mk a1 s1).Leg) ((Trip.mk a1 s1).Day)) v6 h7) (And.intro h8 True.intro))))) (by kernel_rfl)
      · have hE : some (Ctl.next (w64 (s1 + 1))) = some c1 := hM
        have hE := Option.some.inj hE
        subst hE
        exact pc R 9999 [.as 11 true, .new 2, .call false [] (.o (.c (.v (.bool v3)))) [] [], .as 21 true, .call false [] (.o (.c (.v (.int .i64 v6)))) [] [], .as 27 false] [.keep [1, 2, 3, 6, 8] [0, 1]] (And.intro h2 (And.intro (impl_runs_ok a0 a1 s1 v3 h4) (And.intro h5 (And.intro (impl_starts_ok a0 (Trip.mk ((Trip.mk a1 s1).Leg) ((Trip.mk a1 s1).Day)) v6 h7) (And.intro h8 True.intro))))) (by kernel_rfl) (li (Sf := impl_next_L1_S a0 a1 a2) (M := Mk (impl_next_L1 a0 a1 a2) (impl_next_L1_k) r) (k := [.blk 0, .code (cAt Try.f84 [1, 1])]) (Nat.lt_succ_self m1) hK1)
    · have hE : some (Ctl.next (w64 (s1 + 1))) = some c1 := hM
      have hE := Option.some.inj hE
      subst hE
      exact pc R 9999 [.as 11 true, .new 2, .call false [] (.o (.c (.v (.bool v3)))) [] [], .as 21 false] [.keep [1, 2, 3, 6, 8] [0, 1]] (And.intro h2 (And.intro (impl_runs_ok a0 a1 s1 v3 h4) (And.intro h5 True.intro))) (by kernel_rfl) (li (Sf := impl_next_L1_S a0 a1 a2) (M := Mk (impl_next_L1 a0 a1 a2) (impl_next_L1_k) r) (k := [.blk 0, .code (cAt Try.f84 [1, 1])]) (Nat.lt_succ_self m1) hK1)
  · have hE : some (Ctl.brk ()) = some c1 := hM
    have hE := Option.some.inj hE
    subst hE
    exact pc R 5 [.as 11 false] [.keep [6] [1]] (And.intro h2 True.intro) (by kernel_rfl) (K1 () hK1)

-- loop.example/g03014/impl.nextOf$1
def impl_nextOf_c1 (a0 : Int) (a1 : Int) (a2 : Network) : Option (Trip × Bool) :=
  (impl_next a2 a0 a1).bind fun v1 =>
  some (v1.1, v1.2)
theorem impl_nextOf_c1_ok (a0 : Int) (a1 : Int) (a2 : Network) (r : Trip × Bool) (hM : impl_nextOf_c1 a0 a1 a2 = some r) :
    Con Try.prog 83 [.c (.v (.int .i64 a0)), .c (.v (.int .i64 a1)), .c (.ptr 902 0)] [(902, .box 27 [.rs 6 (a2.Legs.map Leg.enc), .rs 1 (a2.Off.map encI), .v (.int .i64 a2.Change)])] (.tup [.c (.v (.agg (Trip.enc r.1).toArray)), .c (.v (.bool r.2))]) [(902, .box 27 [.rs 6 (a2.Legs.map Leg.enc), .rs 1 (a2.Off.map encI), .v (.int .i64 a2.Change)])] [] := by
  unfold impl_nextOf_c1 at hM
  refine cn (N := 18) (pids := [902]) Try_mixed Try.func83 (by kernel_rfl) (by kernel_rfl) (by kernel_rfl) rfl fun ρ g w R => ?_
  obtain ⟨v1, h2, hM⟩ := bind_some hM
  have hE : some (v1.1, v1.2) = some r := hM
  have hE := Option.some.inj hE
  subst hE
  exact pr R 9999 [.new 0, .call false [] (.tup [.c (.v (.agg (Trip.enc v1.1).toArray)), .c (.v (.bool v1.2))]) [] [], .new 1] [] [902] [] (And.intro (impl_next_ok a2 a0 a1 v1 h2) True.intro) (by kernel_rfl)

-- loop.example/g03014/impl.ends
def impl_ends (a0 : Network) (a1 : Trip) : Option Int :=
  (impl_starts a0 a1).bind fun v1 =>
  (gi a0.Legs a1.Leg).bind fun v3 =>
  some (w64 (v1 + v3.Takes))
theorem impl_ends_ok (a0 : Network) (a1 : Trip) (r : Int) (hM : impl_ends a0 a1 = some r) :
    Con Try.prog 50 [.agg [.rs 6 (a0.Legs.map Leg.enc), .rs 1 (a0.Off.map encI), .v (.int .i64 a0.Change)], .c (.v (.agg (Trip.enc a1).toArray))] [] (.o (.c (.v (.int .i64 r)))) [] [] := by
  unfold impl_ends at hM
  refine cn (N := 16) (pids := []) Try_mixed Try.func50 (by kernel_rfl) (by kernel_rfl) (by kernel_rfl) rfl fun ρ g w R => ?_
  obtain ⟨v1, h2, hM⟩ := bind_some hM
  obtain ⟨v3, h4, hM⟩ := bind_some hM
  have hE : some (w64 (v1 + v3.Takes)) = some r := hM
  have hE := Option.some.inj hE
  subst hE
  exact pr R 9999 [.new 0, .new 1, .call false [] (.o (.c (.v (.int .i64 v1)))) [] [], .ix (Leg.enc v3)] [] [] [] (And.intro (impl_starts_ok a0 a1 v1 h2) (And.intro (gi_map Leg.enc h4) True.intro)) (by kernel_rfl)

-- loop.example/g03014/impl.arrivals
def impl_arrivals_at1fn83_x16 (a0 : Network) (a1 : (Network)) (a4 : Int) (v1 : (List ByteArray)) (v3 : Int) (s13 : (List Int)) (s14 : Int) (s19 : (List Int)) (s20 : Bool) (s21 : Int) (v30 : Int) (v39 : (Trip × Bool)) : St := ⟨[(1, .o (.c (.fn 83 [901]))), (4, .o (.c (.v (.int .i64 a4)))), (5, .o (.c (.ptr 0 0))), (11, .o (.c (.sl 1))), (12, .o (.c (.v (.int .i64 v3)))), (13, .o (.c (.sl 2))), (14, .o (.c (.v (.int .i64 s14)))), (15, .o (.c (.sl 4))), (16, .o (.c (.v (.bool s20)))), (20, .o (.c (.v (.int .i64 v30)))), (21, .o (.c (.ptr 6 0))), (22, .o (.c (.v (.bool v39.2)))), (61, .o (.c (.rs 6 (a0.Legs.map Leg.enc)))), (62, .o (.c (.v (.int .i64 (a0.Legs.length : Int))))), (63, .o (.c (.v (.int .i64 s21))))], [(901, .box 27 [.rs 6 (a1.Legs.map Leg.enc), .rs 1 (a1.Off.map encI), .v (.int .i64 a1.Change)]), (0, .box 27 [.rs 6 (a0.Legs.map Leg.enc), .rs 1 (a0.Off.map encI), .v (.int .i64 a0.Change)]), (1, .row 9 1 (v1.map encS)), (2, .row 3 1 (s13.map encI)), (4, .row 3 1 (s19.map encI)), (6, .box 32 [.v (.int .i64 v39.1.Leg), .v (.int .i64 v39.1.Day)])]⟩
def impl_arrivals_at1fn83_s16 (a0 : Network) (a1 : (Network)) (a4 : Int) (v1 : (List ByteArray)) (v3 : Int) (s13 : (List Int)) (s14 : Int) (s19 : (List Int)) (s20 : Bool) (s21 : Int) (v28 : Int) (v30 : Int) : St := ⟨[(1, .o (.c (.fn 83 [901]))), (4, .o (.c (.v (.int .i64 a4)))), (5, .o (.c (.ptr 0 0))), (11, .o (.c (.sl 1))), (12, .o (.c (.v (.int .i64 v3)))), (13, .o (.c (.sl 2))), (14, .o (.c (.v (.int .i64 s14)))), (15, .o (.c (.sl 4))), (16, .o (.c (.v (.bool s20)))), (17, .o (.c (.v (.int .i64 s21)))), (19, .o (.c (.v (.int .i64 v28)))), (20, .o (.c (.v (.int .i64 v30)))), (61, .o (.c (.rs 6 (a0.Legs.map Leg.enc)))), (62, .o (.c (.v (.int .i64 (a0.Legs.length : Int))))), (63, .o (.c (.v (.int .i64 s21))))], [(901, .box 27 [.rs 6 (a1.Legs.map Leg.enc), .rs 1 (a1.Off.map encI), .v (.int .i64 a1.Change)]), (0, .box 27 [.rs 6 (a0.Legs.map Leg.enc), .rs 1 (a0.Off.map encI), .v (.int .i64 a0.Change)]), (1, .row 9 1 (v1.map encS)), (2, .row 3 1 (s13.map encI)), (4, .row 3 1 (s19.map encI))]⟩
def impl_arrivals_at1fn83_o16 (a1 : (Network)) (v35 : Int) (v37 : Int) (v39 : (Trip × Bool)) : List (List Orc) := [[], [], [], [], [], [], [.ix (encI v35)], [], [], [], [.call false [] (.o (.c (.v (.int .i64 v37)))) [] []], [.call true [901] (.tup [.c (.v (.agg (Trip.enc v39.1).toArray)), .c (.v (.bool v39.2))]) [(901, .box 27 [.rs 6 (a1.Legs.map Leg.enc), .rs 1 (a1.Off.map encI), .v (.int .i64 a1.Change)])] []], [], [], [], [.new 6], [], []]
theorem impl_arrivals_at1fn83_y16 (a0 : Network) (a1 : (Network)) (a4 : Int) (v1 : (List ByteArray)) (v3 : Int) (s13 : (List Int)) (s14 : Int) (s19 : (List Int)) (s20 : Bool) (s21 : Int) (v28 : Int) (v30 : Int) (v35 : Int) (v37 : Int) (v39 : (Trip × Bool)) (L : List Nat) : subX Try.prog [901] 125 (opsOf (cAt Try.f61 [1, 1, 1, 1, 1, 1, 1, 0, 1, 0, 0, 1, 0, 0, 1, 1, 0, 1, 0, 0, 1, 1, 0, 0, 1, 1, 1, 1, 0])) (impl_arrivals_at1fn83_o16 a1 v35 v37 v39) L (impl_arrivals_at1fn83_s16 a0 a1 a4 v1 v3 s13 s14 s19 s20 s21 v28 v30) = subX Try.prog [901] 125 (opsOf (cAt Try.f61 [1, 1, 1, 1, 1, 1, 1, 0, 1, 0, 0, 1, 0, 0, 1, 1, 0, 1, 0, 0, 1, 1, 0, 0, 1, 1, 1, 1, 0])) (impl_arrivals_at1fn83_o16 a1 v35 v37 v39) L (impl_arrivals_at1fn83_s16 a0 a1 a4 v1 v3 s13 s14 s19 s20 s21 v28 v30) := rfl
def impl_arrivals_at1fn83_j1 (a0 : Network) (s19 : (List Int)) (s20 : Bool) (s21 : Int) (v30 : Int) (v39 : (Trip × Bool)) : Option (Ctl ((List Int) × Bool × Int) ((List Int) × Bool) (List Int)) :=
  bif v39.2 then
  (gi s19 v30).bind fun v42 =>
  bif (decide (v42 < 0)) then
  (impl_ends a0 v39.1).bind fun v45 =>
  (gi s19 v30).bind fun v47 =>
  some (.next (List.set s19 (Int.toNat v30) v45, true, w64 (s21 + 1)))
  else
  (impl_ends a0 v39.1).bind fun v49 =>
  (gi s19 v30).bind fun v51 =>
  bif (decide (v49 < v51)) then
  (impl_ends a0 v39.1).bind fun v54 =>
  (gi s19 v30).bind fun v56 =>
  some (.next (List.set s19 (Int.toNat v30) v54, true, w64 (s21 + 1)))
  else
  some (.next (s19, s20, w64 (s21 + 1)))
  else
  some (.next (s19, s20, w64 (s21 + 1)))
def impl_arrivals_at1fn83_L3_b (a0 : Network) (a1 : (Network)) (v1 : (List ByteArray)) (v3 : Int) (s13 : (List Int)) (s19 : (List Int)) (s20 : Bool) (s21 : Int) : Option (Ctl ((List Int) × Bool × Int) ((List Int) × Bool) (List Int)) :=
  bif (decide (s21 < (a0.Legs.length : Int))) then
  (gi a0.Legs s21).bind fun v26 =>
  (impl_placeAt v1 v26.From).bind fun v28 =>
  (impl_placeAt v1 v26.To).bind fun v30 =>
  (gi s13 v28).bind fun v32 =>
  bif (decide (v32 < 0)) then
  some (.next (s19, s20, w64 (s21 + 1)))
  else
  (gi s13 v28).bind fun v35 =>
  (impl_readyAt a0 v35 (v28 == v3)).bind fun v37 =>
  (impl_nextOf_c1 s21 v37 a1).bind fun v39 =>
  impl_arrivals_at1fn83_j1 a0 s19 s20 s21 v30 v39
  else
  some (.brk (s19, s20))
def impl_arrivals_at1fn83_L3 (a0 : Network) (a1 : (Network)) (v1 : (List ByteArray)) (v3 : Int) (s13 : (List Int)) (s : (List Int) × Bool × Int) : Option (Ctl ((List Int) × Bool × Int) ((List Int) × Bool) (List Int)) := impl_arrivals_at1fn83_L3_b a0 a1 v1 v3 s13 s.1 s.2.1 s.2.2
def impl_arrivals_at1fn83_L3_s (a0 : Network) (a1 : (Network)) (a4 : Int) (v1 : (List ByteArray)) (v3 : Int) (s13 : (List Int)) (s14 : Int) (s19 : (List Int)) (s20 : Bool) (s21 : Int) : St := ⟨[(1, .o (.c (.fn 83 [901]))), (4, .o (.c (.v (.int .i64 a4)))), (5, .o (.c (.ptr 0 0))), (11, .o (.c (.sl 1))), (12, .o (.c (.v (.int .i64 v3)))), (13, .o (.c (.sl 2))), (14, .o (.c (.v (.int .i64 s14)))), (15, .o (.c (.sl 4))), (16, .o (.c (.v (.bool s20)))), (61, .o (.c (.rs 6 (a0.Legs.map Leg.enc)))), (62, .o (.c (.v (.int .i64 (a0.Legs.length : Int))))), (63, .o (.c (.v (.int .i64 s21))))], [(901, .box 27 [.rs 6 (a1.Legs.map Leg.enc), .rs 1 (a1.Off.map encI), .v (.int .i64 a1.Change)]), (0, .box 27 [.rs 6 (a0.Legs.map Leg.enc), .rs 1 (a0.Off.map encI), .v (.int .i64 a0.Change)]), (1, .row 9 1 (v1.map encS)), (2, .row 3 1 (s13.map encI)), (4, .row 3 1 (s19.map encI))]⟩
def impl_arrivals_at1fn83_L3_S (a0 : Network) (a1 : (Network)) (a4 : Int) (v1 : (List ByteArray)) (v3 : Int) (s13 : (List Int)) (s14 : Int) (s : (List Int) × Bool × Int) : St := impl_arrivals_at1fn83_L3_s a0 a1 a4 v1 v3 s13 s14 s.1 s.2.1 s.2.2
def impl_arrivals_at1fn83_L3_a (s14 : Int) (s22 : (List Int)) (s23 : Bool) : Option (Ctl ((List Int) × Int) (List Int) (List Int)) :=
  bif (!s23) then
  some (.brk s22)
  else
  some (.next (s22, w64 (s14 + 1)))
def impl_arrivals_at1fn83_L3_k (s14 : Int) (x : ((List Int) × Bool) ⊕ ((List Int))) : Option (Ctl ((List Int) × Int) (List Int) (List Int)) := match x with
  | .inl t => impl_arrivals_at1fn83_L3_a s14 t.1 t.2
  | .inr y => some (.ret y)
def impl_arrivals_at1fn83_L2_b (a0 : Network) (a1 : (Network)) (a4 : Int) (v1 : (List ByteArray)) (v3 : Int) (s13 : (List Int)) (s14 : Int) : Option (Ctl ((List Int) × Int) (List Int) (List Int)) :=
  bif (decide (s14 < a4)) then
  (ap 8 ([] : List Int) s13).bind fun v17 =>
  (loopM (impl_arrivals_at1fn83_L3 a0 a1 v1 v3 s13) big (v17, false, 0)).bind (impl_arrivals_at1fn83_L3_k s14)
  else
  some (.brk s13)
def impl_arrivals_at1fn83_L2 (a0 : Network) (a1 : (Network)) (a4 : Int) (v1 : (List ByteArray)) (v3 : Int) (s : (List Int) × Int) : Option (Ctl ((List Int) × Int) (List Int) (List Int)) := impl_arrivals_at1fn83_L2_b a0 a1 a4 v1 v3 s.1 s.2
def impl_arrivals_at1fn83_L2_s (a0 : Network) (a1 : (Network)) (a4 : Int) (v1 : (List ByteArray)) (v3 : Int) (s13 : (List Int)) (s14 : Int) : St := ⟨[(1, .o (.c (.fn 83 [901]))), (4, .o (.c (.v (.int .i64 a4)))), (5, .o (.c (.ptr 0 0))), (11, .o (.c (.sl 1))), (12, .o (.c (.v (.int .i64 v3)))), (13, .o (.c (.sl 2))), (14, .o (.c (.v (.int .i64 s14))))], [(901, .box 27 [.rs 6 (a1.Legs.map Leg.enc), .rs 1 (a1.Off.map encI), .v (.int .i64 a1.Change)]), (0, .box 27 [.rs 6 (a0.Legs.map Leg.enc), .rs 1 (a0.Off.map encI), .v (.int .i64 a0.Change)]), (1, .row 9 1 (v1.map encS)), (2, .row 3 1 (s13.map encI))]⟩
def impl_arrivals_at1fn83_L2_S (a0 : Network) (a1 : (Network)) (a4 : Int) (v1 : (List ByteArray)) (v3 : Int) (s : (List Int) × Int) : St := impl_arrivals_at1fn83_L2_s a0 a1 a4 v1 v3 s.1 s.2
def impl_arrivals_at1fn83_L2_a (s15 : (List Int)) : Option (List Int) :=
  some s15
def impl_arrivals_at1fn83_L2_k (x : ((List Int)) ⊕ ((List Int))) : Option (List Int) := match x with
  | .inl t => impl_arrivals_at1fn83_L2_a t
  | .inr y => some y
def impl_arrivals_at1fn83_L1_b (v1 : (List ByteArray)) (s8 : (List Int)) (s9 : Int) : Option (Ctl ((List Int) × Int) (List Int) (List Int)) :=
  bif (decide (s9 < (v1.length : Int))) then
  (ap 8 s8 ([(-1)] : List Int)).bind fun v59 =>
  some (.next (v59, w64 (s9 + 1)))
  else
  some (.brk s8)
def impl_arrivals_at1fn83_L1 (v1 : (List ByteArray)) (s : (List Int) × Int) : Option (Ctl ((List Int) × Int) (List Int) (List Int)) := impl_arrivals_at1fn83_L1_b v1 s.1 s.2
def impl_arrivals_at1fn83_L1_s (a0 : Network) (a1 : (Network)) (a3 : Int) (a4 : Int) (v1 : (List ByteArray)) (v3 : Int) (s8 : (List Int)) (s9 : Int) : St := ⟨[(1, .o (.c (.fn 83 [901]))), (3, .o (.c (.v (.int .i64 a3)))), (4, .o (.c (.v (.int .i64 a4)))), (5, .o (.c (.ptr 0 0))), (11, .o (.c (.sl 1))), (12, .o (.c (.v (.int .i64 v3)))), (13, .o (.c (.sl 2))), (40, .o (.c (.v (.int .i64 (v1.length : Int))))), (41, .o (.c (.v (.int .i64 s9))))], [(901, .box 27 [.rs 6 (a1.Legs.map Leg.enc), .rs 1 (a1.Off.map encI), .v (.int .i64 a1.Change)]), (0, .box 27 [.rs 6 (a0.Legs.map Leg.enc), .rs 1 (a0.Off.map encI), .v (.int .i64 a0.Change)]), (1, .row 9 1 (v1.map encS)), (2, .row 3 1 (s8.map encI))]⟩
def impl_arrivals_at1fn83_L1_S (a0 : Network) (a1 : (Network)) (a3 : Int) (a4 : Int) (v1 : (List ByteArray)) (v3 : Int) (s : (List Int) × Int) : St := impl_arrivals_at1fn83_L1_s a0 a1 a3 a4 v1 v3 s.1 s.2
def impl_arrivals_at1fn83_L1_a (a0 : Network) (a1 : (Network)) (a3 : Int) (a4 : Int) (v1 : (List ByteArray)) (v3 : Int) (s10 : (List Int)) : Option (List Int) :=
  (gi s10 v3).bind fun v11 =>
  (loopM (impl_arrivals_at1fn83_L2 a0 a1 a4 v1 v3) big (List.set s10 (Int.toNat v3) (if 0 > a3 then 0 else a3), 0)).bind (impl_arrivals_at1fn83_L2_k)
def impl_arrivals_at1fn83_L1_k (a0 : Network) (a1 : (Network)) (a3 : Int) (a4 : Int) (v1 : (List ByteArray)) (v3 : Int) (x : ((List Int)) ⊕ ((List Int))) : Option (List Int) := match x with
  | .inl t => impl_arrivals_at1fn83_L1_a a0 a1 a3 a4 v1 v3 t
  | .inr y => some y
def impl_arrivals_at1fn83 (a0 : Network) (a1 : (Network)) (a2 : ByteArray) (a3 : Int) (a4 : Int) : Option (List Int) :=
  (impl_PlacesOf a0).bind fun v1 =>
  (impl_placeAt v1 a2).bind fun v3 =>
  bif (decide (v3 < 0)) then
  some ([] : List Int)
  else
  bif (decide (a3 > 100000)) then
  some ([] : List Int)
  else
  bif (decide (a4 < 0)) then
  some ([] : List Int)
  else
  (loopM (impl_arrivals_at1fn83_L1 v1) big (([] : List Int), 0)).bind (impl_arrivals_at1fn83_L1_k a0 a1 a3 a4 v1 v3)
theorem impl_arrivals_at1fn83_ok (a0 : Network) (a1 : (Network)) (a2 : ByteArray) (a3 : Int) (a4 : Int) (r : (List Int)) (hM : impl_arrivals_at1fn83 a0 a1 a2 a3 a4 = some r) :
    Con Try.prog 61 [.agg [.rs 6 (a0.Legs.map Leg.enc), .rs 1 (a0.Off.map encI), .v (.int .i64 a0.Change)], .c (.fn 83 [901]), .c (.v (.string a2)), .c (.v (.int .i64 a3)), .c (.v (.int .i64 a4))] [(901, .box 27 [.rs 6 (a1.Legs.map Leg.enc), .rs 1 (a1.Off.map encI), .v (.int .i64 a1.Change)])] (.o (.c (.sl 1000))) [(901, .box 27 [.rs 6 (a1.Legs.map Leg.enc), .rs 1 (a1.Off.map encI), .v (.int .i64 a1.Change)])] [(1000, .row 3 1 (r.map encI))] := by
  unfold impl_arrivals_at1fn83 at hM
  refine cn (N := 125) (pids := [901]) Try_mixed Try.func61 (by kernel_rfl) (by kernel_rfl) (by kernel_rfl) rfl fun ρ g w R => ?_
  obtain ⟨v1, h2, hM⟩ := bind_some hM
  obtain ⟨v3, h4, hM⟩ := bind_some hM
  rcases cond_cases hM with ⟨h5, hM⟩ | ⟨h5, hM⟩
  · have hE : some ([] : List Int) = some r := hM
    have hE := Option.some.inj hE
    subst hE
    exact pr R 9999 [.new 0, .call false [] (.o (.c (.sl 1))) [] [(1, .row 9 1 (v1.map encS))], .call false [] (.o (.c (.v (.int .i64 v3)))) [] [], .as 30 true] [.nl 10 1000 3 1] [901] [1000] (And.intro (And.intro (con_sw 1000 1 (impl_PlacesOf_ok a0 v1 h2)) (rfl : ([] : List Nat) = [])) (And.intro (impl_placeAt_ok v1 a2 v3 h4) (And.intro h5 True.intro))) (by kernel_rfl)
  · rcases cond_cases hM with ⟨h6, hM⟩ | ⟨h6, hM⟩
    · have hE : some ([] : List Int) = some r := hM
      have hE := Option.some.inj hE
      subst hE
      exact pr R 9999 [.new 0, .call false [] (.o (.c (.sl 1))) [] [(1, .row 9 1 (v1.map encS))], .call false [] (.o (.c (.v (.int .i64 v3)))) [] [], .as 30 false, .as 34 true] [.nl 10 1000 3 1] [901] [1000] (And.intro (And.intro (con_sw 1000 1 (impl_PlacesOf_ok a0 v1 h2)) (rfl : ([] : List Nat) = [])) (And.intro (impl_placeAt_ok v1 a2 v3 h4) (And.intro h5 (And.intro h6 True.intro)))) (by kernel_rfl)
    · rcases cond_cases hM with ⟨h7, hM⟩ | ⟨h7, hM⟩
      · have hE : some ([] : List Int) = some r := hM
        have hE := Option.some.inj hE
        subst hE
        exact pr R 9999 [.new 0, .call false [] (.o (.c (.sl 1))) [] [(1, .row 9 1 (v1.map encS))], .call false [] (.o (.c (.v (.int .i64 v3)))) [] [], .as 30 false, .as 34 false, .as 37 true] [.nl 10 1000 3 1] [901] [1000] (And.intro (And.intro (con_sw 1000 1 (impl_PlacesOf_ok a0 v1 h2)) (rfl : ([] : List Nat) = [])) (And.intro (impl_placeAt_ok v1 a2 v3 h4) (And.intro h5 (And.intro h6 (And.intro h7 True.intro))))) (by kernel_rfl)
      · have K1 : ∀ (s10 : (List Int)), impl_arrivals_at1fn83_L1_a a0 a1 a3 a4 v1 v3 s10 = some r → Gr R [.code (cAt Try.f61 [1, 1, 1, 1, 1, 1])] (⟨[(1, .o (.c (.fn 83 [901]))), (3, .o (.c (.v (.int .i64 a3)))), (4, .o (.c (.v (.int .i64 a4)))), (5, .o (.c (.ptr 0 0))), (11, .o (.c (.sl 1))), (12, .o (.c (.v (.int .i64 v3)))), (13, .o (.c (.sl 2)))], [(901, .box 27 [.rs 6 (a1.Legs.map Leg.enc), .rs 1 (a1.Off.map encI), .v (.int .i64 a1.Change)]), (0, .box 27 [.rs 6 (a0.Legs.map Leg.enc), .rs 1 (a0.Off.map encI), .v (.int .i64 a0.Change)]), (1, .row 9 1 (v1.map encS)), (2, .row 3 1 (s10.map encI))]⟩) := by
          intro s10 hM
          unfold impl_arrivals_at1fn83_L1_a at hM
          obtain ⟨v11, h12, hM⟩ := bind_some hM
          have K2 : ∀ (s15 : (List Int)), impl_arrivals_at1fn83_L2_a s15 = some r → Gr R [.code (cAt Try.f61 [1, 1, 1, 1, 1, 1, 1, 1])] (⟨[(1, .o (.c (.fn 83 [901]))), (13, .o (.c (.sl 4)))], [(901, .box 27 [.rs 6 (a1.Legs.map Leg.enc), .rs 1 (a1.Off.map encI), .v (.int .i64 a1.Change)]), (4, .row 3 1 (s15.map encI))]⟩) := by
            intro s15 hM
            unfold impl_arrivals_at1fn83_L2_a at hM
            have hE : some s15 = some r := hM
            have hE := Option.some.inj hE
            subst hE
            exact pr R 9999 [] [.sw 4 1000] [901] [1000] True.intro (by kernel_rfl)
          refine pc R 9999 [.ix (encI v11), .nm ((List.set s10 (Int.toNat v3) (if 0 > a3 then 0 else a3)).map encI)] [.keep [1, 4, 5, 11, 12, 13, 14] [901, 0, 1, 2]] (k' := [.code (.loop (cAt Try.f61 [1, 1, 1, 1, 1, 1, 1, 0, 1, 0, 0])), .blk 2, .code (cAt Try.f61 [1, 1, 1, 1, 1, 1, 1, 1])]) (S' := impl_arrivals_at1fn83_L2_S a0 a1 a4 v1 v3 (List.set s10 (Int.toNat v3) (if 0 > a3 then 0 else a3), 0)) (And.intro (gi_lt encI h12) (And.intro (And.intro (gi_map encI h12).2 (set_map encI s10 (Int.toNat v3) (if 0 > a3 then 0 else a3))) True.intro)) (by kernel_rfl) ?_
          refine lq (impl_arrivals_at1fn83_L2_S a0 a1 a4 v1 v3) (body := impl_arrivals_at1fn83_L2 a0 a1 a4 v1 v3) (k := impl_arrivals_at1fn83_L2_k) hM fun m2 s c2 hM hK2 => ?_
          obtain ⟨s13, s14⟩ := s
          have hM : impl_arrivals_at1fn83_L2_b a0 a1 a4 v1 v3 s13 s14 = some c2 := hM
          unfold impl_arrivals_at1fn83_L2_b at hM
          rcases cond_cases hM with ⟨h16, hM⟩ | ⟨h16, hM⟩
          · obtain ⟨v17, h18, hM⟩ := bind_some hM
            have K3 : ∀ (s22 : (List Int)) (s23 : Bool), impl_arrivals_at1fn83_L3_a s14 s22 s23 = some c2 → Gr R [.code (cAt Try.f61 [1, 1, 1, 1, 1, 1, 1, 0, 1, 0, 0, 1, 0, 0, 1, 1, 1]), .blk 3, .code (cAt Try.f61 [1, 1, 1, 1, 1, 1, 1, 0, 1, 0, 0, 1, 1]), .inv (Jr R (impl_arrivals_at1fn83_L2_S a0 a1 a4 v1 v3) (Mk (impl_arrivals_at1fn83_L2 a0 a1 a4 v1 v3) (impl_arrivals_at1fn83_L2_k) r) (m2 + 1)), .blk 2, .code (cAt Try.f61 [1, 1, 1, 1, 1, 1, 1, 1])] (⟨[(1, .o (.c (.fn 83 [901]))), (4, .o (.c (.v (.int .i64 a4)))), (5, .o (.c (.ptr 0 0))), (11, .o (.c (.sl 1))), (12, .o (.c (.v (.int .i64 v3)))), (14, .o (.c (.v (.int .i64 s14)))), (15, .o (.c (.sl 4))), (16, .o (.c (.v (.bool s23))))], [(901, .box 27 [.rs 6 (a1.Legs.map Leg.enc), .rs 1 (a1.Off.map encI), .v (.int .i64 a1.Change)]), (0, .box 27 [.rs 6 (a0.Legs.map Leg.enc), .rs 1 (a0.Off.map encI), .v (.int .i64 a0.Change)]), (1, .row 9 1 (v1.map encS)), (4, .row 3 1 (s22.map encI))]⟩) := by
              intro s22 s23 hM
              unfold impl_arrivals_at1fn83_L3_a at hM
              rcases cond_cases hM with ⟨h24, hM⟩ | ⟨h24, hM⟩
              · have hE : some (Ctl.brk s22) = some c2 := hM
                have hE := Option.some.inj hE
                subst hE
                exact pc R 6 [.as 123 true] [.keep [1, 13] [901, 4]] (And.intro h24 True.intro) (by kernel_rfl) (K2 s22 hK2)
              · have hE : some (Ctl.next (s22, w64 (s14 + 1))) = some c2 := hM
                have hE := Option.some.inj hE
                subst hE
                exact pc R 9999 [.as 123 false] [.sw 4 2, .keep [1, 4, 5, 11, 12, 13, 14] [901, 0, 1, 2]] (And.intro h24 True.intro) (by kernel_rfl) (li (Sf := impl_arrivals_at1fn83_L2_S a0 a1 a4 v1 v3) (M := Mk (impl_arrivals_at1fn83_L2 a0 a1 a4 v1 v3) (impl_arrivals_at1fn83_L2_k) r) (k := [.blk 2, .code (cAt Try.f61 [1, 1, 1, 1, 1, 1, 1, 1])]) (Nat.lt_succ_self m2) hK2)
            refine pc R 9999 [.as 54 true, .new 3, .new 4, .nm (v17.map encI), .ln (a0.Legs.length)] [.keep [1, 4, 5, 11, 12, 13, 14, 15, 16, 61, 62, 63] [901, 0, 1, 2, 4]] (k' := [.code (.loop (cAt Try.f61 [1, 1, 1, 1, 1, 1, 1, 0, 1, 0, 0, 1, 0, 0, 1, 1, 0, 1, 0, 0])), .blk 4, .code (cAt Try.f61 [1, 1, 1, 1, 1, 1, 1, 0, 1, 0, 0, 1, 0, 0, 1, 1, 1]), .blk 3, .code (cAt Try.f61 [1, 1, 1, 1, 1, 1, 1, 0, 1, 0, 0, 1, 1]), .inv (Jr R (impl_arrivals_at1fn83_L2_S a0 a1 a4 v1 v3) (Mk (impl_arrivals_at1fn83_L2 a0 a1 a4 v1 v3) (impl_arrivals_at1fn83_L2_k) r) (m2 + 1)), .blk 2, .code (cAt Try.f61 [1, 1, 1, 1, 1, 1, 1, 1])]) (S' := impl_arrivals_at1fn83_L3_S a0 a1 a4 v1 v3 s13 s14 (v17, false, 0)) (And.intro h16 (And.intro (ap_ok encI h18) (And.intro (lenm Leg.enc a0.Legs) True.intro))) (by kernel_rfl) ?_
            refine lq (impl_arrivals_at1fn83_L3_S a0 a1 a4 v1 v3 s13 s14) (body := impl_arrivals_at1fn83_L3 a0 a1 v1 v3 s13) (k := impl_arrivals_at1fn83_L3_k s14) hM fun m3 s c3 hM hK3 => ?_
            obtain ⟨s19, s20, s21⟩ := s
            have hM : impl_arrivals_at1fn83_L3_b a0 a1 v1 v3 s13 s19 s20 s21 = some c3 := hM
            unfold impl_arrivals_at1fn83_L3_b at hM
            rcases cond_cases hM with ⟨h25, hM⟩ | ⟨h25, hM⟩
            · obtain ⟨v26, h27, hM⟩ := bind_some hM
              obtain ⟨v28, h29, hM⟩ := bind_some hM
              obtain ⟨v30, h31, hM⟩ := bind_some hM
              obtain ⟨v32, h33, hM⟩ := bind_some hM
              rcases cond_cases hM with ⟨h34, hM⟩ | ⟨h34, hM⟩
              · have hE : some (Ctl.next (s19, s20, w64 (s21 + 1))) = some c3 := hM
                have hE := Option.some.inj hE
                subst hE
                exact pc R 9999 [.as 64 true, .ix (Leg.enc v26), .new 5, .call false [] (.o (.c (.v (.int .i64 v28)))) [] [], .call false [] (.o (.c (.v (.int .i64 v30)))) [] [], .ix (encI v32), .as 80 true] [.keep [1, 4, 5, 11, 12, 13, 14, 15, 16, 61, 62, 63] [901, 0, 1, 2, 4]] (And.intro h25 (And.intro (gi_map Leg.enc h27) (And.intro (impl_placeAt_ok v1 v26.From v28 h29) (And.intro (impl_placeAt_ok v1 v26.To v30 h31) (And.intro (gi_lt encI h33) (And.intro ((gi_map encI h33).2) (And.intro h34 True.intro))))))) (by kernel_rfl) (li (Sf := impl_arrivals_at1fn83_L3_S a0 a1 a4 v1 v3 s13 s14) (M := Mk (impl_arrivals_at1fn83_L3 a0 a1 v1 v3 s13) (impl_arrivals_at1fn83_L3_k s14) c2) (k := [.blk 4, .code (cAt Try.f61 [1, 1, 1, 1, 1, 1, 1, 0, 1, 0, 0, 1, 0, 0, 1, 1, 1]), .blk 3, .code (cAt Try.f61 [1, 1, 1, 1, 1, 1, 1, 0, 1, 0, 0, 1, 1]), .inv (Jr R (impl_arrivals_at1fn83_L2_S a0 a1 a4 v1 v3) (Mk (impl_arrivals_at1fn83_L2 a0 a1 a4 v1 v3) (impl_arrivals_at1fn83_L2_k) r) (m2 + 1)), .blk 2, .code (cAt Try.f61 [1, 1, 1, 1, 1, 1, 1, 1])]) (Nat.lt_succ_self m3) hK3)
              · obtain ⟨v35, h36, hM⟩ := bind_some hM
                obtain ⟨v37, h38, hM⟩ := bind_some hM
                obtain ⟨v39, h40, hM⟩ := bind_some hM
                have J1 : ∀ (_ : Unit), impl_arrivals_at1fn83_j1 a0 s19 s20 s21 v30 v39 = some c3 → Gr R [.code (cAt Try.f61 [1, 1, 1, 1, 1, 1, 1, 0, 1, 0, 0, 1, 0, 0, 1, 1, 0, 1, 0, 0, 1, 1, 0, 0, 1, 1, 1, 1, 1]), .blk 5, .code (cAt Try.f61 [1, 1, 1, 1, 1, 1, 1, 0, 1, 0, 0, 1, 0, 0, 1, 1, 0, 1, 0, 0, 1, 1, 1]), .inv (Jr R (impl_arrivals_at1fn83_L3_S a0 a1 a4 v1 v3 s13 s14) (Mk (impl_arrivals_at1fn83_L3 a0 a1 v1 v3 s13) (impl_arrivals_at1fn83_L3_k s14) c2) (m3 + 1)), .blk 4, .code (cAt Try.f61 [1, 1, 1, 1, 1, 1, 1, 0, 1, 0, 0, 1, 0, 0, 1, 1, 1]), .blk 3, .code (cAt Try.f61 [1, 1, 1, 1, 1, 1, 1, 0, 1, 0, 0, 1, 1]), .inv (Jr R (impl_arrivals_at1fn83_L2_S a0 a1 a4 v1 v3) (Mk (impl_arrivals_at1fn83_L2 a0 a1 a4 v1 v3) (impl_arrivals_at1fn83_L2_k) r) (m2 + 1)), .blk 2, .code (cAt Try.f61 [1, 1, 1, 1, 1, 1, 1, 1])] (impl_arrivals_at1fn83_x16 a0 a1 a4 v1 v3 s13 s14 s19 s20 s21 v30 v39) := by
                  intro _ hM
                  unfold impl_arrivals_at1fn83_j1 at hM
                  rcases cond_cases hM with ⟨h41, hM⟩ | ⟨h41, hM⟩
                  · obtain ⟨v42, h43, hM⟩ := bind_some hM
                    rcases cond_cases hM with ⟨h44, hM⟩ | ⟨h44, hM⟩
                    · obtain ⟨v45, h46, hM⟩ := bind_some hM
                      obtain ⟨v47, h48, hM⟩ := bind_some hM
                      have hE : some (Ctl.next (List.set s19 (Int.toNat v30) v45, true, w64 (s21 + 1))) = some c3 := hM
                      have hE := Option.some.inj hE
                      subst hE
                      exact pc R 9999 [.as 97 true, .ix (encI v42), .as 103 true, .call false [] (.o (.c (.v (.int .i64 v45)))) [] [], .ix (encI v47), .nm ((List.set s19 (Int.toNat v30) v45).map encI)] [.keep [1, 4, 5, 11, 12, 13, 14, 15, 16, 61, 62, 63] [901, 0, 1, 2, 4]] (And.intro h41 (And.intro (gi_lt encI h43) (And.intro ((gi_map encI h43).2) (And.intro h44 (And.intro (impl_ends_ok a0 v39.1 v45 h46) (And.intro (gi_lt encI h48) (And.intro (And.intro (gi_map encI h48).2 (set_map encI s19 (Int.toNat v30) v45)) True.intro))))))) (by kernel_rfl) (li (Sf := impl_arrivals_at1fn83_L3_S a0 a1 a4 v1 v3 s13 s14) (M := Mk (impl_arrivals_at1fn83_L3 a0 a1 v1 v3 s13) (impl_arrivals_at1fn83_L3_k s14) c2) (k := [.blk 4, .code (cAt Try.f61 [1, 1, 1, 1, 1, 1, 1, 0, 1, 0, 0, 1, 0, 0, 1, 1, 1]), .blk 3, .code (cAt Try.f61 [1, 1, 1, 1, 1, 1, 1, 0, 1, 0, 0, 1, 1]), .inv (Jr R (impl_arrivals_at1fn83_L2_S a0 a1 a4 v1 v3) (Mk (impl_arrivals_at1fn83_L2 a0 a1 a4 v1 v3) (impl_arrivals_at1fn83_L2_k) r) (m2 + 1)), .blk 2, .code (cAt Try.f61 [1, 1, 1, 1, 1, 1, 1, 1])]) (Nat.lt_succ_self m3) hK3)
                    · obtain ⟨v49, h50, hM⟩ := bind_some hM
                      obtain ⟨v51, h52, hM⟩ := bind_some hM
                      rcases cond_cases hM with ⟨h53, hM⟩ | ⟨h53, hM⟩
                      · obtain ⟨v54, h55, hM⟩ := bind_some hM
                        obtain ⟨v56, h57, hM⟩ := bind_some hM
                        have hE : some (Ctl.next (List.set s19 (Int.toNat v30) v54, true, w64 (s21 + 1))) = some c3 := hM
                        have hE := Option.some.inj hE
                        subst hE
                        exact pc R 9999 [.as 97 true, .ix (encI v42), .as 103 false, .call false [] (.o (.c (.v (.int .i64 v49)))) [] [], .ix (encI v51), .as 113 true, .call false [] (.o (.c (.v (.int .i64 v54)))) [] [], .ix (encI v56), .nm ((List.set s19 (Int.toNat v30) v54).map encI)] [.keep [1, 4, 5, 11, 12, 13, 14, 15, 16, 61, 62, 63] [901, 0, 1, 2, 4]] (And.intro h41 (And.intro (gi_lt encI h43) (And.intro ((gi_map encI h43).2) (And.intro h44 (And.intro (impl_ends_ok a0 v39.1 v49 h50) (And.intro (gi_lt encI h52) (And.intro ((gi_map encI h52).2) (And.intro h53 (And.intro (impl_ends_ok a0 v39.1 v54 h55) (And.intro (gi_lt encI h57) (And.intro (And.intro (gi_map encI h57).2 (set_map encI s19 (Int.toNat v30) v54)) True.intro))))))))))) (by kernel_rfl) (li (Sf := impl_arrivals_at1fn83_L3_S a0 a1 a4 v1 v3 s13 s14) (M := Mk (impl_arrivals_at1fn83_L3 a0 a1 v1 v3 s13) (impl_arrivals_at1fn83_L3_k s14) c2) (k := [.blk 4, .code (cAt Try.f61 [1, 1, 1, 1, 1, 1, 1, 0, 1, 0, 0, 1, 0, 0, 1, 1, 1]), .blk 3, .code (cAt Try.f61 [1, 1, 1, 1, 1, 1, 1, 0, 1, 0, 0, 1, 1]), .inv (Jr R (impl_arrivals_at1fn83_L2_S a0 a1 a4 v1 v3) (Mk (impl_arrivals_at1fn83_L2 a0 a1 a4 v1 v3) (impl_arrivals_at1fn83_L2_k) r) (m2 + 1)), .blk 2, .code (cAt Try.f61 [1, 1, 1, 1, 1, 1, 1, 1])]) (Nat.lt_succ_self m3) hK3)
                      · have hE : some (Ctl.next (s19, s20, w64 (s21 + 1))) = some c3 := hM
                        have hE := Option.some.inj hE
                        subst hE
                        exact pc R 9999 [.as 97 true, .ix (encI v42), .as 103 false, .call false [] (.o (.c (.v (.int .i64 v49)))) [] [], .ix (encI v51), .as 113 false] [.keep [1, 4, 5, 11, 12, 13, 14, 15, 16, 61, 62, 63] [901, 0, 1, 2, 4]] (And.intro h41 (And.intro (gi_lt encI h43) (And.intro ((gi_map encI h43).2) (And.intro h44 (And.intro (impl_ends_ok a0 v39.1 v49 h50) (And.intro (gi_lt encI h52) (And.intro ((gi_map encI h52).2) (And.intro h53 True.intro)))))))) (by kernel_rfl) (li (Sf := impl_arrivals_at1fn83_L3_S a0 a1 a4 v1 v3 s13 s14) (M := Mk (impl_arrivals_at1fn83_L3 a0 a1 v1 v3 s13) (impl_arrivals_at1fn83_L3_k s14) c2) (k := [.blk 4, .code (cAt Try.f61 [1, 1, 1, 1, 1, 1, 1, 0, 1, 0, 0, 1, 0, 0, 1, 1, 1]), .blk 3, .code (cAt Try.f61 [1, 1, 1, 1, 1, 1, 1, 0, 1, 0, 0, 1, 1]), .inv (Jr R (impl_arrivals_at1fn83_L2_S a0 a1 a4 v1 v3) (Mk (impl_arrivals_at1fn83_L2 a0 a1 a4 v1 v3) (impl_arrivals_at1fn83_L2_k) r) (m2 + 1)), .blk 2, .code (cAt Try.f61 [1, 1, 1, 1, 1, 1, 1, 1])]) (Nat.lt_succ_self m3) hK3)
                  · have hE : some (Ctl.next (s19, s20, w64 (s21 + 1))) = some c3 := hM
                    have hE := Option.some.inj hE
                    subst hE
                    exact pc R 9999 [.as 97 false] [.keep [1, 4, 5, 11, 12, 13, 14, 15, 16, 61, 62, 63] [901, 0, 1, 2, 4]] (And.intro h41 True.intro) (by kernel_rfl) (li (Sf := impl_arrivals_at1fn83_L3_S a0 a1 a4 v1 v3 s13 s14) (M := Mk (impl_arrivals_at1fn83_L3 a0 a1 v1 v3 s13) (impl_arrivals_at1fn83_L3_k s14) c2) (k := [.blk 4, .code (cAt Try.f61 [1, 1, 1, 1, 1, 1, 1, 0, 1, 0, 0, 1, 0, 0, 1, 1, 1]), .blk 3, .code (cAt Try.f61 [1, 1, 1, 1, 1, 1, 1, 0, 1, 0, 0, 1, 1]), .inv (Jr R (impl_arrivals_at1fn83_L2_S a0 a1 a4 v1 v3) (Mk (impl_arrivals_at1fn83_L2 a0 a1 a4 v1 v3) (impl_arrivals_at1fn83_L2_k) r) (m2 + 1)), .blk 2, .code (cAt Try.f61 [1, 1, 1, 1, 1, 1, 1, 1])]) (Nat.lt_succ_self m3) hK3)
                exact pc R 20 [.as 64 true, .ix (Leg.enc v26), .new 5, .call false [] (.o (.c (.v (.int .i64 v28)))) [] [], .call false [] (.o (.c (.v (.int .i64 v30)))) [] [], .ix (encI v32), .as 80 false, .xg (impl_arrivals_at1fn83_o16 a1 v35 v37 v39) [.keep [1, 4, 5, 11, 12, 13, 14, 15, 16, 17, 19, 20, 61, 62, 63] [901, 0, 1, 2, 4]] [.keep [1, 4, 5, 11, 12, 13, 14, 15, 16, 20, 21, 22, 61, 62, 63] [901, 0, 1, 2, 4, 6]] (impl_arrivals_at1fn83_x16 a0 a1 a4 v1 v3 s13 s14 s19 s20 s21 v30 v39) [[0, 1, 3, 4, 5, 7, 8, 9], [0, 1, 2, 3, 4, 5, 7, 8, 9], [0, 1, 3, 4, 5, 6, 7, 8, 9], [0, 1, 3, 4, 5, 7, 8, 9, 15], [0, 1, 2, 3, 4, 5, 6, 7, 8, 9], [0, 1, 2, 3, 4, 5, 7, 8, 9, 15], [0, 1, 3, 4, 5, 6, 7, 8, 9, 15], [0, 1, 2, 3, 4, 5, 6, 7, 8, 9, 10], [0, 1, 2, 3, 4, 5, 6, 7, 8, 9, 15], [0, 1, 2, 3, 4, 5, 6, 7, 8, 9, 10, 11, 12, 13, 14], [0, 1, 2, 3, 4, 5, 6, 7, 8, 9, 10, 15], [0, 1, 2, 3, 4, 5, 6, 7, 8, 9, 10, 11, 12, 13, 14, 15]]] [] (And.intro h25 (And.intro (gi_map Leg.enc h27) (And.intro (impl_placeAt_ok v1 v26.From v28 h29) (And.intro (impl_placeAt_ok v1 v26.To v30 h31) (And.intro (gi_lt encI h33) (And.intro ((gi_map encI h33).2) (And.intro h34 (And.intro (gi_lt encI h36) (And.intro (impl_arrivals_at1fn83_y16 a0 a1 a4 v1 v3 s13 s14 s19 s20 s21 v28 v30 v35 v37 v39 [0, 1, 3, 4, 5, 7, 8, 9]) (And.intro (impl_arrivals_at1fn83_y16 a0 a1 a4 v1 v3 s13 s14 s19 s20 s21 v28 v30 v35 v37 v39 [0, 1, 2, 3, 4, 5, 7, 8, 9]) (And.intro ((gi_map encI h36).2) (And.intro (impl_arrivals_at1fn83_y16 a0 a1 a4 v1 v3 s13 s14 s19 s20 s21 v28 v30 v35 v37 v39 [0, 1, 3, 4, 5, 6, 7, 8, 9]) (And.intro (impl_arrivals_at1fn83_y16 a0 a1 a4 v1 v3 s13 s14 s19 s20 s21 v28 v30 v35 v37 v39 [0, 1, 3, 4, 5, 7, 8, 9, 15]) (And.intro ((gi_map encI h36).2) (And.intro (impl_arrivals_at1fn83_y16 a0 a1 a4 v1 v3 s13 s14 s19 s20 s21 v28 v30 v35 v37 v39 [0, 1, 2, 3, 4, 5, 6, 7, 8, 9]) (And.intro (impl_arrivals_at1fn83_y16 a0 a1 a4 v1 v3 s13 s14 s19 s20 s21 v28 v30 v35 v37 v39 [0, 1, 2, 3, 4, 5, 7, 8, 9, 15]) (And.intro (impl_arrivals_at1fn83_y16 a0 a1 a4 v1 v3 s13 s14 s19 s20 s21 v28 v30 v35 v37 v39 [0, 1, 2, 3, 4, 5, 6, 7, 8, 9]) (And.intro (impl_arrivals_at1fn83_y16 a0 a1 a4 v1 v3 s13 s14 s19 s20 s21 v28 v30 v35 v37 v39 [0, 1, 3, 4, 5, 6, 7, 8, 9, 15]) (And.intro (impl_arrivals_at1fn83_y16 a0 a1 a4 v1 v3 s13 s14 s19 s20 s21 v28 v30 v35 v37 v39 [0, 1, 2, 3, 4, 5, 7, 8, 9, 15]) (And.intro ((gi_map encI h36).2) (And.intro (impl_arrivals_at1fn83_y16 a0 a1 a4 v1 v3 s13 s14 s19 s20 s21 v28 v30 v35 v37 v39 [0, 1, 3, 4, 5, 6, 7, 8, 9, 15]) (And.intro (impl_readyAt_ok a0 v35 (v28 == v3) v37 h38) (And.intro (impl_arrivals_at1fn83_y16 a0 a1 a4 v1 v3 s13 s14 s19 s20 s21 v28 v30 v35 v37 v39 [0, 1, 2, 3, 4, 5, 6, 7, 8, 9, 10]) (And.intro (impl_arrivals_at1fn83_y16 a0 a1 a4 v1 v3 s13 s14 s19 s20 s21 v28 v30 v35 v37 v39 [0, 1, 2, 3, 4, 5, 6, 7, 8, 9, 15]) (And.intro ((gi_map encI h36).2) (And.intro (impl_arrivals_at1fn83_y16 a0 a1 a4 v1 v3 s13 s14 s19 s20 s21 v28 v30 v35 v37 v39 [0, 1, 2, 3, 4, 5, 6, 7, 8, 9, 15]) (And.intro (impl_arrivals_at1fn83_y16 a0 a1 a4 v1 v3 s13 s14 s19 s20 s21 v28 v30 v35 v37 v39 [0, 1, 2, 3, 4, 5, 6, 7, 8, 9, 15]) (And.intro (And.intro (con_sw 902 901 (impl_nextOf_c1_ok s21 v37 a1 v39 h40)) (rfl : ([901] : List Nat) = [901])) (And.intro (impl_arrivals_at1fn83_y16 a0 a1 a4 v1 v3 s13 s14 s19 s20 s21 v28 v30 v35 v37 v39 [0, 1, 2, 3, 4, 5, 6, 7, 8, 9, 10, 11, 12, 13, 14]) (And.intro (impl_arrivals_at1fn83_y16 a0 a1 a4 v1 v3 s13 s14 s19 s20 s21 v28 v30 v35 v37 v39 [0, 1, 2, 3, 4, 5, 6, 7, 8, 9, 10, 15]) (And.intro (impl_readyAt_ok a0 v35 (v28 == v3) v37 h38) (And.intro (impl_arrivals_at1fn83_y16 a0 a1 a4 v1 v3 s13 s14 s19 s20 s21 v28 v30 v35 v37 v39 [0, 1, 2, 3, 4, 5, 6, 7, 8, 9, 10, 15]) (And.intro (impl_arrivals_at1fn83_y16 a0 a1 a4 v1 v3 s13 s14 s19 s20 s21 v28 v30 v35 v37 v39 [0, 1, 2, 3, 4, 5, 6, 7, 8, 9, 10, 11, 12, 13, 14, 15]) (And.intro (And.intro (con_sw 902 901 (impl_nextOf_c1_ok s21 v37 a1 v39 h40)) (rfl : ([901] : List Nat) = [901])) (And.intro (impl_arrivals_at1fn83_y16 a0 a1 a4 v1 v3 s13 s14 s19 s20 s21 v28 v30 v35 v37 v39 [0, 1, 2, 3, 4, 5, 6, 7, 8, 9, 10, 11, 12, 13, 14, 15]) (And.intro (rfl : (impl_arrivals_at1fn83_x16 a0 a1 a4 v1 v3 s13 s14 s19 s20 s21 v30 v39) = (impl_arrivals_at1fn83_x16 a0 a1 a4 v1 v3 s13 s14 s19 s20 s21 v30 v39)) True.intro)))))))))))))))))))))))))))))))))))) (by kernel_rfl) (J1 () hM)
            · have hE : some (Ctl.brk (s19, s20)) = some c3 := hM
              have hE := Option.some.inj hE
              subst hE
              exact pc R 5 [.as 64 false] [.keep [1, 4, 5, 11, 12, 14, 15, 16] [901, 0, 1, 4]] (And.intro h25 True.intro) (by kernel_rfl) (K3 s19 s20 hK3)
          · have hE : some (Ctl.brk s13) = some c2 := hM
            have hE := Option.some.inj hE
            subst hE
            exact pc R 5 [.as 54 false] [.sw 2 4, .keep [1, 13] [901, 4]] (And.intro h16 True.intro) (by kernel_rfl) (K2 s13 hK2)
        refine pc R 9999 [.new 0, .call false [] (.o (.c (.sl 1))) [] [(1, .row 9 1 (v1.map encS))], .call false [] (.o (.c (.v (.int .i64 v3)))) [] [], .as 30 false, .as 34 false, .as 37 false, .new 2, .ln (v1.length)] [.keep [1, 3, 4, 5, 11, 12, 13, 40, 41] [901, 0, 1, 2]] (k' := [.code (.loop (cAt Try.f61 [1, 1, 1, 1, 1, 0, 1, 0, 0])), .blk 0, .code (cAt Try.f61 [1, 1, 1, 1, 1, 1])]) (S' := impl_arrivals_at1fn83_L1_S a0 a1 a3 a4 v1 v3 (([] : List Int), 0)) (And.intro (And.intro (con_sw 1000 1 (impl_PlacesOf_ok a0 v1 h2)) (rfl : ([] : List Nat) = [])) (And.intro (impl_placeAt_ok v1 a2 v3 h4) (And.intro h5 (And.intro h6 (And.intro h7 (And.intro (lenm encS v1) True.intro)))))) (by kernel_rfl) ?_
        refine lq (impl_arrivals_at1fn83_L1_S a0 a1 a3 a4 v1 v3) (body := impl_arrivals_at1fn83_L1 v1) (k := impl_arrivals_at1fn83_L1_k a0 a1 a3 a4 v1 v3) hM fun m1 s c1 hM hK1 => ?_
        obtain ⟨s8, s9⟩ := s
        have hM : impl_arrivals_at1fn83_L1_b v1 s8 s9 = some c1 := hM
        unfold impl_arrivals_at1fn83_L1_b at hM
        rcases cond_cases hM with ⟨h58, hM⟩ | ⟨h58, hM⟩
        · obtain ⟨v59, h60, hM⟩ := bind_some hM
          have hE : some (Ctl.next (v59, w64 (s9 + 1))) = some c1 := hM
          have hE := Option.some.inj hE
          subst hE
          exact pc R 9999 [.as 42 true, .new 7, .new 8, .nm (v59.map encI)] [.sw 8 2, .keep [1, 3, 4, 5, 11, 12, 13, 40, 41] [901, 0, 1, 2]] (And.intro h58 (And.intro (ap_ok encI h60) True.intro)) (by kernel_rfl) (li (Sf := impl_arrivals_at1fn83_L1_S a0 a1 a3 a4 v1 v3) (M := Mk (impl_arrivals_at1fn83_L1 v1) (impl_arrivals_at1fn83_L1_k a0 a1 a3 a4 v1 v3) r) (k := [.blk 0, .code (cAt Try.f61 [1, 1, 1, 1, 1, 1])]) (Nat.lt_succ_self m1) hK1)
        · have hE : some (Ctl.brk s8) = some c1 := hM
          have hE := Option.some.inj hE
          subst hE
          exact pc R 5 [.as 42 false] [.keep [1, 3, 4, 5, 11, 12, 13] [901, 0, 1, 2]] (And.intro h58 True.intro) (by kernel_rfl) (K1 s8 hK1)
end Go.Sx
