/- The functions of the program as plain Lean, and that each runs so (printed by wip/gen). -/
import Derived.Test.YtgfliphofffcaaaSxU
import Derived.Laws.StructEq
import Derived.Test.YtgfliphofffcaaaProg
namespace Go.Sx
open Go.Proofs
set_option linter.unusedVariables false
end Go.Sx
namespace Go.Proofs
open Go.Shelf
def Try.lays192_ren : Go.Shelf.Ren := ⟨fun | 192 => 110 | 190 => 127 | 125 => 141 | 258 => 140 | 128 => 152 | 129 => 153 | 302 => 143 | 303 => 144 | 304 => 145 | 305 => 146 | 306 => 147 | 307 => 148 | 308 => 149 | 309 => 150 | 310 => 151 | 333 => 155 | 329 => 156 | 330 => 157 | 334 => 158 | 335 => 159 | 336 => 160 | 344 => 161 | n => n, fun | 31 => 62 | 0 => 0 | 9 => 9 | 3 => 3 | 46 => 150 | 51 => 161 | 53 => 163 | 4 => 4 | 183 => 153 | 182 => 152 | 131 => 158 | 5 => 5 | 218 => 164 | 222 => 168 | 228 => 170 | 229 => 171 | n => n, fun | n => n⟩
theorem Try.lays192 : Go.Proofs.Lays.n192 Try.prog Try.lays192_ren := {
  mixed := by kernel_rfl
  f125 := Try.func141.trans (congrArg some (by kernel_rfl))
  f128 := Try.func152.trans (congrArg some (by kernel_rfl))
  f129 := Try.func153.trans (congrArg some (by kernel_rfl))
  f190 := Try.func127.trans (congrArg some (by kernel_rfl))
  f192 := Try.func110.trans (congrArg some (by kernel_rfl))
  f258 := Try.func140.trans (congrArg some (by kernel_rfl))
  f302 := Try.func143.trans (congrArg some (by kernel_rfl))
  f303 := Try.func144.trans (congrArg some (by kernel_rfl))
  f304 := Try.func145.trans (congrArg some (by kernel_rfl))
  f305 := Try.func146.trans (congrArg some (by kernel_rfl))
  f306 := Try.func147.trans (congrArg some (by kernel_rfl))
  f307 := Try.func148.trans (congrArg some (by kernel_rfl))
  f308 := Try.func149.trans (congrArg some (by kernel_rfl))
  f309 := Try.func150.trans (congrArg some (by kernel_rfl))
  f310 := Try.func151.trans (congrArg some (by kernel_rfl))
  f329 := Try.func156.trans (congrArg some (by kernel_rfl))
  f330 := Try.func157.trans (congrArg some (by kernel_rfl))
  f333 := Try.func155.trans (congrArg some (by kernel_rfl))
  f334 := Try.func158.trans (congrArg some (by kernel_rfl))
  f335 := Try.func159.trans (congrArg some (by kernel_rfl))
  f336 := Try.func160.trans (congrArg some (by kernel_rfl))
  f344 := Try.func161.trans (congrArg some (by kernel_rfl))
  t0 := Try.underlying0
  a0 := Try.isAgg0
  z0 := Try.sizeOf0
  v0 := Try.zeroValue0
  t3 := Try.underlying3
  a3 := Try.isAgg3
  z3 := Try.sizeOf3
  v3 := Try.zeroValue3
  t4 := Try.underlying4
  a4 := Try.isAgg4
  z4 := Try.sizeOf4
  v4 := Try.zeroValue4
  t5 := Try.underlying5
  a5 := Try.isAgg5
  z5 := Try.sizeOf5
  v5 := Try.zeroValue5
  t9 := Try.underlying9
  a9 := Try.isAgg9
  z9 := Try.sizeOf9
  v9 := Try.zeroValue9
  t31 := Try.underlying62
  a31 := Try.isAgg62
  z31 := Try.sizeOf62
  v31 := Try.zeroValue62
  t46 := Try.underlying150
  a46 := Try.isAgg150
  z46 := Try.sizeOf150
  v46 := Try.zeroValue150
  t51 := Try.underlying161
  a51 := Try.isAgg161
  z51 := Try.sizeOf161
  v51 := Try.zeroValue161
  t53 := Try.underlying163
  a53 := Try.isAgg163
  z53 := Try.sizeOf163
  v53 := Try.zeroValue163
  t131 := Try.underlying158
  a131 := Try.isAgg158
  z131 := Try.sizeOf158
  v131 := Try.zeroValue158
  t182 := Try.underlying152
  a182 := Try.isAgg152
  z182 := Try.sizeOf152
  v182 := Try.zeroValue152
  t183 := Try.underlying153
  a183 := Try.isAgg153
  z183 := Try.sizeOf153
  v183 := Try.zeroValue153
  t218 := Try.underlying164
  a218 := Try.isAgg164
  z218 := Try.sizeOf164
  v218 := Try.zeroValue164
  t222 := Try.underlying168
  a222 := Try.isAgg168
  z222 := Try.sizeOf168
  v222 := Try.zeroValue168
  t228 := Try.underlying170
  a228 := Try.isAgg170
  z228 := Try.sizeOf170
  v228 := Try.zeroValue170
  t229 := Try.underlying171
  a229 := Try.isAgg171
  z229 := Try.sizeOf171
  v229 := Try.zeroValue171 }
end Go.Proofs
namespace Go.Sx
open Go.Proofs
set_option linter.unusedVariables false
theorem Try_mixed : Try.prog.follows .mixedOrders = true := by kernel_rfl
structure Leg where
  From : ByteArray
  To : ByteArray
  Start : Int
  Takes : Int
  Days : Int
  Room : Int
  deriving DecidableEq, Inhabited
def Leg.enc (x : Leg) : List Value := [.string x.From, .string x.To, .int .i64 x.Start, .int .i64 x.Takes, .int .i64 x.Days, .int .i64 x.Room]
structure Network where
  Legs : (List Leg)
  Off : (List Int)
  Change : Int
  deriving DecidableEq, Inhabited
structure Trip where
  Leg : Int
  Day : Int
  deriving DecidableEq, Inhabited
def Trip.enc (x : Trip) : List Value := [.int .i64 x.Leg, .int .i64 x.Day]
structure Booking where
  Thing : Int
  Trip : Trip
  Weight : Int
  deriving DecidableEq, Inhabited
def Booking.enc (x : Booking) : List Value := [.int .i64 x.Thing, .int .i64 x.Trip.Leg, .int .i64 x.Trip.Day, .int .i64 x.Weight]
structure Choice where
  Legs : Int
  Ends : Int
  deriving DecidableEq, Inhabited
def Choice.enc (x : Choice) : List Value := [.int .i64 x.Legs, .int .i64 x.Ends]


-- loop.example/g03014/laws.szLeg
def laws_szLeg (a0 : Leg) (a1 : Int) : Option Int :=
  bif (decide ((w64 (a1 - (a0.From.size : Int))) < 0)) then
  some (-1)
  else
  bif (decide ((w64 ((w64 (a1 - (a0.From.size : Int))) - (a0.To.size : Int))) < 0)) then
  some (-1)
  else
  some (w64 ((w64 (a1 - (a0.From.size : Int))) - (a0.To.size : Int)))
theorem laws_szLeg_ok (a0 : Leg) (a1 : Int) (r : Int) (hM : laws_szLeg a0 a1 = some r) :
    Con Try.prog 99 [.c (.v (.agg (Leg.enc a0).toArray)), .c (.v (.int .i64 a1))] [] (.o (.c (.v (.int .i64 r)))) [] [] := by
  unfold laws_szLeg at hM
  refine cn (N := 20) (pids := []) Try_mixed Try.func99 (by kernel_rfl) (by kernel_rfl) (by kernel_rfl) rfl fun ρ g w R => ?_
  rcases cond_cases hM with ⟨h1, hM⟩ | ⟨h1, hM⟩
  · have hE : some (-1) = some r := hM
    have hE := Option.some.inj hE
    subst hE
    exact pr R 9999 [.new 0, .as 11 true] [] [] [] (And.intro h1 True.intro) (by kernel_rfl)
  · rcases cond_cases hM with ⟨h2, hM⟩ | ⟨h2, hM⟩
    · have hE : some (-1) = some r := hM
      have hE := Option.some.inj hE
      subst hE
      exact pr R 9999 [.new 0, .as 11 false, .as 18 true] [] [] [] (And.intro h1 (And.intro h2 True.intro)) (by kernel_rfl)
    · have hE : some (w64 ((w64 (a1 - (a0.From.size : Int))) - (a0.To.size : Int))) = some r := hM
      have hE := Option.some.inj hE
      subst hE
      exact pr R 9999 [.new 0, .as 11 false, .as 18 false] [] [] [] (And.intro h1 (And.intro h2 True.intro)) (by kernel_rfl)

-- loop.example/g03014/laws.szLegS
def laws_szLegS_L1_b (a0 : (List Leg)) (s2 : Int) (s3 : Int) : Option (Ctl (Int × Int) Int Int) :=
  bif (decide (s3 < (a0.length : Int))) then
  (gi a0 s3).bind fun v6 =>
  (laws_szLeg v6 s2).bind fun v8 =>
  bif (decide (v8 < 0)) then
  some (.ret (-1))
  else
  some (.next (v8, w64 (s3 + 1)))
  else
  some (.brk s2)
def laws_szLegS_L1 (a0 : (List Leg)) (s : Int × Int) : Option (Ctl (Int × Int) Int Int) := laws_szLegS_L1_b a0 s.1 s.2
def laws_szLegS_L1_s (a0 : (List Leg)) (s2 : Int) (s3 : Int) : St := ⟨[(0, .o (.c (.rs 6 (a0.map Leg.enc)))), (1, .o (.c (.v (.int .i64 s2)))), (5, .o (.c (.v (.int .i64 s3))))], []⟩
def laws_szLegS_L1_S (a0 : (List Leg)) (s : Int × Int) : St := laws_szLegS_L1_s a0 s.1 s.2
def laws_szLegS_L1_a (s4 : Int) : Option Int :=
  some s4
def laws_szLegS_L1_k (x : (Int) ⊕ (Int)) : Option Int := match x with
  | .inl t => laws_szLegS_L1_a t
  | .inr y => some y
def laws_szLegS (a0 : (List Leg)) (a1 : Int) : Option Int :=
  bif (decide ((w64 (a1 - (a0.length : Int))) < 0)) then
  some (-1)
  else
  (loopM (laws_szLegS_L1 a0) big (w64 (a1 - (a0.length : Int)), 0)).bind (laws_szLegS_L1_k)
theorem laws_szLegS_ok (a0 : (List Leg)) (a1 : Int) (r : Int) (hM : laws_szLegS a0 a1 = some r) :
    Con Try.prog 56 [.c (.rs 6 (a0.map Leg.enc)), .c (.v (.int .i64 a1))] [] (.o (.c (.v (.int .i64 r)))) [] [] := by
  unfold laws_szLegS at hM
  refine cn (N := 27) (pids := []) Try_mixed Try.func56 (by kernel_rfl) (by kernel_rfl) (by kernel_rfl) rfl fun ρ g w R => ?_
  rcases cond_cases hM with ⟨h1, hM⟩ | ⟨h1, hM⟩
  · have hE : some (-1) = some r := hM
    have hE := Option.some.inj hE
    subst hE
    exact pr R 9999 [.ln (a0.length), .as 11 true] [] [] [] (And.intro (lenm Leg.enc a0) (And.intro h1 True.intro)) (by kernel_rfl)
  · have K1 : ∀ (s4 : Int), laws_szLegS_L1_a s4 = some r → Gr R [.code (cAt Try.f56 [1, 1, 1, 1])] (⟨[(1, .o (.c (.v (.int .i64 s4))))], []⟩) := by
      intro s4 hM
      unfold laws_szLegS_L1_a at hM
      have hE : some s4 = some r := hM
      have hE := Option.some.inj hE
      subst hE
      exact pr R 9999 [] [] [] [] True.intro (by kernel_rfl)
    refine pc R 9999 [.ln (a0.length), .as 11 false] [.keep [0, 1, 5] []] (k' := [.code (.loop (cAt Try.f56 [1, 1, 1, 0, 1, 0, 0])), .blk 0, .code (cAt Try.f56 [1, 1, 1, 1])]) (S' := laws_szLegS_L1_S a0 (w64 (a1 - (a0.length : Int)), 0)) (And.intro (lenm Leg.enc a0) (And.intro h1 True.intro)) (by kernel_rfl) ?_
    refine lq (laws_szLegS_L1_S a0) (body := laws_szLegS_L1 a0) (k := laws_szLegS_L1_k) hM fun m1 s c1 hM hK1 => ?_
    obtain ⟨s2, s3⟩ := s
    have hM : laws_szLegS_L1_b a0 s2 s3 = some c1 := hM
    unfold laws_szLegS_L1_b at hM
    rcases cond_cases hM with ⟨h5, hM⟩ | ⟨h5, hM⟩
    · obtain ⟨v6, h7, hM⟩ := bind_some hM
      obtain ⟨v8, h9, hM⟩ := bind_some hM
      rcases cond_cases hM with ⟨h10, hM⟩ | ⟨h10, hM⟩
      · have hE : some (Ctl.ret (-1)) = some c1 := hM
        have hE := Option.some.inj hE
        subst hE
        have hE : some (-1) = some r := hK1
        have hE := Option.some.inj hE
        subst hE
        exact pr R 9999 [.ln (a0.length), .as 15 true, .ix (Leg.enc v6), .call false [] (.o (.c (.v (.int .i64 v8)))) [] [], .as 25 true] [] [] [] (And.intro (lenm Leg.enc a0) (And.intro h5 (And.intro (gi_map Leg.enc h7) (And.intro (laws_szLeg_ok v6 s2 v8 h9) (And.intro h10 True.intro))))) (by kernel_rfl)
      · have hE : some (Ctl.next (v8, w64 (s3 + 1))) = some c1 := hM
        have hE := Option.some.inj hE
        subst hE
        exact pc R 9999 [.ln (a0.length), .as 15 true, .ix (Leg.enc v6), .call false [] (.o (.c (.v (.int .i64 v8)))) [] [], .as 25 false] [.keep [0, 1, 5] []] (And.intro (lenm Leg.enc a0) (And.intro h5 (And.intro (gi_map Leg.enc h7) (And.intro (laws_szLeg_ok v6 s2 v8 h9) (And.intro h10 True.intro))))) (by kernel_rfl) (li (Sf := laws_szLegS_L1_S a0) (M := Mk (laws_szLegS_L1 a0) (laws_szLegS_L1_k) r) (k := [.blk 0, .code (cAt Try.f56 [1, 1, 1, 1])]) (Nat.lt_succ_self m1) hK1)
    · have hE : some (Ctl.brk s2) = some c1 := hM
      have hE := Option.some.inj hE
      subst hE
      exact pc R 5 [.ln (a0.length), .as 15 false] [.keep [1] []] (And.intro (lenm Leg.enc a0) (And.intro h5 True.intro)) (by kernel_rfl) (K1 s2 hK1)

-- loop.example/g03014/laws.szIntS
def laws_szIntS (a0 : (List Int)) (a1 : Int) : Option Int :=
  bif (decide ((w64 (a1 - (a0.length : Int))) < 0)) then
  some (-1)
  else
  some (w64 (a1 - (a0.length : Int)))
theorem laws_szIntS_ok (a0 : (List Int)) (a1 : Int) (r : Int) (hM : laws_szIntS a0 a1 = some r) :
    Con Try.prog 57 [.c (.rs 1 (a0.map encI)), .c (.v (.int .i64 a1))] [] (.o (.c (.v (.int .i64 r)))) [] [] := by
  unfold laws_szIntS at hM
  refine cn (N := 12) (pids := []) Try_mixed Try.func57 (by kernel_rfl) (by kernel_rfl) (by kernel_rfl) rfl fun ρ g w R => ?_
  rcases cond_cases hM with ⟨h1, hM⟩ | ⟨h1, hM⟩
  · have hE : some (-1) = some r := hM
    have hE := Option.some.inj hE
    subst hE
    exact pr R 9999 [.ln (a0.length), .as 10 true] [] [] [] (And.intro (lenm encI a0) (And.intro h1 True.intro)) (by kernel_rfl)
  · have hE : some (w64 (a1 - (a0.length : Int))) = some r := hM
    have hE := Option.some.inj hE
    subst hE
    exact pr R 9999 [.ln (a0.length), .as 10 false] [] [] [] (And.intro (lenm encI a0) (And.intro h1 True.intro)) (by kernel_rfl)

-- loop.example/g03014/laws.szNetwork
def laws_szNetwork (a0 : Network) (a1 : Int) : Option Int :=
  (laws_szLegS a0.Legs a1).bind fun v1 =>
  bif (decide (v1 < 0)) then
  some (-1)
  else
  (laws_szIntS a0.Off v1).bind fun v4 =>
  bif (decide (v4 < 0)) then
  some (-1)
  else
  some v4
theorem laws_szNetwork_ok (a0 : Network) (a1 : Int) (r : Int) (hM : laws_szNetwork a0 a1 = some r) :
    Con Try.prog 13 [.agg [.rs 6 (a0.Legs.map Leg.enc), .rs 1 (a0.Off.map encI), .v (.int .i64 a0.Change)], .c (.v (.int .i64 a1))] [] (.o (.c (.v (.int .i64 r)))) [] [] := by
  unfold laws_szNetwork at hM
  refine cn (N := 18) (pids := []) Try_mixed Try.func13 (by kernel_rfl) (by kernel_rfl) (by kernel_rfl) rfl fun ρ g w R => ?_
  obtain ⟨v1, h2, hM⟩ := bind_some hM
  rcases cond_cases hM with ⟨h3, hM⟩ | ⟨h3, hM⟩
  · have hE : some (-1) = some r := hM
    have hE := Option.some.inj hE
    subst hE
    exact pr R 9999 [.new 0, .call false [] (.o (.c (.v (.int .i64 v1)))) [] [], .as 10 true] [] [] [] (And.intro (laws_szLegS_ok a0.Legs a1 v1 h2) (And.intro h3 True.intro)) (by kernel_rfl)
  · obtain ⟨v4, h5, hM⟩ := bind_some hM
    rcases cond_cases hM with ⟨h6, hM⟩ | ⟨h6, hM⟩
    · have hE : some (-1) = some r := hM
      have hE := Option.some.inj hE
      subst hE
      exact pr R 9999 [.new 0, .call false [] (.o (.c (.v (.int .i64 v1)))) [] [], .as 10 false, .call false [] (.o (.c (.v (.int .i64 v4)))) [] [], .as 16 true] [] [] [] (And.intro (laws_szLegS_ok a0.Legs a1 v1 h2) (And.intro h3 (And.intro (laws_szIntS_ok a0.Off v1 v4 h5) (And.intro h6 True.intro)))) (by kernel_rfl)
    · have hE : some v4 = some r := hM
      have hE := Option.some.inj hE
      subst hE
      exact pr R 9999 [.new 0, .call false [] (.o (.c (.v (.int .i64 v1)))) [] [], .as 10 false, .call false [] (.o (.c (.v (.int .i64 v4)))) [] [], .as 16 false] [] [] [] (And.intro (laws_szLegS_ok a0.Legs a1 v1 h2) (And.intro h3 (And.intro (laws_szIntS_ok a0.Off v1 v4 h5) (And.intro h6 True.intro)))) (by kernel_rfl)

-- loop.example/g03014/laws.szTripS
def laws_szTripS (a0 : (List Trip)) (a1 : Int) : Option Int :=
  bif (decide ((w64 (a1 - (a0.length : Int))) < 0)) then
  some (-1)
  else
  some (w64 (a1 - (a0.length : Int)))
theorem laws_szTripS_ok (a0 : (List Trip)) (a1 : Int) (r : Int) (hM : laws_szTripS a0 a1 = some r) :
    Con Try.prog 22 [.c (.rs 2 (a0.map Trip.enc)), .c (.v (.int .i64 a1))] [] (.o (.c (.v (.int .i64 r)))) [] [] := by
  unfold laws_szTripS at hM
  refine cn (N := 12) (pids := []) Try_mixed Try.func22 (by kernel_rfl) (by kernel_rfl) (by kernel_rfl) rfl fun ρ g w R => ?_
  rcases cond_cases hM with ⟨h1, hM⟩ | ⟨h1, hM⟩
  · have hE : some (-1) = some r := hM
    have hE := Option.some.inj hE
    subst hE
    exact pr R 9999 [.ln (a0.length), .as 10 true] [] [] [] (And.intro (lenm Trip.enc a0) (And.intro h1 True.intro)) (by kernel_rfl)
  · have hE : some (w64 (a1 - (a0.length : Int))) = some r := hM
    have hE := Option.some.inj hE
    subst hE
    exact pr R 9999 [.ln (a0.length), .as 10 false] [] [] [] (And.intro (lenm Trip.enc a0) (And.intro h1 True.intro)) (by kernel_rfl)

-- loop.example/g03014/laws.toLeg
def laws_toLeg (a0 : Leg) : Option Leg :=
  some a0
theorem laws_toLeg_ok (a0 : Leg) (r : Leg) (hM : laws_toLeg a0 = some r) :
    Con Try.prog 102 [.c (.v (.agg (Leg.enc a0).toArray))] [] (.o (.c (.v (.agg (Leg.enc r).toArray)))) [] [] := by
  unfold laws_toLeg at hM
  refine cn (N := 23) (pids := []) Try_mixed Try.func102 (by kernel_rfl) (by kernel_rfl) (by kernel_rfl) rfl fun ρ g w R => ?_
  have hE : some a0 = some r := hM
  have hE := Option.some.inj hE
  subst hE
  exact pr R 9999 [.new 0, .new 1, .new 2] [] [] [] True.intro (by kernel_rfl)

-- loop.example/g03014/laws.toLegS
def laws_toLegS_L1_b (a0 : (List Leg)) (s3 : (List Leg)) (s4 : Int) : Option (Ctl ((List Leg) × Int) (List Leg) (List Leg)) :=
  bif (decide (s4 < (a0.length : Int))) then
  (gi a0 s4).bind fun v7 =>
  (laws_toLeg v7).bind fun v9 =>
  (gi s3 s4).bind fun v11 =>
  some (.next (List.set s3 (Int.toNat s4) v9, w64 (s4 + 1)))
  else
  some (.brk s3)
def laws_toLegS_L1 (a0 : (List Leg)) (s : (List Leg) × Int) : Option (Ctl ((List Leg) × Int) (List Leg) (List Leg)) := laws_toLegS_L1_b a0 s.1 s.2
def laws_toLegS_L1_s (a0 : (List Leg)) (s3 : (List Leg)) (s4 : Int) : St := ⟨[(0, .o (.c (.rs 6 (a0.map Leg.enc)))), (3, .o (.c (.sl 0))), (4, .o (.c (.v (.int .i64 s4))))], [(0, .row 77 6 (s3.map Leg.enc))]⟩
def laws_toLegS_L1_S (a0 : (List Leg)) (s : (List Leg) × Int) : St := laws_toLegS_L1_s a0 s.1 s.2
def laws_toLegS_L1_a (s5 : (List Leg)) : Option (List Leg) :=
  some s5
def laws_toLegS_L1_k (x : ((List Leg)) ⊕ ((List Leg))) : Option (List Leg) := match x with
  | .inl t => laws_toLegS_L1_a t
  | .inr y => some y
def laws_toLegS (a0 : (List Leg)) : Option (List Leg) :=
  ((mkM 64 (a0.length : Int) : Option (List Leg))).bind fun v1 =>
  (loopM (laws_toLegS_L1 a0) big (v1, 0)).bind (laws_toLegS_L1_k)
theorem laws_toLegS_ok (a0 : (List Leg)) (r : (List Leg)) (hM : laws_toLegS a0 = some r) :
    Con Try.prog 61 [.c (.rs 6 (a0.map Leg.enc))] [] (.o (.c (.sl 1000))) [] [(1000, .row 77 6 (r.map Leg.enc))] := by
  unfold laws_toLegS at hM
  refine cn (N := 23) (pids := []) Try_mixed Try.func61 (by kernel_rfl) (by kernel_rfl) (by kernel_rfl) rfl fun ρ g w R => ?_
  obtain ⟨v1, h2, hM⟩ := bind_some hM
  have K1 : ∀ (s5 : (List Leg)), laws_toLegS_L1_a s5 = some r → Gr R [.code (cAt Try.f61 [1, 1, 1])] (⟨[(3, .o (.c (.sl 0)))], [(0, .row 77 6 (s5.map Leg.enc))]⟩) := by
    intro s5 hM
    unfold laws_toLegS_L1_a at hM
    have hE : some s5 = some r := hM
    have hE := Option.some.inj hE
    subst hE
    exact pr R 9999 [] [.sw 0 1000] [] [1000] True.intro (by kernel_rfl)
  refine pc R 9999 [.ln (a0.length), .new 0, .nm (v1.map Leg.enc)] [.keep [0, 3, 4] [0]] (k' := [.code (.loop (cAt Try.f61 [1, 1, 0, 1, 0, 0])), .blk 0, .code (cAt Try.f61 [1, 1, 1])]) (S' := laws_toLegS_L1_S a0 (v1, 0)) (And.intro (lenm Leg.enc a0) (And.intro (mkM_ok Leg.enc h2) True.intro)) (by kernel_rfl) ?_
  refine lq (laws_toLegS_L1_S a0) (body := laws_toLegS_L1 a0) (k := laws_toLegS_L1_k) hM fun m1 s c1 hM hK1 => ?_
  obtain ⟨s3, s4⟩ := s
  have hM : laws_toLegS_L1_b a0 s3 s4 = some c1 := hM
  unfold laws_toLegS_L1_b at hM
  rcases cond_cases hM with ⟨h6, hM⟩ | ⟨h6, hM⟩
  · obtain ⟨v7, h8, hM⟩ := bind_some hM
    obtain ⟨v9, h10, hM⟩ := bind_some hM
    obtain ⟨v11, h12, hM⟩ := bind_some hM
    have hE : some (Ctl.next (List.set s3 (Int.toNat s4) v9, w64 (s4 + 1))) = some c1 := hM
    have hE := Option.some.inj hE
    subst hE
    exact pc R 9999 [.ln (a0.length), .as 11 true, .ix (Leg.enc v7), .call false [] (.o (.c (.v (.agg (Leg.enc v9).toArray)))) [] [], .ix (Leg.enc v11), .nm ((List.set s3 (Int.toNat s4) v9).map Leg.enc)] [.keep [0, 3, 4] [0]] (And.intro (lenm Leg.enc a0) (And.intro h6 (And.intro (gi_map Leg.enc h8) (And.intro (laws_toLeg_ok v7 v9 h10) (And.intro (gi_lt Leg.enc h12) (And.intro (And.intro (gi_map Leg.enc h12).2 (set_map Leg.enc s3 (Int.toNat s4) v9)) True.intro)))))) (by kernel_rfl) (li (Sf := laws_toLegS_L1_S a0) (M := Mk (laws_toLegS_L1 a0) (laws_toLegS_L1_k) r) (k := [.blk 0, .code (cAt Try.f61 [1, 1, 1])]) (Nat.lt_succ_self m1) hK1)
  · have hE : some (Ctl.brk s3) = some c1 := hM
    have hE := Option.some.inj hE
    subst hE
    exact pc R 5 [.ln (a0.length), .as 11 false] [.keep [3] [0]] (And.intro (lenm Leg.enc a0) (And.intro h6 True.intro)) (by kernel_rfl) (K1 s3 hK1)

-- loop.example/g03014/laws.toIntS
def laws_toIntS_L1_b (a0 : (List Int)) (s3 : (List Int)) (s4 : Int) : Option (Ctl ((List Int) × Int) (List Int) (List Int)) :=
  bif (decide (s4 < (a0.length : Int))) then
  (gi a0 s4).bind fun v7 =>
  (gi s3 s4).bind fun v9 =>
  some (.next (List.set s3 (Int.toNat s4) v7, w64 (s4 + 1)))
  else
  some (.brk s3)
def laws_toIntS_L1 (a0 : (List Int)) (s : (List Int) × Int) : Option (Ctl ((List Int) × Int) (List Int) (List Int)) := laws_toIntS_L1_b a0 s.1 s.2
def laws_toIntS_L1_s (a0 : (List Int)) (s3 : (List Int)) (s4 : Int) : St := ⟨[(0, .o (.c (.rs 1 (a0.map encI)))), (3, .o (.c (.sl 0))), (4, .o (.c (.v (.int .i64 s4))))], [(0, .row 3 1 (s3.map encI))]⟩
def laws_toIntS_L1_S (a0 : (List Int)) (s : (List Int) × Int) : St := laws_toIntS_L1_s a0 s.1 s.2
def laws_toIntS_L1_a (s5 : (List Int)) : Option (List Int) :=
  some s5
def laws_toIntS_L1_k (x : ((List Int)) ⊕ ((List Int))) : Option (List Int) := match x with
  | .inl t => laws_toIntS_L1_a t
  | .inr y => some y
def laws_toIntS (a0 : (List Int)) : Option (List Int) :=
  ((mkM 8 (a0.length : Int) : Option (List Int))).bind fun v1 =>
  (loopM (laws_toIntS_L1 a0) big (v1, 0)).bind (laws_toIntS_L1_k)
theorem laws_toIntS_ok (a0 : (List Int)) (r : (List Int)) (hM : laws_toIntS a0 = some r) :
    Con Try.prog 62 [.c (.rs 1 (a0.map encI))] [] (.o (.c (.sl 1000))) [] [(1000, .row 3 1 (r.map encI))] := by
  unfold laws_toIntS at hM
  refine cn (N := 22) (pids := []) Try_mixed Try.func62 (by kernel_rfl) (by kernel_rfl) (by kernel_rfl) rfl fun ρ g w R => ?_
  obtain ⟨v1, h2, hM⟩ := bind_some hM
  have K1 : ∀ (s5 : (List Int)), laws_toIntS_L1_a s5 = some r → Gr R [.code (cAt Try.f62 [1, 1, 1])] (⟨[(3, .o (.c (.sl 0)))], [(0, .row 3 1 (s5.map encI))]⟩) := by
    intro s5 hM
    unfold laws_toIntS_L1_a at hM
    have hE : some s5 = some r := hM
    have hE := Option.some.inj hE
    subst hE
    exact pr R 9999 [] [.sw 0 1000] [] [1000] True.intro (by kernel_rfl)
  refine pc R 9999 [.ln (a0.length), .new 0, .nm (v1.map encI)] [.keep [0, 3, 4] [0]] (k' := [.code (.loop (cAt Try.f62 [1, 1, 0, 1, 0, 0])), .blk 0, .code (cAt Try.f62 [1, 1, 1])]) (S' := laws_toIntS_L1_S a0 (v1, 0)) (And.intro (lenm encI a0) (And.intro (mkM_ok encI h2) True.intro)) (by kernel_rfl) ?_
  refine lq (laws_toIntS_L1_S a0) (body := laws_toIntS_L1 a0) (k := laws_toIntS_L1_k) hM fun m1 s c1 hM hK1 => ?_
  obtain ⟨s3, s4⟩ := s
  have hM : laws_toIntS_L1_b a0 s3 s4 = some c1 := hM
  unfold laws_toIntS_L1_b at hM
  rcases cond_cases hM with ⟨h6, hM⟩ | ⟨h6, hM⟩
  · obtain ⟨v7, h8, hM⟩ := bind_some hM
    obtain ⟨v9, h10, hM⟩ := bind_some hM
    have hE : some (Ctl.next (List.set s3 (Int.toNat s4) v7, w64 (s4 + 1))) = some c1 := hM
    have hE := Option.some.inj hE
    subst hE
    exact pc R 9999 [.ln (a0.length), .as 11 true, .ix (encI v7), .ix (encI v9), .nm ((List.set s3 (Int.toNat s4) v7).map encI)] [.keep [0, 3, 4] [0]] (And.intro (lenm encI a0) (And.intro h6 (And.intro (gi_map encI h8) (And.intro (gi_lt encI h10) (And.intro (And.intro (gi_map encI h10).2 (set_map encI s3 (Int.toNat s4) v7)) True.intro))))) (by kernel_rfl) (li (Sf := laws_toIntS_L1_S a0) (M := Mk (laws_toIntS_L1 a0) (laws_toIntS_L1_k) r) (k := [.blk 0, .code (cAt Try.f62 [1, 1, 1])]) (Nat.lt_succ_self m1) hK1)
  · have hE : some (Ctl.brk s3) = some c1 := hM
    have hE := Option.some.inj hE
    subst hE
    exact pc R 5 [.ln (a0.length), .as 11 false] [.keep [3] [0]] (And.intro (lenm encI a0) (And.intro h6 True.intro)) (by kernel_rfl) (K1 s3 hK1)

-- loop.example/g03014/laws.toNetwork
def laws_toNetwork (a0 : Network) : Option Network :=
  (laws_toLegS a0.Legs).bind fun v1 =>
  (laws_toIntS a0.Off).bind fun v3 =>
  some (Network.mk v1 v3 a0.Change)
theorem laws_toNetwork_ok (a0 : Network) (r : Network) (hM : laws_toNetwork a0 = some r) :
    Con Try.prog 15 [.agg [.rs 6 (a0.Legs.map Leg.enc), .rs 1 (a0.Off.map encI), .v (.int .i64 a0.Change)]] [] (.o (.agg [.sl 1000, .sl 1001, .v (.int .i64 r.Change)])) [] [(1000, .row 77 6 (r.Legs.map Leg.enc)), (1001, .row 3 1 (r.Off.map encI))] := by
  unfold laws_toNetwork at hM
  refine cn (N := 16) (pids := []) Try_mixed Try.func15 (by kernel_rfl) (by kernel_rfl) (by kernel_rfl) rfl fun ρ g w R => ?_
  obtain ⟨v1, h2, hM⟩ := bind_some hM
  obtain ⟨v3, h4, hM⟩ := bind_some hM
  have hE : some (Network.mk v1 v3 a0.Change) = some r := hM
  have hE := Option.some.inj hE
  subst hE
  exact pr R 9999 [.new 0, .new 1, .new 2, .call false [] (.o (.c (.sl 3))) [] [(3, .row 77 6 (v1.map Leg.enc))], .call false [] (.o (.c (.sl 4))) [] [(4, .row 3 1 (v3.map encI))]] [.sw 3 1000, .sw 4 1001] [] [1000, 1001] (And.intro (And.intro (con_sw 1000 3 (laws_toLegS_ok a0.Legs v1 h2)) (rfl : ([] : List Nat) = [])) (And.intro (And.intro (con_sw 1000 4 (laws_toIntS_ok a0.Off v3 h4)) (rfl : ([] : List Nat) = [])) True.intro)) (by kernel_rfl)

-- loop.example/g03014/laws.toTrip
def laws_toTrip (a0 : Trip) : Option Trip :=
  some a0
theorem laws_toTrip_ok (a0 : Trip) (r : Trip) (hM : laws_toTrip a0 = some r) :
    Con Try.prog 73 [.c (.v (.agg (Trip.enc a0).toArray))] [] (.o (.c (.v (.agg (Trip.enc r).toArray)))) [] [] := by
  unfold laws_toTrip at hM
  refine cn (N := 11) (pids := []) Try_mixed Try.func73 (by kernel_rfl) (by kernel_rfl) (by kernel_rfl) rfl fun ρ g w R => ?_
  have hE : some a0 = some r := hM
  have hE := Option.some.inj hE
  subst hE
  exact pr R 9999 [.new 0, .new 1, .new 2] [] [] [] True.intro (by kernel_rfl)

-- loop.example/g03014/laws.toTripS
def laws_toTripS_L1_b (a0 : (List Trip)) (s3 : (List Trip)) (s4 : Int) : Option (Ctl ((List Trip) × Int) (List Trip) (List Trip)) :=
  bif (decide (s4 < (a0.length : Int))) then
  (gi a0 s4).bind fun v7 =>
  (laws_toTrip v7).bind fun v9 =>
  (gi s3 s4).bind fun v11 =>
  some (.next (List.set s3 (Int.toNat s4) v9, w64 (s4 + 1)))
  else
  some (.brk s3)
def laws_toTripS_L1 (a0 : (List Trip)) (s : (List Trip) × Int) : Option (Ctl ((List Trip) × Int) (List Trip) (List Trip)) := laws_toTripS_L1_b a0 s.1 s.2
def laws_toTripS_L1_s (a0 : (List Trip)) (s3 : (List Trip)) (s4 : Int) : St := ⟨[(0, .o (.c (.rs 2 (a0.map Trip.enc)))), (3, .o (.c (.sl 0))), (4, .o (.c (.v (.int .i64 s4))))], [(0, .row 74 2 (s3.map Trip.enc))]⟩
def laws_toTripS_L1_S (a0 : (List Trip)) (s : (List Trip) × Int) : St := laws_toTripS_L1_s a0 s.1 s.2
def laws_toTripS_L1_a (s5 : (List Trip)) : Option (List Trip) :=
  some s5
def laws_toTripS_L1_k (x : ((List Trip)) ⊕ ((List Trip))) : Option (List Trip) := match x with
  | .inl t => laws_toTripS_L1_a t
  | .inr y => some y
def laws_toTripS (a0 : (List Trip)) : Option (List Trip) :=
  ((mkM 16 (a0.length : Int) : Option (List Trip))).bind fun v1 =>
  (loopM (laws_toTripS_L1 a0) big (v1, 0)).bind (laws_toTripS_L1_k)
theorem laws_toTripS_ok (a0 : (List Trip)) (r : (List Trip)) (hM : laws_toTripS a0 = some r) :
    Con Try.prog 24 [.c (.rs 2 (a0.map Trip.enc))] [] (.o (.c (.sl 1000))) [] [(1000, .row 74 2 (r.map Trip.enc))] := by
  unfold laws_toTripS at hM
  refine cn (N := 23) (pids := []) Try_mixed Try.func24 (by kernel_rfl) (by kernel_rfl) (by kernel_rfl) rfl fun ρ g w R => ?_
  obtain ⟨v1, h2, hM⟩ := bind_some hM
  have K1 : ∀ (s5 : (List Trip)), laws_toTripS_L1_a s5 = some r → Gr R [.code (cAt Try.f24 [1, 1, 1])] (⟨[(3, .o (.c (.sl 0)))], [(0, .row 74 2 (s5.map Trip.enc))]⟩) := by
    intro s5 hM
    unfold laws_toTripS_L1_a at hM
    have hE : some s5 = some r := hM
    have hE := Option.some.inj hE
    subst hE
    exact pr R 9999 [] [.sw 0 1000] [] [1000] True.intro (by kernel_rfl)
  refine pc R 9999 [.ln (a0.length), .new 0, .nm (v1.map Trip.enc)] [.keep [0, 3, 4] [0]] (k' := [.code (.loop (cAt Try.f24 [1, 1, 0, 1, 0, 0])), .blk 0, .code (cAt Try.f24 [1, 1, 1])]) (S' := laws_toTripS_L1_S a0 (v1, 0)) (And.intro (lenm Trip.enc a0) (And.intro (mkM_ok Trip.enc h2) True.intro)) (by kernel_rfl) ?_
  refine lq (laws_toTripS_L1_S a0) (body := laws_toTripS_L1 a0) (k := laws_toTripS_L1_k) hM fun m1 s c1 hM hK1 => ?_
  obtain ⟨s3, s4⟩ := s
  have hM : laws_toTripS_L1_b a0 s3 s4 = some c1 := hM
  unfold laws_toTripS_L1_b at hM
  rcases cond_cases hM with ⟨h6, hM⟩ | ⟨h6, hM⟩
  · obtain ⟨v7, h8, hM⟩ := bind_some hM
    obtain ⟨v9, h10, hM⟩ := bind_some hM
    obtain ⟨v11, h12, hM⟩ := bind_some hM
    have hE : some (Ctl.next (List.set s3 (Int.toNat s4) v9, w64 (s4 + 1))) = some c1 := hM
    have hE := Option.some.inj hE
    subst hE
    exact pc R 9999 [.ln (a0.length), .as 11 true, .ix (Trip.enc v7), .call false [] (.o (.c (.v (.agg (Trip.enc v9).toArray)))) [] [], .ix (Trip.enc v11), .nm ((List.set s3 (Int.toNat s4) v9).map Trip.enc)] [.keep [0, 3, 4] [0]] (And.intro (lenm Trip.enc a0) (And.intro h6 (And.intro (gi_map Trip.enc h8) (And.intro (laws_toTrip_ok v7 v9 h10) (And.intro (gi_lt Trip.enc h12) (And.intro (And.intro (gi_map Trip.enc h12).2 (set_map Trip.enc s3 (Int.toNat s4) v9)) True.intro)))))) (by kernel_rfl) (li (Sf := laws_toTripS_L1_S a0) (M := Mk (laws_toTripS_L1 a0) (laws_toTripS_L1_k) r) (k := [.blk 0, .code (cAt Try.f24 [1, 1, 1])]) (Nat.lt_succ_self m1) hK1)
  · have hE : some (Ctl.brk s3) = some c1 := hM
    have hE := Option.some.inj hE
    subst hE
    exact pc R 5 [.ln (a0.length), .as 11 false] [.keep [3] [0]] (And.intro (lenm Trip.enc a0) (And.intro h6 True.intro)) (by kernel_rfl) (K1 s3 hK1)

-- loop.example/g03014/spec.PlacesOf
def spec_PlacesOf_x7 (a0 : Network) (s2 : Int) (v19 : (List ByteArray)) : St := ⟨[(1, .o (.c (.ptr 0 0))), (3, .o (.c (.sl 6))), (4, .o (.c (.v (.int .i64 s2))))], [(0, .box 32 [.rs 6 (a0.Legs.map Leg.enc), .rs 1 (a0.Off.map encI), .v (.int .i64 a0.Change)]), (6, .row 9 1 (v19.map encS))]⟩
def spec_PlacesOf_x8 (a0 : Network) (s2 : Int) (v32 : (List ByteArray)) : St := ⟨[(1, .o (.c (.ptr 0 0))), (3, .o (.c (.sl 11))), (4, .o (.c (.v (.int .i64 s2))))], [(0, .box 32 [.rs 6 (a0.Legs.map Leg.enc), .rs 1 (a0.Off.map encI), .v (.int .i64 a0.Change)]), (11, .row 9 1 (v32.map encS))]⟩
def spec_PlacesOf_L2_b (s1 : (List ByteArray)) (s7 : ByteArray) (s8 : Int) : Option (Ctl Int Int (List ByteArray)) :=
  bif (decide (s8 < (s1.length : Int))) then
  (gi s1 s8).bind fun v35 =>
  bif (Op.bytesLess v35.toList s7.toList) then
  some (.next (w64 (s8 + 1)))
  else
  some (.brk s8)
  else
  some (.brk s8)
def spec_PlacesOf_L2 (s1 : (List ByteArray)) (s7 : ByteArray) (s : Int) : Option (Ctl Int Int (List ByteArray)) := spec_PlacesOf_L2_b s1 s7 s
def spec_PlacesOf_L2_s (a0 : Network) (s1 : (List ByteArray)) (s2 : Int) (s7 : ByteArray) (s8 : Int) : St := ⟨[(1, .o (.c (.ptr 0 0))), (3, .o (.c (.sl 1))), (4, .o (.c (.v (.int .i64 s2)))), (5, .o (.c (.v (.string s7)))), (6, .o (.c (.v (.int .i64 s8))))], [(0, .box 32 [.rs 6 (a0.Legs.map Leg.enc), .rs 1 (a0.Off.map encI), .v (.int .i64 a0.Change)]), (1, .row 9 1 (s1.map encS))]⟩
def spec_PlacesOf_L2_S (a0 : Network) (s1 : (List ByteArray)) (s2 : Int) (s7 : ByteArray) (s : Int) : St := spec_PlacesOf_L2_s a0 s1 s2 s7 s
def spec_PlacesOf_L2_a (s1 : (List ByteArray)) (s2 : Int) (s7 : ByteArray) (s9 : Int) : Option (Ctl ((List ByteArray) × Int) (List ByteArray) (List ByteArray)) :=
  bif (s9 == (s1.length : Int)) then
  (slM s1 0 s9).bind fun v11 =>
  (ap 16 ([] : List ByteArray) v11).bind fun v13 =>
  (ap 16 v13 ([s7] : List ByteArray)).bind fun v15 =>
  (slM s1 s9 s1.length).bind fun v17 =>
  (ap 16 v15 v17).bind fun v19 =>
  some (.next (v19, w64 (s2 + 1)))
  else
  (gi s1 s9).bind fun v21 =>
  bif (!(v21.toList == s7.toList)) then
  (slM s1 0 s9).bind fun v24 =>
  (ap 16 ([] : List ByteArray) v24).bind fun v26 =>
  (ap 16 v26 ([s7] : List ByteArray)).bind fun v28 =>
  (slM s1 s9 s1.length).bind fun v30 =>
  (ap 16 v28 v30).bind fun v32 =>
  some (.next (v32, w64 (s2 + 1)))
  else
  some (.next (s1, w64 (s2 + 1)))
def spec_PlacesOf_L2_k (s1 : (List ByteArray)) (s2 : Int) (s7 : ByteArray) (x : (Int) ⊕ ((List ByteArray))) : Option (Ctl ((List ByteArray) × Int) (List ByteArray) (List ByteArray)) := match x with
  | .inl t => spec_PlacesOf_L2_a s1 s2 s7 t
  | .inr y => some (.ret y)
def spec_PlacesOf_j1 (s1 : (List ByteArray)) (s2 : Int) (s7 : ByteArray) : Option (Ctl ((List ByteArray) × Int) (List ByteArray) (List ByteArray)) :=
  (loopM (spec_PlacesOf_L2 s1 s7) big 0).bind (spec_PlacesOf_L2_k s1 s2 s7)
def spec_PlacesOf_L1_b (a0 : Network) (s1 : (List ByteArray)) (s2 : Int) : Option (Ctl ((List ByteArray) × Int) (List ByteArray) (List ByteArray)) :=
  bif (decide (s2 < (w64 (2 * (a0.Legs.length : Int))))) then
  (gi a0.Legs (w64 (Int.tdiv s2 2))).bind fun v5 =>
  bif ((Int.tmod s2 2) == 1) then
  (gi a0.Legs (w64 (Int.tdiv s2 2))).bind fun v39 =>
  spec_PlacesOf_j1 s1 s2 v39.To
  else
  spec_PlacesOf_j1 s1 s2 v5.From
  else
  some (.brk s1)
def spec_PlacesOf_L1 (a0 : Network) (s : (List ByteArray) × Int) : Option (Ctl ((List ByteArray) × Int) (List ByteArray) (List ByteArray)) := spec_PlacesOf_L1_b a0 s.1 s.2
def spec_PlacesOf_L1_s (a0 : Network) (s1 : (List ByteArray)) (s2 : Int) : St := ⟨[(1, .o (.c (.ptr 0 0))), (3, .o (.c (.sl 1))), (4, .o (.c (.v (.int .i64 s2))))], [(0, .box 32 [.rs 6 (a0.Legs.map Leg.enc), .rs 1 (a0.Off.map encI), .v (.int .i64 a0.Change)]), (1, .row 9 1 (s1.map encS))]⟩
def spec_PlacesOf_L1_S (a0 : Network) (s : (List ByteArray) × Int) : St := spec_PlacesOf_L1_s a0 s.1 s.2
def spec_PlacesOf_L1_a (s3 : (List ByteArray)) : Option (List ByteArray) :=
  some s3
def spec_PlacesOf_L1_k (x : ((List ByteArray)) ⊕ ((List ByteArray))) : Option (List ByteArray) := match x with
  | .inl t => spec_PlacesOf_L1_a t
  | .inr y => some y
def spec_PlacesOf (a0 : Network) : Option (List ByteArray) :=
  (loopM (spec_PlacesOf_L1 a0) big (([] : List ByteArray), 0)).bind (spec_PlacesOf_L1_k)
theorem spec_PlacesOf_ok (a0 : Network) (r : (List ByteArray)) (hM : spec_PlacesOf a0 = some r) :
    Con Try.prog 58 [.agg [.rs 6 (a0.Legs.map Leg.enc), .rs 1 (a0.Off.map encI), .v (.int .i64 a0.Change)]] [] (.o (.c (.sl 1000))) [] [(1000, .row 9 1 (r.map encS))] := by
  unfold spec_PlacesOf at hM
  refine cn (N := 72) (pids := []) Try_mixed Try.func58 (by kernel_rfl) (by kernel_rfl) (by kernel_rfl) rfl fun ρ g w R => ?_
  have K1 : ∀ (s3 : (List ByteArray)), spec_PlacesOf_L1_a s3 = some r → Gr R [.code (cAt Try.f58 [1, 1, 1])] (⟨[(3, .o (.c (.sl 1)))], [(1, .row 9 1 (s3.map encS))]⟩) := by
    intro s3 hM
    unfold spec_PlacesOf_L1_a at hM
    have hE : some s3 = some r := hM
    have hE := Option.some.inj hE
    subst hE
    exact pr R 9999 [] [.sw 1 1000] [] [1000] True.intro (by kernel_rfl)
  refine pc R 9999 [.new 0, .new 1] [.keep [1, 3, 4] [0, 1]] (k' := [.code (.loop (cAt Try.f58 [1, 1, 0, 1, 0, 0])), .blk 0, .code (cAt Try.f58 [1, 1, 1])]) (S' := spec_PlacesOf_L1_S a0 (([] : List ByteArray), 0)) True.intro (by kernel_rfl) ?_
  refine lq (spec_PlacesOf_L1_S a0) (body := spec_PlacesOf_L1 a0) (k := spec_PlacesOf_L1_k) hM fun m1 s c1 hM hK1 => ?_
  obtain ⟨s1, s2⟩ := s
  have hM : spec_PlacesOf_L1_b a0 s1 s2 = some c1 := hM
  unfold spec_PlacesOf_L1_b at hM
  rcases cond_cases hM with ⟨h4, hM⟩ | ⟨h4, hM⟩
  · obtain ⟨v5, h6, hM⟩ := bind_some hM
    have J1 : ∀ (s7 : ByteArray), spec_PlacesOf_j1 s1 s2 s7 = some c1 → Gr R [.code (cAt Try.f58 [1, 1, 0, 1, 0, 0, 1, 0, 0, 1, 1]), .blk 1, .code (cAt Try.f58 [1, 1, 0, 1, 0, 0, 1, 1]), .inv (Jr R (spec_PlacesOf_L1_S a0) (Mk (spec_PlacesOf_L1 a0) (spec_PlacesOf_L1_k) r) (m1 + 1)), .blk 0, .code (cAt Try.f58 [1, 1, 1])] (⟨[(1, .o (.c (.ptr 0 0))), (3, .o (.c (.sl 1))), (4, .o (.c (.v (.int .i64 s2)))), (5, .o (.c (.v (.string s7))))], [(0, .box 32 [.rs 6 (a0.Legs.map Leg.enc), .rs 1 (a0.Off.map encI), .v (.int .i64 a0.Change)]), (1, .row 9 1 (s1.map encS))]⟩) := by
      intro s7 hM
      unfold spec_PlacesOf_j1 at hM
      have K2 : ∀ (s9 : Int), spec_PlacesOf_L2_a s1 s2 s7 s9 = some c1 → Gr R [.code (cAt Try.f58 [1, 1, 0, 1, 0, 0, 1, 0, 0, 1, 1, 1, 1]), .blk 1, .code (cAt Try.f58 [1, 1, 0, 1, 0, 0, 1, 1]), .inv (Jr R (spec_PlacesOf_L1_S a0) (Mk (spec_PlacesOf_L1 a0) (spec_PlacesOf_L1_k) r) (m1 + 1)), .blk 0, .code (cAt Try.f58 [1, 1, 1])] (⟨[(1, .o (.c (.ptr 0 0))), (3, .o (.c (.sl 1))), (4, .o (.c (.v (.int .i64 s2)))), (5, .o (.c (.v (.string s7)))), (6, .o (.c (.v (.int .i64 s9))))], [(0, .box 32 [.rs 6 (a0.Legs.map Leg.enc), .rs 1 (a0.Off.map encI), .v (.int .i64 a0.Change)]), (1, .row 9 1 (s1.map encS))]⟩) := by
        intro s9 hM
        unfold spec_PlacesOf_L2_a at hM
        rcases cond_cases hM with ⟨h10, hM⟩ | ⟨h10, hM⟩
        · obtain ⟨v11, h12, hM⟩ := bind_some hM
          obtain ⟨v13, h14, hM⟩ := bind_some hM
          obtain ⟨v15, h16, hM⟩ := bind_some hM
          obtain ⟨v17, h18, hM⟩ := bind_some hM
          obtain ⟨v19, h20, hM⟩ := bind_some hM
          have hE : some (Ctl.next (v19, w64 (s2 + 1))) = some c1 := hM
          have hE := Option.some.inj hE
          subst hE
          exact pc R 9999 [.ln (s1.length), .as 51 true, .xo [[.new 2], [], [], [.ad (.fz 1), .nm (v11.map encS)], [.new 3, .nm (v13.map encS)], [], [.new 4], [.new 5, .nm (v15.map encS)], [], [], [.nm (v17.map encS)], [.new 6, .nm (v19.map encS)], []] [.keep [1, 3, 4] [0, 6]] (spec_PlacesOf_x7 a0 s2 v19)] [.sw 6 1, .keep [1, 3, 4] [0, 1]] (And.intro (lenm encS s1) (And.intro h10 (And.intro (slM_ok encS h12) (And.intro (slM_okL encS h18) (And.intro (ap_ok encS h14) (And.intro (ap_ok encS h16) (And.intro (ap_ok encS h20) (And.intro (rfl : (spec_PlacesOf_x7 a0 s2 v19) = (spec_PlacesOf_x7 a0 s2 v19)) (And.intro (ap_ok encS h14) (And.intro (ap_ok encS h16) (And.intro (ap_ok encS h20) (And.intro (rfl : (spec_PlacesOf_x7 a0 s2 v19) = (spec_PlacesOf_x7 a0 s2 v19)) (And.intro (ap_ok encS h14) (And.intro (ap_ok encS h16) (And.intro (ap_ok encS h20) (And.intro (rfl : (spec_PlacesOf_x7 a0 s2 v19) = (spec_PlacesOf_x7 a0 s2 v19)) True.intro)))))))))))))))) (by kernel_rfl) (li (Sf := spec_PlacesOf_L1_S a0) (M := Mk (spec_PlacesOf_L1 a0) (spec_PlacesOf_L1_k) r) (k := [.blk 0, .code (cAt Try.f58 [1, 1, 1])]) (Nat.lt_succ_self m1) hK1)
        · obtain ⟨v21, h22, hM⟩ := bind_some hM
          rcases cond_cases hM with ⟨h23, hM⟩ | ⟨h23, hM⟩
          · obtain ⟨v24, h25, hM⟩ := bind_some hM
            obtain ⟨v26, h27, hM⟩ := bind_some hM
            obtain ⟨v28, h29, hM⟩ := bind_some hM
            obtain ⟨v30, h31, hM⟩ := bind_some hM
            obtain ⟨v32, h33, hM⟩ := bind_some hM
            have hE : some (Ctl.next (v32, w64 (s2 + 1))) = some c1 := hM
            have hE := Option.some.inj hE
            subst hE
            exact pc R 9999 [.ln (s1.length), .as 51 false, .ix (encS v21), .as 58 true, .xo [[.new 7], [], [], [.ad (.fz 1), .nm (v24.map encS)], [.new 8, .nm (v26.map encS)], [], [.new 9], [.new 10, .nm (v28.map encS)], [], [], [.nm (v30.map encS)], [.new 11, .nm (v32.map encS)], []] [.keep [1, 3, 4] [0, 11]] (spec_PlacesOf_x8 a0 s2 v32)] [.sw 11 1, .keep [1, 3, 4] [0, 1]] (And.intro (lenm encS s1) (And.intro h10 (And.intro (gi_lt encS h22) (And.intro ((gi_map encS h22).2) (And.intro h23 (And.intro (slM_ok encS h25) (And.intro (slM_okL encS h31) (And.intro (ap_ok encS h27) (And.intro (ap_ok encS h29) (And.intro (ap_ok encS h33) (And.intro (rfl : (spec_PlacesOf_x8 a0 s2 v32) = (spec_PlacesOf_x8 a0 s2 v32)) (And.intro (ap_ok encS h27) (And.intro (ap_ok encS h29) (And.intro (ap_ok encS h33) (And.intro (rfl : (spec_PlacesOf_x8 a0 s2 v32) = (spec_PlacesOf_x8 a0 s2 v32)) (And.intro (ap_ok encS h27) (And.intro (ap_ok encS h29) (And.intro (ap_ok encS h33) (And.intro (rfl : (spec_PlacesOf_x8 a0 s2 v32) = (spec_PlacesOf_x8 a0 s2 v32)) True.intro))))))))))))))))))) (by kernel_rfl) (li (Sf := spec_PlacesOf_L1_S a0) (M := Mk (spec_PlacesOf_L1 a0) (spec_PlacesOf_L1_k) r) (k := [.blk 0, .code (cAt Try.f58 [1, 1, 1])]) (Nat.lt_succ_self m1) hK1)
          · have hE : some (Ctl.next (s1, w64 (s2 + 1))) = some c1 := hM
            have hE := Option.some.inj hE
            subst hE
            exact pc R 9999 [.ln (s1.length), .as 51 false, .ix (encS v21), .as 58 false] [.keep [1, 3, 4] [0, 1]] (And.intro (lenm encS s1) (And.intro h10 (And.intro (gi_lt encS h22) (And.intro ((gi_map encS h22).2) (And.intro h23 True.intro))))) (by kernel_rfl) (li (Sf := spec_PlacesOf_L1_S a0) (M := Mk (spec_PlacesOf_L1 a0) (spec_PlacesOf_L1_k) r) (k := [.blk 0, .code (cAt Try.f58 [1, 1, 1])]) (Nat.lt_succ_self m1) hK1)
      refine pc R 9999 [] [.keep [1, 3, 4, 5, 6] [0, 1]] (k' := [.code (.loop (cAt Try.f58 [1, 1, 0, 1, 0, 0, 1, 0, 0, 1, 1, 1, 0, 0, 0])), .blk 2, .code (cAt Try.f58 [1, 1, 0, 1, 0, 0, 1, 0, 0, 1, 1, 1, 1]), .blk 1, .code (cAt Try.f58 [1, 1, 0, 1, 0, 0, 1, 1]), .inv (Jr R (spec_PlacesOf_L1_S a0) (Mk (spec_PlacesOf_L1 a0) (spec_PlacesOf_L1_k) r) (m1 + 1)), .blk 0, .code (cAt Try.f58 [1, 1, 1])]) (S' := spec_PlacesOf_L2_S a0 s1 s2 s7 0) True.intro (by kernel_rfl) ?_
      refine lq (spec_PlacesOf_L2_S a0 s1 s2 s7) (body := spec_PlacesOf_L2 s1 s7) (k := spec_PlacesOf_L2_k s1 s2 s7) hM fun m2 s c2 hM hK2 => ?_
      obtain ⟨s8, hs⟩ : ∃ z, z = s := ⟨_, rfl⟩
      subst hs
      have hM : spec_PlacesOf_L2_b s1 s7 s8 = some c2 := hM
      unfold spec_PlacesOf_L2_b at hM
      rcases cond_cases hM with ⟨h34, hM⟩ | ⟨h34, hM⟩
      · obtain ⟨v35, h36, hM⟩ := bind_some hM
        rcases cond_cases hM with ⟨h37, hM⟩ | ⟨h37, hM⟩
        · have hE : some (Ctl.next (w64 (s8 + 1))) = some c2 := hM
          have hE := Option.some.inj hE
          subst hE
          exact pc R 9999 [.ln (s1.length), .as 37 true, .ix (encS v35), .as 44 true] [.keep [1, 3, 4, 5, 6] [0, 1]] (And.intro (lenm encS s1) (And.intro h34 (And.intro (gi_lt encS h36) (And.intro ((gi_map encS h36).2) (And.intro h37 True.intro))))) (by kernel_rfl) (li (Sf := spec_PlacesOf_L2_S a0 s1 s2 s7) (M := Mk (spec_PlacesOf_L2 s1 s7) (spec_PlacesOf_L2_k s1 s2 s7) c1) (k := [.blk 2, .code (cAt Try.f58 [1, 1, 0, 1, 0, 0, 1, 0, 0, 1, 1, 1, 1]), .blk 1, .code (cAt Try.f58 [1, 1, 0, 1, 0, 0, 1, 1]), .inv (Jr R (spec_PlacesOf_L1_S a0) (Mk (spec_PlacesOf_L1 a0) (spec_PlacesOf_L1_k) r) (m1 + 1)), .blk 0, .code (cAt Try.f58 [1, 1, 1])]) (Nat.lt_succ_self m2) hK2)
        · have hE : some (Ctl.brk s8) = some c2 := hM
          have hE := Option.some.inj hE
          subst hE
          exact pc R 5 [.ln (s1.length), .as 37 true, .ix (encS v35), .as 44 false] [.keep [1, 3, 4, 5, 6] [0, 1]] (And.intro (lenm encS s1) (And.intro h34 (And.intro (gi_lt encS h36) (And.intro ((gi_map encS h36).2) (And.intro h37 True.intro))))) (by kernel_rfl) (K2 s8 hK2)
      · have hE : some (Ctl.brk s8) = some c2 := hM
        have hE := Option.some.inj hE
        subst hE
        exact pc R 5 [.ln (s1.length), .as 37 false] [.keep [1, 3, 4, 5, 6] [0, 1]] (And.intro (lenm encS s1) (And.intro h34 True.intro)) (by kernel_rfl) (K2 s8 hK2)
    rcases cond_cases hM with ⟨h38, hM⟩ | ⟨h38, hM⟩
    · obtain ⟨v39, h40, hM⟩ := bind_some hM
      exact pc R 14 [.ln (a0.Legs.length), .as 13 true, .ix (Leg.enc v5), .as 25 true, .ix (Leg.enc v39)] [.keep [1, 3, 4, 5] [0, 1]] (And.intro (lenm Leg.enc a0.Legs) (And.intro h4 (And.intro (gi_map Leg.enc h6) (And.intro h38 (And.intro (gi_map Leg.enc h40) True.intro))))) (by kernel_rfl) (J1 v39.To hM)
    · exact pc R 14 [.ln (a0.Legs.length), .as 13 true, .ix (Leg.enc v5), .as 25 false] [.keep [1, 3, 4, 5] [0, 1]] (And.intro (lenm Leg.enc a0.Legs) (And.intro h4 (And.intro (gi_map Leg.enc h6) (And.intro h38 True.intro)))) (by kernel_rfl) (J1 v5.From hM)
  · have hE : some (Ctl.brk s1) = some c1 := hM
    have hE := Option.some.inj hE
    subst hE
    exact pc R 5 [.ln (a0.Legs.length), .as 13 false] [.keep [3] [1]] (And.intro (lenm Leg.enc a0.Legs) (And.intro h4 True.intro)) (by kernel_rfl) (K1 s1 hK1)

-- loop.example/g03014/spec.l1In
def spec_l1In (a0 : Int) (a1 : Int) (a2 : Int) : Option Bool :=
  bif (decide (a0 ≥ a1)) then
  some (decide (a0 ≤ a2))
  else
  some false
theorem spec_l1In_ok (a0 : Int) (a1 : Int) (a2 : Int) (r : Bool) (hM : spec_l1In a0 a1 a2 = some r) :
    Con Try.prog 92 [.c (.v (.int .i64 a0)), .c (.v (.int .i64 a1)), .c (.v (.int .i64 a2))] [] (.o (.c (.v (.bool r)))) [] [] := by
  unfold spec_l1In at hM
  refine cn (N := 15) (pids := []) Try_mixed Try.func92 (by kernel_rfl) (by kernel_rfl) (by kernel_rfl) rfl fun ρ g w R => ?_
  rcases cond_cases hM with ⟨h1, hM⟩ | ⟨h1, hM⟩
  · have hE : some (decide (a0 ≤ a2)) = some r := hM
    have hE := Option.some.inj hE
    subst hE
    exact pr R 9999 [.as 10 true] [] [] [] (And.intro h1 True.intro) (by kernel_rfl)
  · have hE : some false = some r := hM
    have hE := Option.some.inj hE
    subst hE
    exact pr R 9999 [.as 10 false] [] [] [] (And.intro h1 True.intro) (by kernel_rfl)

-- loop.example/g03014/spec.IsPlace
def spec_IsPlace_L1_b (a0 : ByteArray) (s2 : Int) : Option (Ctl Int Unit Bool) :=
  bif (decide (s2 < 3)) then
  (siM a0 s2).bind fun v4 =>
  (spec_l1In (w64 v4) 65 90).bind fun v6 =>
  bif (!v6) then
  some (.ret false)
  else
  some (.next (w64 (s2 + 1)))
  else
  some (.brk ())
def spec_IsPlace_L1 (a0 : ByteArray) (s : Int) : Option (Ctl Int Unit Bool) := spec_IsPlace_L1_b a0 s
def spec_IsPlace_L1_s (a0 : ByteArray) (s2 : Int) : St := ⟨[(0, .o (.c (.v (.string a0)))), (3, .o (.c (.v (.int .i64 s2))))], []⟩
def spec_IsPlace_L1_S (a0 : ByteArray) (s : Int) : St := spec_IsPlace_L1_s a0 s
def spec_IsPlace_L1_a : Option Bool :=
  some true
def spec_IsPlace_L1_k (x : (Unit) ⊕ (Bool)) : Option Bool := match x with
  | .inl t => spec_IsPlace_L1_a
  | .inr y => some y
def spec_IsPlace (a0 : ByteArray) : Option Bool :=
  bif ((a0.size : Int) != 3) then
  some false
  else
  (loopM (spec_IsPlace_L1 a0) big 0).bind (spec_IsPlace_L1_k)
theorem spec_IsPlace_ok (a0 : ByteArray) (r : Bool) (hM : spec_IsPlace a0 = some r) :
    Con Try.prog 126 [.c (.v (.string a0))] [] (.o (.c (.v (.bool r)))) [] [] := by
  unfold spec_IsPlace at hM
  refine cn (N := 17) (pids := []) Try_mixed Try.func126 (by kernel_rfl) (by kernel_rfl) (by kernel_rfl) rfl fun ρ g w R => ?_
  rcases cond_cases hM with ⟨h1, hM⟩ | ⟨h1, hM⟩
  · have hE : some false = some r := hM
    have hE := Option.some.inj hE
    subst hE
    exact pr R 9999 [.as 6 true] [] [] [] (And.intro h1 True.intro) (by kernel_rfl)
  · have K1 : ∀ (_ : Unit), spec_IsPlace_L1_a = some r → Gr R [.code (cAt Try.f126 [1, 1, 1])] (⟨[], []⟩) := by
      intro _ hM
      unfold spec_IsPlace_L1_a at hM
      have hE : some true = some r := hM
      have hE := Option.some.inj hE
      subst hE
      exact pr R 9999 [] [] [] [] True.intro (by kernel_rfl)
    refine pc R 9999 [.as 6 false] [.keep [0, 3] []] (k' := [.code (.loop (cAt Try.f126 [1, 1, 0, 1, 0, 0])), .blk 0, .code (cAt Try.f126 [1, 1, 1])]) (S' := spec_IsPlace_L1_S a0 0) (And.intro h1 True.intro) (by kernel_rfl) ?_
    refine lq (spec_IsPlace_L1_S a0) (body := spec_IsPlace_L1 a0) (k := spec_IsPlace_L1_k) hM fun m1 s c1 hM hK1 => ?_
    obtain ⟨s2, hs⟩ : ∃ z, z = s := ⟨_, rfl⟩
    subst hs
    have hM : spec_IsPlace_L1_b a0 s2 = some c1 := hM
    unfold spec_IsPlace_L1_b at hM
    rcases cond_cases hM with ⟨h3, hM⟩ | ⟨h3, hM⟩
    · obtain ⟨v4, h5, hM⟩ := bind_some hM
      obtain ⟨v6, h7, hM⟩ := bind_some hM
      rcases cond_cases hM with ⟨h8, hM⟩ | ⟨h8, hM⟩
      · have hE : some (Ctl.ret false) = some c1 := hM
        have hE := Option.some.inj hE
        subst hE
        have hE : some false = some r := hK1
        have hE := Option.some.inj hE
        subst hE
        exact pr R 9999 [.as 8 true, .ix [.int .u8 v4], .call false [] (.o (.c (.v (.bool v6)))) [] [], .as 16 true] [] [] [] (And.intro h3 (And.intro (siM_ok h5) (And.intro (spec_l1In_ok (w64 v4) 65 90 v6 h7) (And.intro h8 True.intro)))) (by kernel_rfl)
      · have hE : some (Ctl.next (w64 (s2 + 1))) = some c1 := hM
        have hE := Option.some.inj hE
        subst hE
        exact pc R 9999 [.as 8 true, .ix [.int .u8 v4], .call false [] (.o (.c (.v (.bool v6)))) [] [], .as 16 false] [.keep [0, 3] []] (And.intro h3 (And.intro (siM_ok h5) (And.intro (spec_l1In_ok (w64 v4) 65 90 v6 h7) (And.intro h8 True.intro)))) (by kernel_rfl) (li (Sf := spec_IsPlace_L1_S a0) (M := Mk (spec_IsPlace_L1 a0) (spec_IsPlace_L1_k) r) (k := [.blk 0, .code (cAt Try.f126 [1, 1, 1])]) (Nat.lt_succ_self m1) hK1)
    · have hE : some (Ctl.brk ()) = some c1 := hM
      have hE := Option.some.inj hE
      subst hE
      exact pc R 5 [.as 8 false] [.keep [] []] (And.intro h3 True.intro) (by kernel_rfl) (K1 () hK1)

-- loop.example/g03014/spec.IsLeg
def spec_IsLeg (a0 : Leg) : Option Bool :=
  (spec_IsPlace a0.From).bind fun v1 =>
  bif v1 then
  (spec_IsPlace a0.To).bind fun v4 =>
  bif v4 then
  bif (!(a0.From.toList == a0.To.toList)) then
  (spec_l1In a0.Start 0 1439).bind fun v8 =>
  bif v8 then
  (spec_l1In a0.Takes 1 4320).bind fun v11 =>
  bif v11 then
  (spec_l1In a0.Days 1 127).bind fun v14 =>
  bif v14 then
  (spec_l1In a0.Room 0 1000000).bind fun v17 =>
  some v17
  else
  some false
  else
  some false
  else
  some false
  else
  some false
  else
  some false
  else
  some false
theorem spec_IsLeg_ok (a0 : Leg) (r : Bool) (hM : spec_IsLeg a0 = some r) :
    Con Try.prog 108 [.c (.v (.agg (Leg.enc a0).toArray))] [] (.o (.c (.v (.bool r)))) [] [] := by
  unfold spec_IsLeg at hM
  refine cn (N := 38) (pids := []) Try_mixed Try.func108 (by kernel_rfl) (by kernel_rfl) (by kernel_rfl) rfl fun ρ g w R => ?_
  obtain ⟨v1, h2, hM⟩ := bind_some hM
  rcases cond_cases hM with ⟨h3, hM⟩ | ⟨h3, hM⟩
  · obtain ⟨v4, h5, hM⟩ := bind_some hM
    rcases cond_cases hM with ⟨h6, hM⟩ | ⟨h6, hM⟩
    · rcases cond_cases hM with ⟨h7, hM⟩ | ⟨h7, hM⟩
      · obtain ⟨v8, h9, hM⟩ := bind_some hM
        rcases cond_cases hM with ⟨h10, hM⟩ | ⟨h10, hM⟩
        · obtain ⟨v11, h12, hM⟩ := bind_some hM
          rcases cond_cases hM with ⟨h13, hM⟩ | ⟨h13, hM⟩
          · obtain ⟨v14, h15, hM⟩ := bind_some hM
            rcases cond_cases hM with ⟨h16, hM⟩ | ⟨h16, hM⟩
            · obtain ⟨v17, h18, hM⟩ := bind_some hM
              have hE : some v17 = some r := hM
              have hE := Option.some.inj hE
              subst hE
              exact pr R 9999 [.new 0, .call false [] (.o (.c (.v (.bool v1)))) [] [], .as 6 true, .call false [] (.o (.c (.v (.bool v4)))) [] [], .as 11 true, .as 18 true, .call false [] (.o (.c (.v (.bool v8)))) [] [], .as 23 true, .call false [] (.o (.c (.v (.bool v11)))) [] [], .as 28 true, .call false [] (.o (.c (.v (.bool v14)))) [] [], .as 33 true, .call false [] (.o (.c (.v (.bool v17)))) [] []] [] [] [] (And.intro (spec_IsPlace_ok a0.From v1 h2) (And.intro h3 (And.intro (spec_IsPlace_ok a0.To v4 h5) (And.intro h6 (And.intro h7 (And.intro (spec_l1In_ok a0.Start 0 1439 v8 h9) (And.intro h10 (And.intro (spec_l1In_ok a0.Takes 1 4320 v11 h12) (And.intro h13 (And.intro (spec_l1In_ok a0.Days 1 127 v14 h15) (And.intro h16 (And.intro (spec_l1In_ok a0.Room 0 1000000 v17 h18) True.intro)))))))))))) (by kernel_rfl)
            · have hE : some false = some r := hM
              have hE := Option.some.inj hE
              subst hE
              exact pr R 9999 [.new 0, .call false [] (.o (.c (.v (.bool v1)))) [] [], .as 6 true, .call false [] (.o (.c (.v (.bool v4)))) [] [], .as 11 true, .as 18 true, .call false [] (.o (.c (.v (.bool v8)))) [] [], .as 23 true, .call false [] (.o (.c (.v (.bool v11)))) [] [], .as 28 true, .call false [] (.o (.c (.v (.bool v14)))) [] [], .as 33 false] [] [] [] (And.intro (spec_IsPlace_ok a0.From v1 h2) (And.intro h3 (And.intro (spec_IsPlace_ok a0.To v4 h5) (And.intro h6 (And.intro h7 (And.intro (spec_l1In_ok a0.Start 0 1439 v8 h9) (And.intro h10 (And.intro (spec_l1In_ok a0.Takes 1 4320 v11 h12) (And.intro h13 (And.intro (spec_l1In_ok a0.Days 1 127 v14 h15) (And.intro h16 True.intro))))))))))) (by kernel_rfl)
          · have hE : some false = some r := hM
            have hE := Option.some.inj hE
            subst hE
            exact pr R 9999 [.new 0, .call false [] (.o (.c (.v (.bool v1)))) [] [], .as 6 true, .call false [] (.o (.c (.v (.bool v4)))) [] [], .as 11 true, .as 18 true, .call false [] (.o (.c (.v (.bool v8)))) [] [], .as 23 true, .call false [] (.o (.c (.v (.bool v11)))) [] [], .as 28 false] [] [] [] (And.intro (spec_IsPlace_ok a0.From v1 h2) (And.intro h3 (And.intro (spec_IsPlace_ok a0.To v4 h5) (And.intro h6 (And.intro h7 (And.intro (spec_l1In_ok a0.Start 0 1439 v8 h9) (And.intro h10 (And.intro (spec_l1In_ok a0.Takes 1 4320 v11 h12) (And.intro h13 True.intro))))))))) (by kernel_rfl)
        · have hE : some false = some r := hM
          have hE := Option.some.inj hE
          subst hE
          exact pr R 9999 [.new 0, .call false [] (.o (.c (.v (.bool v1)))) [] [], .as 6 true, .call false [] (.o (.c (.v (.bool v4)))) [] [], .as 11 true, .as 18 true, .call false [] (.o (.c (.v (.bool v8)))) [] [], .as 23 false] [] [] [] (And.intro (spec_IsPlace_ok a0.From v1 h2) (And.intro h3 (And.intro (spec_IsPlace_ok a0.To v4 h5) (And.intro h6 (And.intro h7 (And.intro (spec_l1In_ok a0.Start 0 1439 v8 h9) (And.intro h10 True.intro))))))) (by kernel_rfl)
      · have hE : some false = some r := hM
        have hE := Option.some.inj hE
        subst hE
        exact pr R 9999 [.new 0, .call false [] (.o (.c (.v (.bool v1)))) [] [], .as 6 true, .call false [] (.o (.c (.v (.bool v4)))) [] [], .as 11 true, .as 18 false] [] [] [] (And.intro (spec_IsPlace_ok a0.From v1 h2) (And.intro h3 (And.intro (spec_IsPlace_ok a0.To v4 h5) (And.intro h6 (And.intro h7 True.intro))))) (by kernel_rfl)
    · have hE : some false = some r := hM
      have hE := Option.some.inj hE
      subst hE
      exact pr R 9999 [.new 0, .call false [] (.o (.c (.v (.bool v1)))) [] [], .as 6 true, .call false [] (.o (.c (.v (.bool v4)))) [] [], .as 11 false] [] [] [] (And.intro (spec_IsPlace_ok a0.From v1 h2) (And.intro h3 (And.intro (spec_IsPlace_ok a0.To v4 h5) (And.intro h6 True.intro)))) (by kernel_rfl)
  · have hE : some false = some r := hM
    have hE := Option.some.inj hE
    subst hE
    exact pr R 9999 [.new 0, .call false [] (.o (.c (.v (.bool v1)))) [] [], .as 6 false] [] [] [] (And.intro (spec_IsPlace_ok a0.From v1 h2) (And.intro h3 True.intro)) (by kernel_rfl)

-- loop.example/g03014/spec.IsNetwork
def spec_IsNetwork_L2_b (a0 : Network) (s2 : Int) : Option (Ctl Int Unit Bool) :=
  bif (decide (s2 < (a0.Off.length : Int))) then
  (gi a0.Off s2).bind fun v8 =>
  (spec_l1In v8 0 60).bind fun v10 =>
  bif (!v10) then
  some (.ret false)
  else
  bif (decide (s2 > 0)) then
  (gi a0.Off (w64 (s2 - 1))).bind fun v14 =>
  (gi a0.Off s2).bind fun v16 =>
  bif (decide (v14 ≥ v16)) then
  some (.ret false)
  else
  some (.next (w64 (s2 + 1)))
  else
  some (.next (w64 (s2 + 1)))
  else
  some (.brk ())
def spec_IsNetwork_L2 (a0 : Network) (s : Int) : Option (Ctl Int Unit Bool) := spec_IsNetwork_L2_b a0 s
def spec_IsNetwork_L2_s (a0 : Network) (s2 : Int) : St := ⟨[(1, .o (.c (.ptr 0 0))), (4, .o (.c (.v (.int .i64 s2))))], [(0, .box 32 [.rs 6 (a0.Legs.map Leg.enc), .rs 1 (a0.Off.map encI), .v (.int .i64 a0.Change)])]⟩
def spec_IsNetwork_L2_S (a0 : Network) (s : Int) : St := spec_IsNetwork_L2_s a0 s
def spec_IsNetwork_L2_a (a0 : Network) : Option Bool :=
  bif (decide ((a0.Legs.length : Int) ≤ 20)) then
  bif (decide ((a0.Off.length : Int) ≤ 10)) then
  (spec_l1In a0.Change 0 240).bind fun v5 =>
  some v5
  else
  some false
  else
  some false
def spec_IsNetwork_L2_k (a0 : Network) (x : (Unit) ⊕ (Bool)) : Option Bool := match x with
  | .inl t => spec_IsNetwork_L2_a a0
  | .inr y => some y
def spec_IsNetwork_L1_b (a0 : Network) (s1 : Int) : Option (Ctl Int Unit Bool) :=
  bif (decide (s1 < (a0.Legs.length : Int))) then
  (gi a0.Legs s1).bind fun v20 =>
  (spec_IsLeg v20).bind fun v22 =>
  bif (!v22) then
  some (.ret false)
  else
  some (.next (w64 (s1 + 1)))
  else
  some (.brk ())
def spec_IsNetwork_L1 (a0 : Network) (s : Int) : Option (Ctl Int Unit Bool) := spec_IsNetwork_L1_b a0 s
def spec_IsNetwork_L1_s (a0 : Network) (s1 : Int) : St := ⟨[(1, .o (.c (.ptr 0 0))), (3, .o (.c (.v (.int .i64 s1))))], [(0, .box 32 [.rs 6 (a0.Legs.map Leg.enc), .rs 1 (a0.Off.map encI), .v (.int .i64 a0.Change)])]⟩
def spec_IsNetwork_L1_S (a0 : Network) (s : Int) : St := spec_IsNetwork_L1_s a0 s
def spec_IsNetwork_L1_a (a0 : Network) : Option Bool :=
  (loopM (spec_IsNetwork_L2 a0) big 0).bind (spec_IsNetwork_L2_k a0)
def spec_IsNetwork_L1_k (a0 : Network) (x : (Unit) ⊕ (Bool)) : Option Bool := match x with
  | .inl t => spec_IsNetwork_L1_a a0
  | .inr y => some y
def spec_IsNetwork (a0 : Network) : Option Bool :=
  (loopM (spec_IsNetwork_L1 a0) big 0).bind (spec_IsNetwork_L1_k a0)
theorem spec_IsNetwork_ok (a0 : Network) (r : Bool) (hM : spec_IsNetwork a0 = some r) :
    Con Try.prog 69 [.agg [.rs 6 (a0.Legs.map Leg.enc), .rs 1 (a0.Off.map encI), .v (.int .i64 a0.Change)]] [] (.o (.c (.v (.bool r)))) [] [] := by
  unfold spec_IsNetwork at hM
  refine cn (N := 66) (pids := []) Try_mixed Try.func69 (by kernel_rfl) (by kernel_rfl) (by kernel_rfl) rfl fun ρ g w R => ?_
  have K1 : ∀ (_ : Unit), spec_IsNetwork_L1_a a0 = some r → Gr R [.code (cAt Try.f69 [1, 1])] (⟨[(1, .o (.c (.ptr 0 0)))], [(0, .box 32 [.rs 6 (a0.Legs.map Leg.enc), .rs 1 (a0.Off.map encI), .v (.int .i64 a0.Change)])]⟩) := by
    intro _ hM
    unfold spec_IsNetwork_L1_a at hM
    have K2 : ∀ (_ : Unit), spec_IsNetwork_L2_a a0 = some r → Gr R [.code (cAt Try.f69 [1, 1, 1])] (⟨[(1, .o (.c (.ptr 0 0)))], [(0, .box 32 [.rs 6 (a0.Legs.map Leg.enc), .rs 1 (a0.Off.map encI), .v (.int .i64 a0.Change)])]⟩) := by
      intro _ hM
      unfold spec_IsNetwork_L2_a at hM
      rcases cond_cases hM with ⟨h3, hM⟩ | ⟨h3, hM⟩
      · rcases cond_cases hM with ⟨h4, hM⟩ | ⟨h4, hM⟩
        · obtain ⟨v5, h6, hM⟩ := bind_some hM
          have hE : some v5 = some r := hM
          have hE := Option.some.inj hE
          subst hE
          exact pr R 9999 [.ln (a0.Legs.length), .as 55 true, .ln (a0.Off.length), .as 61 true, .call false [] (.o (.c (.v (.bool v5)))) [] []] [] [] [] (And.intro (lenm Leg.enc a0.Legs) (And.intro h3 (And.intro (lenm encI a0.Off) (And.intro h4 (And.intro (spec_l1In_ok a0.Change 0 240 v5 h6) True.intro))))) (by kernel_rfl)
        · have hE : some false = some r := hM
          have hE := Option.some.inj hE
          subst hE
          exact pr R 9999 [.ln (a0.Legs.length), .as 55 true, .ln (a0.Off.length), .as 61 false] [] [] [] (And.intro (lenm Leg.enc a0.Legs) (And.intro h3 (And.intro (lenm encI a0.Off) (And.intro h4 True.intro)))) (by kernel_rfl)
      · have hE : some false = some r := hM
        have hE := Option.some.inj hE
        subst hE
        exact pr R 9999 [.ln (a0.Legs.length), .as 55 false] [] [] [] (And.intro (lenm Leg.enc a0.Legs) (And.intro h3 True.intro)) (by kernel_rfl)
    refine pc R 9999 [] [.keep [1, 4] [0]] (k' := [.code (.loop (cAt Try.f69 [1, 1, 0, 1, 0, 0])), .blk 2, .code (cAt Try.f69 [1, 1, 1])]) (S' := spec_IsNetwork_L2_S a0 0) True.intro (by kernel_rfl) ?_
    refine lq (spec_IsNetwork_L2_S a0) (body := spec_IsNetwork_L2 a0) (k := spec_IsNetwork_L2_k a0) hM fun m2 s c2 hM hK2 => ?_
    obtain ⟨s2, hs⟩ : ∃ z, z = s := ⟨_, rfl⟩
    subst hs
    have hM : spec_IsNetwork_L2_b a0 s2 = some c2 := hM
    unfold spec_IsNetwork_L2_b at hM
    rcases cond_cases hM with ⟨h7, hM⟩ | ⟨h7, hM⟩
    · obtain ⟨v8, h9, hM⟩ := bind_some hM
      obtain ⟨v10, h11, hM⟩ := bind_some hM
      rcases cond_cases hM with ⟨h12, hM⟩ | ⟨h12, hM⟩
      · have hE : some (Ctl.ret false) = some c2 := hM
        have hE := Option.some.inj hE
        subst hE
        have hE : some false = some r := hK2
        have hE := Option.some.inj hE
        subst hE
        exact pr R 9999 [.ln (a0.Off.length), .as 23 true, .ix (encI v8), .call false [] (.o (.c (.v (.bool v10)))) [] [], .as 33 true] [] [] [] (And.intro (lenm encI a0.Off) (And.intro h7 (And.intro (gi_map encI h9) (And.intro (spec_l1In_ok v8 0 60 v10 h11) (And.intro h12 True.intro))))) (by kernel_rfl)
      · rcases cond_cases hM with ⟨h13, hM⟩ | ⟨h13, hM⟩
        · obtain ⟨v14, h15, hM⟩ := bind_some hM
          obtain ⟨v16, h17, hM⟩ := bind_some hM
          rcases cond_cases hM with ⟨h18, hM⟩ | ⟨h18, hM⟩
          · have hE : some (Ctl.ret false) = some c2 := hM
            have hE := Option.some.inj hE
            subst hE
            have hE : some false = some r := hK2
            have hE := Option.some.inj hE
            subst hE
            exact pr R 9999 [.ln (a0.Off.length), .as 23 true, .ix (encI v8), .call false [] (.o (.c (.v (.bool v10)))) [] [], .as 33 false, .as 36 true, .ix (encI v14), .ix (encI v16), .as 50 true] [] [] [] (And.intro (lenm encI a0.Off) (And.intro h7 (And.intro (gi_map encI h9) (And.intro (spec_l1In_ok v8 0 60 v10 h11) (And.intro h12 (And.intro h13 (And.intro (gi_map encI h15) (And.intro (gi_map encI h17) (And.intro h18 True.intro))))))))) (by kernel_rfl)
          · have hE : some (Ctl.next (w64 (s2 + 1))) = some c2 := hM
            have hE := Option.some.inj hE
            subst hE
            exact pc R 9999 [.ln (a0.Off.length), .as 23 true, .ix (encI v8), .call false [] (.o (.c (.v (.bool v10)))) [] [], .as 33 false, .as 36 true, .ix (encI v14), .ix (encI v16), .as 50 false] [.keep [1, 4] [0]] (And.intro (lenm encI a0.Off) (And.intro h7 (And.intro (gi_map encI h9) (And.intro (spec_l1In_ok v8 0 60 v10 h11) (And.intro h12 (And.intro h13 (And.intro (gi_map encI h15) (And.intro (gi_map encI h17) (And.intro h18 True.intro))))))))) (by kernel_rfl) (li (Sf := spec_IsNetwork_L2_S a0) (M := Mk (spec_IsNetwork_L2 a0) (spec_IsNetwork_L2_k a0) r) (k := [.blk 2, .code (cAt Try.f69 [1, 1, 1])]) (Nat.lt_succ_self m2) hK2)
        · have hE : some (Ctl.next (w64 (s2 + 1))) = some c2 := hM
          have hE := Option.some.inj hE
          subst hE
          exact pc R 9999 [.ln (a0.Off.length), .as 23 true, .ix (encI v8), .call false [] (.o (.c (.v (.bool v10)))) [] [], .as 33 false, .as 36 false] [.keep [1, 4] [0]] (And.intro (lenm encI a0.Off) (And.intro h7 (And.intro (gi_map encI h9) (And.intro (spec_l1In_ok v8 0 60 v10 h11) (And.intro h12 (And.intro h13 True.intro)))))) (by kernel_rfl) (li (Sf := spec_IsNetwork_L2_S a0) (M := Mk (spec_IsNetwork_L2 a0) (spec_IsNetwork_L2_k a0) r) (k := [.blk 2, .code (cAt Try.f69 [1, 1, 1])]) (Nat.lt_succ_self m2) hK2)
    · have hE : some (Ctl.brk ()) = some c2 := hM
      have hE := Option.some.inj hE
      subst hE
      exact pc R 5 [.ln (a0.Off.length), .as 23 false] [.keep [1] [0]] (And.intro (lenm encI a0.Off) (And.intro h7 True.intro)) (by kernel_rfl) (K2 () hK2)
  refine pc R 9999 [.new 0] [.keep [1, 3] [0]] (k' := [.code (.loop (cAt Try.f69 [1, 0, 1, 0, 0])), .blk 0, .code (cAt Try.f69 [1, 1])]) (S' := spec_IsNetwork_L1_S a0 0) True.intro (by kernel_rfl) ?_
  refine lq (spec_IsNetwork_L1_S a0) (body := spec_IsNetwork_L1 a0) (k := spec_IsNetwork_L1_k a0) hM fun m1 s c1 hM hK1 => ?_
  obtain ⟨s1, hs⟩ : ∃ z, z = s := ⟨_, rfl⟩
  subst hs
  have hM : spec_IsNetwork_L1_b a0 s1 = some c1 := hM
  unfold spec_IsNetwork_L1_b at hM
  rcases cond_cases hM with ⟨h19, hM⟩ | ⟨h19, hM⟩
  · obtain ⟨v20, h21, hM⟩ := bind_some hM
    obtain ⟨v22, h23, hM⟩ := bind_some hM
    rcases cond_cases hM with ⟨h24, hM⟩ | ⟨h24, hM⟩
    · have hE : some (Ctl.ret false) = some c1 := hM
      have hE := Option.some.inj hE
      subst hE
      have hE : some false = some r := hK1
      have hE := Option.some.inj hE
      subst hE
      exact pr R 9999 [.ln (a0.Legs.length), .as 9 true, .ix (Leg.enc v20), .call false [] (.o (.c (.v (.bool v22)))) [] [], .as 18 true] [] [] [] (And.intro (lenm Leg.enc a0.Legs) (And.intro h19 (And.intro (gi_map Leg.enc h21) (And.intro (spec_IsLeg_ok v20 v22 h23) (And.intro h24 True.intro))))) (by kernel_rfl)
    · have hE : some (Ctl.next (w64 (s1 + 1))) = some c1 := hM
      have hE := Option.some.inj hE
      subst hE
      exact pc R 9999 [.ln (a0.Legs.length), .as 9 true, .ix (Leg.enc v20), .call false [] (.o (.c (.v (.bool v22)))) [] [], .as 18 false] [.keep [1, 3] [0]] (And.intro (lenm Leg.enc a0.Legs) (And.intro h19 (And.intro (gi_map Leg.enc h21) (And.intro (spec_IsLeg_ok v20 v22 h23) (And.intro h24 True.intro))))) (by kernel_rfl) (li (Sf := spec_IsNetwork_L1_S a0) (M := Mk (spec_IsNetwork_L1 a0) (spec_IsNetwork_L1_k a0) r) (k := [.blk 0, .code (cAt Try.f69 [1, 1])]) (Nat.lt_succ_self m1) hK1)
  · have hE : some (Ctl.brk ()) = some c1 := hM
    have hE := Option.some.inj hE
    subst hE
    exact pc R 5 [.ln (a0.Legs.length), .as 9 false] [.keep [1] [0]] (And.intro (lenm Leg.enc a0.Legs) (And.intro h19 True.intro)) (by kernel_rfl) (K1 () hK1)

-- loop.example/g03014/spec.l4Index
def spec_l4Index_L1_b (a0 : (List ByteArray)) (a1 : ByteArray) (s1 : Int) : Option (Ctl Int Unit Int) :=
  bif (decide (s1 < (a0.length : Int))) then
  (gi a0 s1).bind fun v3 =>
  bif (v3.toList == a1.toList) then
  some (.ret s1)
  else
  some (.next (w64 (s1 + 1)))
  else
  some (.brk ())
def spec_l4Index_L1 (a0 : (List ByteArray)) (a1 : ByteArray) (s : Int) : Option (Ctl Int Unit Int) := spec_l4Index_L1_b a0 a1 s
def spec_l4Index_L1_s (a0 : (List ByteArray)) (a1 : ByteArray) (s1 : Int) : St := ⟨[(0, .o (.c (.rs 1 (a0.map encS)))), (1, .o (.c (.v (.string a1)))), (5, .o (.c (.v (.int .i64 s1))))], []⟩
def spec_l4Index_L1_S (a0 : (List ByteArray)) (a1 : ByteArray) (s : Int) : St := spec_l4Index_L1_s a0 a1 s
def spec_l4Index_L1_a : Option Int :=
  some (-1)
def spec_l4Index_L1_k (x : (Unit) ⊕ (Int)) : Option Int := match x with
  | .inl t => spec_l4Index_L1_a
  | .inr y => some y
def spec_l4Index (a0 : (List ByteArray)) (a1 : ByteArray) : Option Int :=
  (loopM (spec_l4Index_L1 a0 a1) big 0).bind (spec_l4Index_L1_k)
theorem spec_l4Index_ok (a0 : (List ByteArray)) (a1 : ByteArray) (r : Int) (hM : spec_l4Index a0 a1 = some r) :
    Con Try.prog 59 [.c (.rs 1 (a0.map encS)), .c (.v (.string a1))] [] (.o (.c (.v (.int .i64 r)))) [] [] := by
  unfold spec_l4Index at hM
  refine cn (N := 19) (pids := []) Try_mixed Try.func59 (by kernel_rfl) (by kernel_rfl) (by kernel_rfl) rfl fun ρ g w R => ?_
  have K1 : ∀ (_ : Unit), spec_l4Index_L1_a = some r → Gr R [.code (cAt Try.f59 [1, 1])] (⟨[], []⟩) := by
    intro _ hM
    unfold spec_l4Index_L1_a at hM
    have hE : some (-1) = some r := hM
    have hE := Option.some.inj hE
    subst hE
    exact pr R 9999 [] [] [] [] True.intro (by kernel_rfl)
  refine pc R 9999 [] [.keep [0, 1, 5] []] (k' := [.code (.loop (cAt Try.f59 [1, 0, 1, 0, 0])), .blk 0, .code (cAt Try.f59 [1, 1])]) (S' := spec_l4Index_L1_S a0 a1 0) True.intro (by kernel_rfl) ?_
  refine lq (spec_l4Index_L1_S a0 a1) (body := spec_l4Index_L1 a0 a1) (k := spec_l4Index_L1_k) hM fun m1 s c1 hM hK1 => ?_
  obtain ⟨s1, hs⟩ : ∃ z, z = s := ⟨_, rfl⟩
  subst hs
  have hM : spec_l4Index_L1_b a0 a1 s1 = some c1 := hM
  unfold spec_l4Index_L1_b at hM
  rcases cond_cases hM with ⟨h2, hM⟩ | ⟨h2, hM⟩
  · obtain ⟨v3, h4, hM⟩ := bind_some hM
    rcases cond_cases hM with ⟨h5, hM⟩ | ⟨h5, hM⟩
    · have hE : some (Ctl.ret s1) = some c1 := hM
      have hE := Option.some.inj hE
      subst hE
      have hE : some s1 = some r := hK1
      have hE := Option.some.inj hE
      subst hE
      exact pr R 9999 [.ln (a0.length), .as 9 true, .ix (encS v3), .as 17 true] [] [] [] (And.intro (lenm encS a0) (And.intro h2 (And.intro (gi_map encS h4) (And.intro h5 True.intro)))) (by kernel_rfl)
    · have hE : some (Ctl.next (w64 (s1 + 1))) = some c1 := hM
      have hE := Option.some.inj hE
      subst hE
      exact pc R 9999 [.ln (a0.length), .as 9 true, .ix (encS v3), .as 17 false] [.keep [0, 1, 5] []] (And.intro (lenm encS a0) (And.intro h2 (And.intro (gi_map encS h4) (And.intro h5 True.intro)))) (by kernel_rfl) (li (Sf := spec_l4Index_L1_S a0 a1) (M := Mk (spec_l4Index_L1 a0 a1) (spec_l4Index_L1_k) r) (k := [.blk 0, .code (cAt Try.f59 [1, 1])]) (Nat.lt_succ_self m1) hK1)
  · have hE : some (Ctl.brk ()) = some c1 := hM
    have hE := Option.some.inj hE
    subst hE
    exact pc R 5 [.ln (a0.length), .as 9 false] [.keep [] []] (And.intro (lenm encS a0) (And.intro h2 True.intro)) (by kernel_rfl) (K1 () hK1)

-- loop.example/g03014/spec.l1Has
def spec_l1Has_L1_b (a0 : (List Int)) (a1 : Int) (s1 : Int) : Option (Ctl Int Unit Bool) :=
  bif (decide (s1 < (a0.length : Int))) then
  (gi a0 s1).bind fun v3 =>
  bif (v3 == a1) then
  some (.ret true)
  else
  some (.next (w64 (s1 + 1)))
  else
  some (.brk ())
def spec_l1Has_L1 (a0 : (List Int)) (a1 : Int) (s : Int) : Option (Ctl Int Unit Bool) := spec_l1Has_L1_b a0 a1 s
def spec_l1Has_L1_s (a0 : (List Int)) (a1 : Int) (s1 : Int) : St := ⟨[(0, .o (.c (.rs 1 (a0.map encI)))), (1, .o (.c (.v (.int .i64 a1)))), (5, .o (.c (.v (.int .i64 s1))))], []⟩
def spec_l1Has_L1_S (a0 : (List Int)) (a1 : Int) (s : Int) : St := spec_l1Has_L1_s a0 a1 s
def spec_l1Has_L1_a : Option Bool :=
  some false
def spec_l1Has_L1_k (x : (Unit) ⊕ (Bool)) : Option Bool := match x with
  | .inl t => spec_l1Has_L1_a
  | .inr y => some y
def spec_l1Has (a0 : (List Int)) (a1 : Int) : Option Bool :=
  (loopM (spec_l1Has_L1 a0 a1) big 0).bind (spec_l1Has_L1_k)
theorem spec_l1Has_ok (a0 : (List Int)) (a1 : Int) (r : Bool) (hM : spec_l1Has a0 a1 = some r) :
    Con Try.prog 128 [.c (.rs 1 (a0.map encI)), .c (.v (.int .i64 a1))] [] (.o (.c (.v (.bool r)))) [] [] := by
  unfold spec_l1Has at hM
  refine cn (N := 18) (pids := []) Try_mixed Try.func128 (by kernel_rfl) (by kernel_rfl) (by kernel_rfl) rfl fun ρ g w R => ?_
  have K1 : ∀ (_ : Unit), spec_l1Has_L1_a = some r → Gr R [.code (cAt Try.f128 [1, 1])] (⟨[], []⟩) := by
    intro _ hM
    unfold spec_l1Has_L1_a at hM
    have hE : some false = some r := hM
    have hE := Option.some.inj hE
    subst hE
    exact pr R 9999 [] [] [] [] True.intro (by kernel_rfl)
  refine pc R 9999 [] [.keep [0, 1, 5] []] (k' := [.code (.loop (cAt Try.f128 [1, 0, 1, 0, 0])), .blk 0, .code (cAt Try.f128 [1, 1])]) (S' := spec_l1Has_L1_S a0 a1 0) True.intro (by kernel_rfl) ?_
  refine lq (spec_l1Has_L1_S a0 a1) (body := spec_l1Has_L1 a0 a1) (k := spec_l1Has_L1_k) hM fun m1 s c1 hM hK1 => ?_
  obtain ⟨s1, hs⟩ : ∃ z, z = s := ⟨_, rfl⟩
  subst hs
  have hM : spec_l1Has_L1_b a0 a1 s1 = some c1 := hM
  unfold spec_l1Has_L1_b at hM
  rcases cond_cases hM with ⟨h2, hM⟩ | ⟨h2, hM⟩
  · obtain ⟨v3, h4, hM⟩ := bind_some hM
    rcases cond_cases hM with ⟨h5, hM⟩ | ⟨h5, hM⟩
    · have hE : some (Ctl.ret true) = some c1 := hM
      have hE := Option.some.inj hE
      subst hE
      have hE : some true = some r := hK1
      have hE := Option.some.inj hE
      subst hE
      exact pr R 9999 [.ln (a0.length), .as 9 true, .ix (encI v3), .as 17 true] [] [] [] (And.intro (lenm encI a0) (And.intro h2 (And.intro (gi_map encI h4) (And.intro h5 True.intro)))) (by kernel_rfl)
    · have hE : some (Ctl.next (w64 (s1 + 1))) = some c1 := hM
      have hE := Option.some.inj hE
      subst hE
      exact pc R 9999 [.ln (a0.length), .as 9 true, .ix (encI v3), .as 17 false] [.keep [0, 1, 5] []] (And.intro (lenm encI a0) (And.intro h2 (And.intro (gi_map encI h4) (And.intro h5 True.intro)))) (by kernel_rfl) (li (Sf := spec_l1Has_L1_S a0 a1) (M := Mk (spec_l1Has_L1 a0 a1) (spec_l1Has_L1_k) r) (k := [.blk 0, .code (cAt Try.f128 [1, 1])]) (Nat.lt_succ_self m1) hK1)
  · have hE : some (Ctl.brk ()) = some c1 := hM
    have hE := Option.some.inj hE
    subst hE
    exact pc R 5 [.ln (a0.length), .as 9 false] [.keep [] []] (And.intro (lenm encI a0) (And.intro h2 True.intro)) (by kernel_rfl) (K1 () hK1)

-- loop.example/g03014/spec.l3Runs
def spec_l3Runs (a0 : Network) (a1 : Int) (a2 : Int) : Option Bool :=
  (spec_l1In a1 0 (w64 ((a0.Legs.length : Int) - 1))).bind fun v1 =>
  bif v1 then
  (spec_l1In a2 0 60).bind fun v4 =>
  bif v4 then
  (gi a0.Legs a1).bind fun v7 =>
  (shrM v7.Days (Int.tmod a2 7)).bind fun v9 =>
  bif ((w64 ((BitVec.ofInt 64 v9 &&& BitVec.ofInt 64 1).toNat)) == 1) then
  (spec_l1Has a0.Off a2).bind fun v12 =>
  some (!v12)
  else
  some false
  else
  some false
  else
  some false
theorem spec_l3Runs_ok (a0 : Network) (a1 : Int) (a2 : Int) (r : Bool) (hM : spec_l3Runs a0 a1 a2 = some r) :
    Con Try.prog 112 [.agg [.rs 6 (a0.Legs.map Leg.enc), .rs 1 (a0.Off.map encI), .v (.int .i64 a0.Change)], .c (.v (.int .i64 a1)), .c (.v (.int .i64 a2))] [] (.o (.c (.v (.bool r)))) [] [] := by
  unfold spec_l3Runs at hM
  refine cn (N := 37) (pids := []) Try_mixed Try.func112 (by kernel_rfl) (by kernel_rfl) (by kernel_rfl) rfl fun ρ g w R => ?_
  obtain ⟨v1, h2, hM⟩ := bind_some hM
  rcases cond_cases hM with ⟨h3, hM⟩ | ⟨h3, hM⟩
  · obtain ⟨v4, h5, hM⟩ := bind_some hM
    rcases cond_cases hM with ⟨h6, hM⟩ | ⟨h6, hM⟩
    · obtain ⟨v7, h8, hM⟩ := bind_some hM
      obtain ⟨v9, h10, hM⟩ := bind_some hM
      rcases cond_cases hM with ⟨h11, hM⟩ | ⟨h11, hM⟩
      · obtain ⟨v12, h13, hM⟩ := bind_some hM
        have hE : some (!v12) = some r := hM
        have hE := Option.some.inj hE
        subst hE
        exact pr R 9999 [.new 0, .ln (a0.Legs.length), .call false [] (.o (.c (.v (.bool v1)))) [] [], .as 13 true, .call false [] (.o (.c (.v (.bool v4)))) [] [], .as 17 true, .ix (Leg.enc v7), .run 26 (.int .i64 v9), .as 30 true, .call false [] (.o (.c (.v (.bool v12)))) [] []] [] [] [] (And.intro (lenm Leg.enc a0.Legs) (And.intro (spec_l1In_ok a1 0 (w64 ((a0.Legs.length : Int) - 1)) v1 h2) (And.intro h3 (And.intro (spec_l1In_ok a2 0 60 v4 h5) (And.intro h6 (And.intro (gi_map Leg.enc h8) (And.intro (shrM_run (P := Try.prog) (t := 3) (x := .tmp 0) (y := .tmp 0) h10) (And.intro h11 (And.intro (spec_l1Has_ok a0.Off a2 v12 h13) True.intro))))))))) (by kernel_rfl)
      · have hE : some false = some r := hM
        have hE := Option.some.inj hE
        subst hE
        exact pr R 9999 [.new 0, .ln (a0.Legs.length), .call false [] (.o (.c (.v (.bool v1)))) [] [], .as 13 true, .call false [] (.o (.c (.v (.bool v4)))) [] [], .as 17 true, .ix (Leg.enc v7), .run 26 (.int .i64 v9), .as 30 false] [] [] [] (And.intro (lenm Leg.enc a0.Legs) (And.intro (spec_l1In_ok a1 0 (w64 ((a0.Legs.length : Int) - 1)) v1 h2) (And.intro h3 (And.intro (spec_l1In_ok a2 0 60 v4 h5) (And.intro h6 (And.intro (gi_map Leg.enc h8) (And.intro (shrM_run (P := Try.prog) (t := 3) (x := .tmp 0) (y := .tmp 0) h10) (And.intro h11 True.intro)))))))) (by kernel_rfl)
    · have hE : some false = some r := hM
      have hE := Option.some.inj hE
      subst hE
      exact pr R 9999 [.new 0, .ln (a0.Legs.length), .call false [] (.o (.c (.v (.bool v1)))) [] [], .as 13 true, .call false [] (.o (.c (.v (.bool v4)))) [] [], .as 17 false] [] [] [] (And.intro (lenm Leg.enc a0.Legs) (And.intro (spec_l1In_ok a1 0 (w64 ((a0.Legs.length : Int) - 1)) v1 h2) (And.intro h3 (And.intro (spec_l1In_ok a2 0 60 v4 h5) (And.intro h6 True.intro))))) (by kernel_rfl)
  · have hE : some false = some r := hM
    have hE := Option.some.inj hE
    subst hE
    exact pr R 9999 [.new 0, .ln (a0.Legs.length), .call false [] (.o (.c (.v (.bool v1)))) [] [], .as 13 false] [] [] [] (And.intro (lenm Leg.enc a0.Legs) (And.intro (spec_l1In_ok a1 0 (w64 ((a0.Legs.length : Int) - 1)) v1 h2) (And.intro h3 True.intro))) (by kernel_rfl)

-- loop.example/g03014/spec.RunsOn
def spec_RunsOn (a0 : Network) (a1 : Int) (a2 : Int) : Option Bool :=
  (spec_IsNetwork a0).bind fun v1 =>
  bif v1 then
  (spec_l3Runs a0 a1 a2).bind fun v4 =>
  some v4
  else
  some false
theorem spec_RunsOn_ok (a0 : Network) (a1 : Int) (a2 : Int) (r : Bool) (hM : spec_RunsOn a0 a1 a2 = some r) :
    Con Try.prog 109 [.agg [.rs 6 (a0.Legs.map Leg.enc), .rs 1 (a0.Off.map encI), .v (.int .i64 a0.Change)], .c (.v (.int .i64 a1)), .c (.v (.int .i64 a2))] [] (.o (.c (.v (.bool r)))) [] [] := by
  unfold spec_RunsOn at hM
  refine cn (N := 15) (pids := []) Try_mixed Try.func109 (by kernel_rfl) (by kernel_rfl) (by kernel_rfl) rfl fun ρ g w R => ?_
  obtain ⟨v1, h2, hM⟩ := bind_some hM
  rcases cond_cases hM with ⟨h3, hM⟩ | ⟨h3, hM⟩
  · obtain ⟨v4, h5, hM⟩ := bind_some hM
    have hE : some v4 = some r := hM
    have hE := Option.some.inj hE
    subst hE
    exact pr R 9999 [.new 0, .call false [] (.o (.c (.v (.bool v1)))) [] [], .as 9 true, .call false [] (.o (.c (.v (.bool v4)))) [] []] [] [] [] (And.intro (spec_IsNetwork_ok a0 v1 h2) (And.intro h3 (And.intro (spec_l3Runs_ok a0 a1 a2 v4 h5) True.intro))) (by kernel_rfl)
  · have hE : some false = some r := hM
    have hE := Option.some.inj hE
    subst hE
    exact pr R 9999 [.new 0, .call false [] (.o (.c (.v (.bool v1)))) [] [], .as 9 false] [] [] [] (And.intro (spec_IsNetwork_ok a0 v1 h2) (And.intro h3 True.intro)) (by kernel_rfl)

-- loop.example/g03014/spec.IsTrip
def spec_IsTrip (a0 : Network) (a1 : Trip) : Option Bool :=
  (spec_RunsOn a0 a1.Leg a1.Day).bind fun v1 =>
  some v1
theorem spec_IsTrip_ok (a0 : Network) (a1 : Trip) (r : Bool) (hM : spec_IsTrip a0 a1 = some r) :
    Con Try.prog 70 [.agg [.rs 6 (a0.Legs.map Leg.enc), .rs 1 (a0.Off.map encI), .v (.int .i64 a0.Change)], .c (.v (.agg (Trip.enc a1).toArray))] [] (.o (.c (.v (.bool r)))) [] [] := by
  unfold spec_IsTrip at hM
  refine cn (N := 11) (pids := []) Try_mixed Try.func70 (by kernel_rfl) (by kernel_rfl) (by kernel_rfl) rfl fun ρ g w R => ?_
  obtain ⟨v1, h2, hM⟩ := bind_some hM
  have hE : some v1 = some r := hM
  have hE := Option.some.inj hE
  subst hE
  exact pr R 9999 [.new 0, .new 1, .call false [] (.o (.c (.v (.bool v1)))) [] []] [] [] [] (And.intro (spec_RunsOn_ok a0 a1.Leg a1.Day v1 h2) True.intro) (by kernel_rfl)

-- loop.example/g03014/spec.l3Starts
def spec_l3Starts (a0 : Network) (a1 : Trip) : Option Int :=
  (gi a0.Legs a1.Leg).bind fun v1 =>
  some (w64 ((w64 (a1.Day * 1440)) + v1.Start))
theorem spec_l3Starts_ok (a0 : Network) (a1 : Trip) (r : Int) (hM : spec_l3Starts a0 a1 = some r) :
    Con Try.prog 71 [.agg [.rs 6 (a0.Legs.map Leg.enc), .rs 1 (a0.Off.map encI), .v (.int .i64 a0.Change)], .c (.v (.agg (Trip.enc a1).toArray))] [] (.o (.c (.v (.int .i64 r)))) [] [] := by
  unfold spec_l3Starts at hM
  refine cn (N := 16) (pids := []) Try_mixed Try.func71 (by kernel_rfl) (by kernel_rfl) (by kernel_rfl) rfl fun ρ g w R => ?_
  obtain ⟨v1, h2, hM⟩ := bind_some hM
  have hE : some (w64 ((w64 (a1.Day * 1440)) + v1.Start)) = some r := hM
  have hE := Option.some.inj hE
  subst hE
  exact pr R 9999 [.new 0, .new 1, .ix (Leg.enc v1)] [] [] [] (And.intro (gi_map Leg.enc h2) True.intro) (by kernel_rfl)

-- loop.example/g03014/spec.l3Ends
def spec_l3Ends (a0 : Network) (a1 : Trip) : Option Int :=
  (spec_l3Starts a0 a1).bind fun v1 =>
  (gi a0.Legs a1.Leg).bind fun v3 =>
  some (w64 (v1 + v3.Takes))
theorem spec_l3Ends_ok (a0 : Network) (a1 : Trip) (r : Int) (hM : spec_l3Ends a0 a1 = some r) :
    Con Try.prog 72 [.agg [.rs 6 (a0.Legs.map Leg.enc), .rs 1 (a0.Off.map encI), .v (.int .i64 a0.Change)], .c (.v (.agg (Trip.enc a1).toArray))] [] (.o (.c (.v (.int .i64 r)))) [] [] := by
  unfold spec_l3Ends at hM
  refine cn (N := 16) (pids := []) Try_mixed Try.func72 (by kernel_rfl) (by kernel_rfl) (by kernel_rfl) rfl fun ρ g w R => ?_
  obtain ⟨v1, h2, hM⟩ := bind_some hM
  obtain ⟨v3, h4, hM⟩ := bind_some hM
  have hE : some (w64 (v1 + v3.Takes)) = some r := hM
  have hE := Option.some.inj hE
  subst hE
  exact pr R 9999 [.new 0, .new 1, .call false [] (.o (.c (.v (.int .i64 v1)))) [] [], .ix (Leg.enc v3)] [] [] [] (And.intro (spec_l3Starts_ok a0 a1 v1 h2) (And.intro (gi_map Leg.enc h4) True.intro)) (by kernel_rfl)

-- loop.example/g03014/spec.IsWay
def spec_IsWay_L1_b (a0 : Network) (a1 : (List Trip)) (s12 : ByteArray) (s13 : Int) (s14 : Int) : Option (Ctl (ByteArray × Int × Int) ByteArray Bool) :=
  bif (decide (s14 < (a1.length : Int))) then
  (gi a1 s14).bind fun v17 =>
  (spec_IsTrip a0 v17).bind fun v19 =>
  bif (!v19) then
  some (.ret false)
  else
  (gi a1 s14).bind fun v22 =>
  (gi a0.Legs v22.Leg).bind fun v24 =>
  bif (!(v24.From.toList == s12.toList)) then
  some (.ret false)
  else
  (gi a1 s14).bind fun v27 =>
  (spec_l3Starts a0 v27).bind fun v29 =>
  bif (decide (v29 < s13)) then
  some (.ret false)
  else
  (gi a1 s14).bind fun v32 =>
  (gi a0.Legs v32.Leg).bind fun v34 =>
  (gi a1 s14).bind fun v36 =>
  (spec_l3Ends a0 v36).bind fun v38 =>
  some (.next (v34.To, w64 (v38 + a0.Change), w64 (s14 + 1)))
  else
  some (.brk s12)
def spec_IsWay_L1 (a0 : Network) (a1 : (List Trip)) (s : ByteArray × Int × Int) : Option (Ctl (ByteArray × Int × Int) ByteArray Bool) := spec_IsWay_L1_b a0 a1 s.1 s.2.1 s.2.2
def spec_IsWay_L1_s (a0 : Network) (a1 : (List Trip)) (a3 : ByteArray) (s12 : ByteArray) (s13 : Int) (s14 : Int) : St := ⟨[(1, .o (.c (.rs 2 (a1.map Trip.enc)))), (3, .o (.c (.v (.string a3)))), (5, .o (.c (.ptr 0 0))), (12, .o (.c (.v (.string s12)))), (13, .o (.c (.v (.int .i64 s13)))), (14, .o (.c (.v (.int .i64 s14))))], [(0, .box 32 [.rs 6 (a0.Legs.map Leg.enc), .rs 1 (a0.Off.map encI), .v (.int .i64 a0.Change)])]⟩
def spec_IsWay_L1_S (a0 : Network) (a1 : (List Trip)) (a3 : ByteArray) (s : ByteArray × Int × Int) : St := spec_IsWay_L1_s a0 a1 a3 s.1 s.2.1 s.2.2
def spec_IsWay_L1_a (a3 : ByteArray) (s15 : ByteArray) : Option Bool :=
  some (s15.toList == a3.toList)
def spec_IsWay_L1_k (a3 : ByteArray) (x : (ByteArray) ⊕ (Bool)) : Option Bool := match x with
  | .inl t => spec_IsWay_L1_a a3 t
  | .inr y => some y
def spec_IsWay (a0 : Network) (a1 : (List Trip)) (a2 : ByteArray) (a3 : ByteArray) (a4 : Int) : Option Bool :=
  (spec_PlacesOf a0).bind fun v1 =>
  (spec_IsNetwork a0).bind fun v3 =>
  bif (!v3) then
  some false
  else
  (spec_l4Index v1 a2).bind fun v6 =>
  bif (decide (v6 < 0)) then
  some false
  else
  (spec_l4Index v1 a3).bind fun v9 =>
  bif (decide (v9 < 0)) then
  some false
  else
  (loopM (spec_IsWay_L1 a0 a1) big (a2, a4, 0)).bind (spec_IsWay_L1_k a3)
theorem spec_IsWay_ok (a0 : Network) (a1 : (List Trip)) (a2 : ByteArray) (a3 : ByteArray) (a4 : Int) (r : Bool) (hM : spec_IsWay a0 a1 a2 a3 a4 = some r) :
    Con Try.prog 23 [.agg [.rs 6 (a0.Legs.map Leg.enc), .rs 1 (a0.Off.map encI), .v (.int .i64 a0.Change)], .c (.rs 2 (a1.map Trip.enc)), .c (.v (.string a2)), .c (.v (.string a3)), .c (.v (.int .i64 a4))] [] (.o (.c (.v (.bool r)))) [] [] := by
  unfold spec_IsWay at hM
  refine cn (N := 93) (pids := []) Try_mixed Try.func23 (by kernel_rfl) (by kernel_rfl) (by kernel_rfl) rfl fun ρ g w R => ?_
  obtain ⟨v1, h2, hM⟩ := bind_some hM
  obtain ⟨v3, h4, hM⟩ := bind_some hM
  rcases cond_cases hM with ⟨h5, hM⟩ | ⟨h5, hM⟩
  · have hE : some false = some r := hM
    have hE := Option.some.inj hE
    subst hE
    exact pr R 9999 [.new 0, .call false [] (.o (.c (.sl 1))) [] [(1, .row 9 1 (v1.map encS))], .call false [] (.o (.c (.v (.bool v3)))) [] [], .as 20 true] [] [] [] (And.intro (And.intro (con_sw 1000 1 (spec_PlacesOf_ok a0 v1 h2)) (rfl : ([] : List Nat) = [])) (And.intro (spec_IsNetwork_ok a0 v3 h4) (And.intro h5 True.intro))) (by kernel_rfl)
  · obtain ⟨v6, h7, hM⟩ := bind_some hM
    rcases cond_cases hM with ⟨h8, hM⟩ | ⟨h8, hM⟩
    · have hE : some false = some r := hM
      have hE := Option.some.inj hE
      subst hE
      exact pr R 9999 [.new 0, .call false [] (.o (.c (.sl 1))) [] [(1, .row 9 1 (v1.map encS))], .call false [] (.o (.c (.v (.bool v3)))) [] [], .as 20 false, .call false [] (.o (.c (.v (.int .i64 v6)))) [] [], .as 26 true] [] [] [] (And.intro (And.intro (con_sw 1000 1 (spec_PlacesOf_ok a0 v1 h2)) (rfl : ([] : List Nat) = [])) (And.intro (spec_IsNetwork_ok a0 v3 h4) (And.intro h5 (And.intro (spec_l4Index_ok v1 a2 v6 h7) (And.intro h8 True.intro))))) (by kernel_rfl)
    · obtain ⟨v9, h10, hM⟩ := bind_some hM
      rcases cond_cases hM with ⟨h11, hM⟩ | ⟨h11, hM⟩
      · have hE : some false = some r := hM
        have hE := Option.some.inj hE
        subst hE
        exact pr R 9999 [.new 0, .call false [] (.o (.c (.sl 1))) [] [(1, .row 9 1 (v1.map encS))], .call false [] (.o (.c (.v (.bool v3)))) [] [], .as 20 false, .call false [] (.o (.c (.v (.int .i64 v6)))) [] [], .as 26 false, .call false [] (.o (.c (.v (.int .i64 v9)))) [] [], .as 31 true] [] [] [] (And.intro (And.intro (con_sw 1000 1 (spec_PlacesOf_ok a0 v1 h2)) (rfl : ([] : List Nat) = [])) (And.intro (spec_IsNetwork_ok a0 v3 h4) (And.intro h5 (And.intro (spec_l4Index_ok v1 a2 v6 h7) (And.intro h8 (And.intro (spec_l4Index_ok v1 a3 v9 h10) (And.intro h11 True.intro))))))) (by kernel_rfl)
      · have K1 : ∀ (s15 : ByteArray), spec_IsWay_L1_a a3 s15 = some r → Gr R [.code (cAt Try.f23 [1, 1, 1, 1, 1, 1])] (⟨[(3, .o (.c (.v (.string a3)))), (12, .o (.c (.v (.string s15))))], []⟩) := by
          intro s15 hM
          unfold spec_IsWay_L1_a at hM
          have hE : some (s15.toList == a3.toList) = some r := hM
          have hE := Option.some.inj hE
          subst hE
          exact pr R 9999 [] [] [] [] True.intro (by kernel_rfl)
        refine pc R 9999 [.new 0, .call false [] (.o (.c (.sl 1))) [] [(1, .row 9 1 (v1.map encS))], .call false [] (.o (.c (.v (.bool v3)))) [] [], .as 20 false, .call false [] (.o (.c (.v (.int .i64 v6)))) [] [], .as 26 false, .call false [] (.o (.c (.v (.int .i64 v9)))) [] [], .as 31 false] [.keep [1, 3, 5, 12, 13, 14] [0]] (k' := [.code (.loop (cAt Try.f23 [1, 1, 1, 1, 1, 0, 1, 0, 0])), .blk 0, .code (cAt Try.f23 [1, 1, 1, 1, 1, 1])]) (S' := spec_IsWay_L1_S a0 a1 a3 (a2, a4, 0)) (And.intro (And.intro (con_sw 1000 1 (spec_PlacesOf_ok a0 v1 h2)) (rfl : ([] : List Nat) = [])) (And.intro (spec_IsNetwork_ok a0 v3 h4) (And.intro h5 (And.intro (spec_l4Index_ok v1 a2 v6 h7) (And.intro h8 (And.intro (spec_l4Index_ok v1 a3 v9 h10) (And.intro h11 True.intro))))))) (by kernel_rfl) ?_
        refine lq (spec_IsWay_L1_S a0 a1 a3) (body := spec_IsWay_L1 a0 a1) (k := spec_IsWay_L1_k a3) hM fun m1 s c1 hM hK1 => ?_
        obtain ⟨s12, s13, s14⟩ := s
        have hM : spec_IsWay_L1_b a0 a1 s12 s13 s14 = some c1 := hM
        unfold spec_IsWay_L1_b at hM
        rcases cond_cases hM with ⟨h16, hM⟩ | ⟨h16, hM⟩
        · obtain ⟨v17, h18, hM⟩ := bind_some hM
          obtain ⟨v19, h20, hM⟩ := bind_some hM
          rcases cond_cases hM with ⟨h21, hM⟩ | ⟨h21, hM⟩
          · have hE : some (Ctl.ret false) = some c1 := hM
            have hE := Option.some.inj hE
            subst hE
            have hE : some false = some r := hK1
            have hE := Option.some.inj hE
            subst hE
            exact pr R 9999 [.ln (a1.length), .as 37 true, .ix (Trip.enc v17), .call false [] (.o (.c (.v (.bool v19)))) [] [], .as 47 true] [] [] [] (And.intro (lenm Trip.enc a1) (And.intro h16 (And.intro (gi_map Trip.enc h18) (And.intro (spec_IsTrip_ok a0 v17 v19 h20) (And.intro h21 True.intro))))) (by kernel_rfl)
          · obtain ⟨v22, h23, hM⟩ := bind_some hM
            obtain ⟨v24, h25, hM⟩ := bind_some hM
            rcases cond_cases hM with ⟨h26, hM⟩ | ⟨h26, hM⟩
            · have hE : some (Ctl.ret false) = some c1 := hM
              have hE := Option.some.inj hE
              subst hE
              have hE : some false = some r := hK1
              have hE := Option.some.inj hE
              subst hE
              exact pr R 9999 [.ln (a1.length), .as 37 true, .ix (Trip.enc v17), .call false [] (.o (.c (.v (.bool v19)))) [] [], .as 47 false, .ix (Trip.enc v22), .ix (Leg.enc v24), .as 61 true] [] [] [] (And.intro (lenm Trip.enc a1) (And.intro h16 (And.intro (gi_map Trip.enc h18) (And.intro (spec_IsTrip_ok a0 v17 v19 h20) (And.intro h21 (And.intro (gi_map Trip.enc h23) (And.intro (gi_map Leg.enc h25) (And.intro h26 True.intro)))))))) (by kernel_rfl)
            · obtain ⟨v27, h28, hM⟩ := bind_some hM
              obtain ⟨v29, h30, hM⟩ := bind_some hM
              rcases cond_cases hM with ⟨h31, hM⟩ | ⟨h31, hM⟩
              · have hE : some (Ctl.ret false) = some c1 := hM
                have hE := Option.some.inj hE
                subst hE
                have hE : some false = some r := hK1
                have hE := Option.some.inj hE
                subst hE
                exact pr R 9999 [.ln (a1.length), .as 37 true, .ix (Trip.enc v17), .call false [] (.o (.c (.v (.bool v19)))) [] [], .as 47 false, .ix (Trip.enc v22), .ix (Leg.enc v24), .as 61 false, .ix (Trip.enc v27), .call false [] (.o (.c (.v (.int .i64 v29)))) [] [], .as 70 true] [] [] [] (And.intro (lenm Trip.enc a1) (And.intro h16 (And.intro (gi_map Trip.enc h18) (And.intro (spec_IsTrip_ok a0 v17 v19 h20) (And.intro h21 (And.intro (gi_map Trip.enc h23) (And.intro (gi_map Leg.enc h25) (And.intro h26 (And.intro (gi_map Trip.enc h28) (And.intro (spec_l3Starts_ok a0 v27 v29 h30) (And.intro h31 True.intro))))))))))) (by kernel_rfl)
              · obtain ⟨v32, h33, hM⟩ := bind_some hM
                obtain ⟨v34, h35, hM⟩ := bind_some hM
                obtain ⟨v36, h37, hM⟩ := bind_some hM
                obtain ⟨v38, h39, hM⟩ := bind_some hM
                have hE : some (Ctl.next (v34.To, w64 (v38 + a0.Change), w64 (s14 + 1))) = some c1 := hM
                have hE := Option.some.inj hE
                subst hE
                exact pc R 9999 [.ln (a1.length), .as 37 true, .ix (Trip.enc v17), .call false [] (.o (.c (.v (.bool v19)))) [] [], .as 47 false, .ix (Trip.enc v22), .ix (Leg.enc v24), .as 61 false, .ix (Trip.enc v27), .call false [] (.o (.c (.v (.int .i64 v29)))) [] [], .as 70 false, .ix (Trip.enc v32), .ix (Leg.enc v34), .ix (Trip.enc v36), .call false [] (.o (.c (.v (.int .i64 v38)))) [] []] [.keep [1, 3, 5, 12, 13, 14] [0]] (And.intro (lenm Trip.enc a1) (And.intro h16 (And.intro (gi_map Trip.enc h18) (And.intro (spec_IsTrip_ok a0 v17 v19 h20) (And.intro h21 (And.intro (gi_map Trip.enc h23) (And.intro (gi_map Leg.enc h25) (And.intro h26 (And.intro (gi_map Trip.enc h28) (And.intro (spec_l3Starts_ok a0 v27 v29 h30) (And.intro h31 (And.intro (gi_map Trip.enc h33) (And.intro (gi_map Leg.enc h35) (And.intro (gi_map Trip.enc h37) (And.intro (spec_l3Ends_ok a0 v36 v38 h39) True.intro))))))))))))))) (by kernel_rfl) (li (Sf := spec_IsWay_L1_S a0 a1 a3) (M := Mk (spec_IsWay_L1 a0 a1) (spec_IsWay_L1_k a3) r) (k := [.blk 0, .code (cAt Try.f23 [1, 1, 1, 1, 1, 1])]) (Nat.lt_succ_self m1) hK1)
        · have hE : some (Ctl.brk s12) = some c1 := hM
          have hE := Option.some.inj hE
          subst hE
          exact pc R 5 [.ln (a1.length), .as 37 false] [.keep [3, 12] []] (And.intro (lenm Trip.enc a1) (And.intro h16 True.intro)) (by kernel_rfl) (K1 s12 hK1)

-- math/bits.Len64
def bits_Len64_j2 (s3 : Int) (s4 : Int) : Option Int :=
  bif (decide (s3 ≥ 256)) then
  (siM (ByteArray.mk #[0, 1, 2, 2, 3, 3, 3, 3, 4, 4, 4, 4, 4, 4, 4, 4, 5, 5, 5, 5, 5, 5, 5, 5, 5, 5, 5, 5, 5, 5, 5, 5, 6, 6, 6, 6, 6, 6, 6, 6, 6, 6, 6, 6, 6, 6, 6, 6, 6, 6, 6, 6, 6, 6, 6, 6, 6, 6, 6, 6, 6, 6, 6, 6, 7, 7, 7, 7, 7, 7, 7, 7, 7, 7, 7, 7, 7, 7, 7, 7, 7, 7, 7, 7, 7, 7, 7, 7, 7, 7, 7, 7, 7, 7, 7, 7, 7, 7, 7, 7, 7, 7, 7, 7, 7, 7, 7, 7, 7, 7, 7, 7, 7, 7, 7, 7, 7, 7, 7, 7, 7, 7, 7, 7, 7, 7, 7, 7, 8, 8, 8, 8, 8, 8, 8, 8, 8, 8, 8, 8, 8, 8, 8, 8, 8, 8, 8, 8, 8, 8, 8, 8, 8, 8, 8, 8, 8, 8, 8, 8, 8, 8, 8, 8, 8, 8, 8, 8, 8, 8, 8, 8, 8, 8, 8, 8, 8, 8, 8, 8, 8, 8, 8, 8, 8, 8, 8, 8, 8, 8, 8, 8, 8, 8, 8, 8, 8, 8, 8, 8, 8, 8, 8, 8, 8, 8, 8, 8, 8, 8, 8, 8, 8, 8, 8, 8, 8, 8, 8, 8, 8, 8, 8, 8, 8, 8, 8, 8, 8, 8, 8, 8, 8, 8, 8, 8, 8, 8, 8, 8, 8, 8, 8, 8, 8, 8, 8, 8, 8, 8, 8, 8, 8, 8, 8, 8]) (IntKind.u8.wrap (Int.fdiv s3 (2 ^ 8)))).bind fun v6 =>
  some (w64 ((w64 (s4 + 8)) + (w64 v6)))
  else
  (siM (ByteArray.mk #[0, 1, 2, 2, 3, 3, 3, 3, 4, 4, 4, 4, 4, 4, 4, 4, 5, 5, 5, 5, 5, 5, 5, 5, 5, 5, 5, 5, 5, 5, 5, 5, 6, 6, 6, 6, 6, 6, 6, 6, 6, 6, 6, 6, 6, 6, 6, 6, 6, 6, 6, 6, 6, 6, 6, 6, 6, 6, 6, 6, 6, 6, 6, 6, 7, 7, 7, 7, 7, 7, 7, 7, 7, 7, 7, 7, 7, 7, 7, 7, 7, 7, 7, 7, 7, 7, 7, 7, 7, 7, 7, 7, 7, 7, 7, 7, 7, 7, 7, 7, 7, 7, 7, 7, 7, 7, 7, 7, 7, 7, 7, 7, 7, 7, 7, 7, 7, 7, 7, 7, 7, 7, 7, 7, 7, 7, 7, 7, 8, 8, 8, 8, 8, 8, 8, 8, 8, 8, 8, 8, 8, 8, 8, 8, 8, 8, 8, 8, 8, 8, 8, 8, 8, 8, 8, 8, 8, 8, 8, 8, 8, 8, 8, 8, 8, 8, 8, 8, 8, 8, 8, 8, 8, 8, 8, 8, 8, 8, 8, 8, 8, 8, 8, 8, 8, 8, 8, 8, 8, 8, 8, 8, 8, 8, 8, 8, 8, 8, 8, 8, 8, 8, 8, 8, 8, 8, 8, 8, 8, 8, 8, 8, 8, 8, 8, 8, 8, 8, 8, 8, 8, 8, 8, 8, 8, 8, 8, 8, 8, 8, 8, 8, 8, 8, 8, 8, 8, 8, 8, 8, 8, 8, 8, 8, 8, 8, 8, 8, 8, 8, 8, 8, 8, 8, 8, 8]) (IntKind.u8.wrap s3)).bind fun v8 =>
  some (w64 (s4 + (w64 v8)))
def bits_Len64_j1 (s1 : Int) (s2 : Int) : Option Int :=
  bif (decide (s1 ≥ 65536)) then
  bits_Len64_j2 (Int.fdiv s1 (2 ^ 16)) (w64 (s2 + 16))
  else
  bits_Len64_j2 s1 s2
def bits_Len64 (a0 : Int) : Option Int :=
  bif (decide (a0 ≥ 4294967296)) then
  bits_Len64_j1 (Int.fdiv a0 (2 ^ 32)) 32
  else
  bits_Len64_j1 a0 0
theorem bits_Len64_ok (a0 : Int) (r : Int) (hM : bits_Len64 a0 = some r) :
    Con Try.prog 153 [.c (.v (.int .u64 a0))] [] (.o (.c (.v (.int .i64 r)))) [] [] := by
  unfold bits_Len64 at hM
  refine cn (N := 25) (pids := []) Try_mixed Try.func153 (by kernel_rfl) (by kernel_rfl) (by kernel_rfl) rfl fun ρ g w R => ?_
  have J2 : ∀ (s1 : Int) (s2 : Int), bits_Len64_j1 s1 s2 = some r → Gr R [.code (cAt Try.f153 [1, 1])] (⟨[(0, .o (.c (.v (.int .u64 s1)))), (2, .o (.c (.v (.int .i64 s2))))], []⟩) := by
    intro s1 s2 hM
    unfold bits_Len64_j1 at hM
    have J2 : ∀ (s3 : Int) (s4 : Int), bits_Len64_j2 s3 s4 = some r → Gr R [.code (cAt Try.f153 [1, 1, 1])] (⟨[(0, .o (.c (.v (.int .u64 s3)))), (2, .o (.c (.v (.int .i64 s4))))], []⟩) := by
      intro s3 s4 hM
      unfold bits_Len64_j2 at hM
      rcases cond_cases hM with ⟨h5, hM⟩ | ⟨h5, hM⟩
      · obtain ⟨v6, h7, hM⟩ := bind_some hM
        have hE : some (w64 ((w64 (s4 + 8)) + (w64 v6))) = some r := hM
        have hE := Option.some.inj hE
        subst hE
        exact pr R 9999 [.as 14 true, .ix [.int .u8 v6]] [] [] [] (And.intro h5 (And.intro (siM_ok h7) True.intro)) (by kernel_rfl)
      · obtain ⟨v8, h9, hM⟩ := bind_some hM
        have hE : some (w64 (s4 + (w64 v8))) = some r := hM
        have hE := Option.some.inj hE
        subst hE
        exact pr R 9999 [.as 14 false, .ix [.int .u8 v8]] [] [] [] (And.intro h5 (And.intro (siM_ok h9) True.intro)) (by kernel_rfl)
    rcases cond_cases hM with ⟨h10, hM⟩ | ⟨h10, hM⟩
    · exact pc R 7 [.as 8 true] [.keep [0, 2] []] (And.intro h10 True.intro) (by kernel_rfl) (J2 (Int.fdiv s1 (2 ^ 16)) (w64 (s2 + 16)) hM)
    · exact pc R 5 [.as 8 false] [.keep [0, 2] []] (And.intro h10 True.intro) (by kernel_rfl) (J2 s1 s2 hM)
  rcases cond_cases hM with ⟨h11, hM⟩ | ⟨h11, hM⟩
  · exact pc R 9 [.as 4 true] [.keep [0, 2] []] (And.intro h11 True.intro) (by kernel_rfl) (J2 (Int.fdiv a0 (2 ^ 32)) 32 hM)
  · exact pc R 7 [.as 4 false] [.keep [0, 2] []] (And.intro h11 True.intro) (by kernel_rfl) (J2 a0 0 hM)

-- math/bits.Len
def bits_Len (a0 : Int) : Option Int :=
  (bits_Len64 a0).bind fun v1 =>
  some v1
theorem bits_Len_ok (a0 : Int) (r : Int) (hM : bits_Len a0 = some r) :
    Con Try.prog 141 [.c (.v (.int .u64 a0))] [] (.o (.c (.v (.int .i64 r)))) [] [] := by
  unfold bits_Len at hM
  refine cn (N := 8) (pids := []) Try_mixed Try.func141 (by kernel_rfl) (by kernel_rfl) (by kernel_rfl) rfl fun ρ g w R => ?_
  obtain ⟨v1, h2, hM⟩ := bind_some hM
  have hE : some v1 = some r := hM
  have hE := Option.some.inj hE
  subst hE
  exact pr R 9999 [.call false [] (.o (.c (.v (.int .i64 v1)))) [] []] [] [] [] (And.intro (bits_Len64_ok a0 v1 h2) True.intro) (by kernel_rfl)

-- slices.insertionSortOrdered[string]
def slices_insertionSortOrdered_string__at0nil_10_20_L1_b : Option (Ctl Unit Unit Unit) :=
  some (.brk ())
def slices_insertionSortOrdered_string__at0nil_10_20_L1 (s : Unit) : Option (Ctl Unit Unit Unit) := slices_insertionSortOrdered_string__at0nil_10_20_L1_b
def slices_insertionSortOrdered_string__at0nil_10_20_L1_s : St := ⟨[(0, .o (.c (.v (.slice none 0 0)))), (1, .o (.c (.v (.int .i64 0)))), (2, .o (.c (.v (.int .i64 0)))), (6, .o (.c (.v (.int .i64 1))))], []⟩
def slices_insertionSortOrdered_string__at0nil_10_20_L1_S (s : Unit) : St := slices_insertionSortOrdered_string__at0nil_10_20_L1_s
def slices_insertionSortOrdered_string__at0nil_10_20_L1_a : Option Unit :=
  some ()
def slices_insertionSortOrdered_string__at0nil_10_20_L1_k (x : (Unit) ⊕ (Unit)) : Option Unit := match x with
  | .inl t => slices_insertionSortOrdered_string__at0nil_10_20_L1_a
  | .inr y => some y
def slices_insertionSortOrdered_string__at0nil_10_20 : Option Unit :=
  (loopM (slices_insertionSortOrdered_string__at0nil_10_20_L1) big ()).bind (slices_insertionSortOrdered_string__at0nil_10_20_L1_k)
theorem slices_insertionSortOrdered_string__at0nil_10_20_ok (r : Unit) (hM : slices_insertionSortOrdered_string__at0nil_10_20 = some r) :
    Con Try.prog 143 [.c (.v (.slice none 0 0)), .c (.v (.int .i64 0)), .c (.v (.int .i64 0))] [] (.tup []) [] [] := by
  unfold slices_insertionSortOrdered_string__at0nil_10_20 at hM
  refine cn (N := 49) (pids := []) Try_mixed Try.func143 (by kernel_rfl) (by kernel_rfl) (by kernel_rfl) rfl fun ρ g w R => ?_
  have K1 : ∀ (_ : Unit), slices_insertionSortOrdered_string__at0nil_10_20_L1_a = some r → Gr R [] (⟨[], []⟩) := by
    intro _ hM
    unfold slices_insertionSortOrdered_string__at0nil_10_20_L1_a at hM
    have hE : some () = some r := hM
    have hE := Option.some.inj hE
    subst hE
    exact pr R 9999 [] [] [] [] True.intro (by kernel_rfl)
  refine pc R 9999 [] [.keep [0, 1, 2, 6] []] (k' := [.code (.loop (cAt Try.f143 [1, 0, 0])), .blk 0]) (S' := slices_insertionSortOrdered_string__at0nil_10_20_L1_S ()) True.intro (by kernel_rfl) ?_
  refine lq (slices_insertionSortOrdered_string__at0nil_10_20_L1_S) (body := slices_insertionSortOrdered_string__at0nil_10_20_L1) (k := slices_insertionSortOrdered_string__at0nil_10_20_L1_k) hM fun m1 s c1 hM hK1 => ?_
  have hM : slices_insertionSortOrdered_string__at0nil_10_20_L1_b = some c1 := hM
  unfold slices_insertionSortOrdered_string__at0nil_10_20_L1_b at hM
  have hE : some (Ctl.brk ()) = some c1 := hM
  have hE := Option.some.inj hE
  subst hE
  exact pc R 5 [] [.keep [] []] True.intro (by kernel_rfl) (K1 () hK1)

-- slices.pdqsortOrdered[string]
def slices_pdqsortOrdered_string__at0nil_10_20_L1_b : Option (Ctl Unit Unit Unit) :=
  (slices_insertionSortOrdered_string__at0nil_10_20).bind fun v1 =>
  some (.ret ())
def slices_pdqsortOrdered_string__at0nil_10_20_L1 (s : Unit) : Option (Ctl Unit Unit Unit) := slices_pdqsortOrdered_string__at0nil_10_20_L1_b
def slices_pdqsortOrdered_string__at0nil_10_20_L1_s (a3 : Int) : St := ⟨[(0, .o (.c (.v (.slice none 0 0)))), (1, .o (.c (.v (.int .i64 0)))), (2, .o (.c (.v (.int .i64 0)))), (3, .o (.c (.v (.int .i64 a3)))), (8, .o (.c (.v (.bool true)))), (9, .o (.c (.v (.bool true))))], []⟩
def slices_pdqsortOrdered_string__at0nil_10_20_L1_S (a3 : Int) (s : Unit) : St := slices_pdqsortOrdered_string__at0nil_10_20_L1_s a3
def slices_pdqsortOrdered_string__at0nil_10_20_L1_k (x : Unit ⊕ (Unit)) : Option Unit := match x with
  | .inl _ => none
  | .inr y => some y
def slices_pdqsortOrdered_string__at0nil_10_20_F (self : Int → Option Unit) (a3 : Int) : Option Unit :=
  (loopM (slices_pdqsortOrdered_string__at0nil_10_20_L1) big ()).bind (slices_pdqsortOrdered_string__at0nil_10_20_L1_k)
def slices_pdqsortOrdered_string__at0nil_10_20_n : Nat → Int → Option Unit
  | 0, _ => none
  | n + 1, a3 => slices_pdqsortOrdered_string__at0nil_10_20_F (slices_pdqsortOrdered_string__at0nil_10_20_n n) a3
def slices_pdqsortOrdered_string__at0nil_10_20 (a3 : Int) : Option Unit := slices_pdqsortOrdered_string__at0nil_10_20_n big a3
theorem slices_pdqsortOrdered_string__at0nil_10_20_step (self : Int → Option Unit) (ih : ∀ (a3 : Int) (r : Unit), self a3 = some r →
    Con Try.prog 140 [.c (.v (.slice none 0 0)), .c (.v (.int .i64 0)), .c (.v (.int .i64 0)), .c (.v (.int .i64 a3))] [] (.tup []) [] [])
     (a3 : Int) (r : Unit) (hM : slices_pdqsortOrdered_string__at0nil_10_20_F self a3 = some r) :
    Con Try.prog 140 [.c (.v (.slice none 0 0)), .c (.v (.int .i64 0)), .c (.v (.int .i64 0)), .c (.v (.int .i64 a3))] [] (.tup []) [] [] := by
  unfold slices_pdqsortOrdered_string__at0nil_10_20_F at hM
  refine cn (N := 134) (pids := []) Try_mixed Try.func140 (by kernel_rfl) (by kernel_rfl) (by kernel_rfl) rfl fun ρ g w R => ?_
  refine pc R 9999 [] [.keep [0, 1, 2, 3, 8, 9] []] (k' := [.code (.loop (cAt Try.f140 [1, 1, 0, 0])), .blk 0]) (S' := slices_pdqsortOrdered_string__at0nil_10_20_L1_S a3 ()) True.intro (by kernel_rfl) ?_
  refine lq (slices_pdqsortOrdered_string__at0nil_10_20_L1_S a3) (body := slices_pdqsortOrdered_string__at0nil_10_20_L1) (k := slices_pdqsortOrdered_string__at0nil_10_20_L1_k) hM fun m1 s c1 hM hK1 => ?_
  have hM : slices_pdqsortOrdered_string__at0nil_10_20_L1_b = some c1 := hM
  unfold slices_pdqsortOrdered_string__at0nil_10_20_L1_b at hM
  obtain ⟨v1, h2, hM⟩ := bind_some hM
  have hE : some (Ctl.ret ()) = some c1 := hM
  have hE := Option.some.inj hE
  subst hE
  have hE : some () = some r := hK1
  have hE := Option.some.inj hE
  subst hE
  exact pr R 9999 [.call false [] (.tup []) [] []] [] [] [] (And.intro (slices_insertionSortOrdered_string__at0nil_10_20_ok v1 h2) True.intro) (by kernel_rfl)
theorem slices_pdqsortOrdered_string__at0nil_10_20_nok : ∀ (n : Nat) (a3 : Int) (r : Unit), slices_pdqsortOrdered_string__at0nil_10_20_n n a3 = some r →
    Con Try.prog 140 [.c (.v (.slice none 0 0)), .c (.v (.int .i64 0)), .c (.v (.int .i64 0)), .c (.v (.int .i64 a3))] [] (.tup []) [] []
  | 0, _, _, h => by cases h
  | n + 1, a3, r, h => slices_pdqsortOrdered_string__at0nil_10_20_step (slices_pdqsortOrdered_string__at0nil_10_20_n n) (slices_pdqsortOrdered_string__at0nil_10_20_nok n) a3 r h
theorem slices_pdqsortOrdered_string__at0nil_10_20_ok (a3 : Int) (r : Unit) (h : slices_pdqsortOrdered_string__at0nil_10_20 a3 = some r) :
    Con Try.prog 140 [.c (.v (.slice none 0 0)), .c (.v (.int .i64 0)), .c (.v (.int .i64 0)), .c (.v (.int .i64 a3))] [] (.tup []) [] [] := slices_pdqsortOrdered_string__at0nil_10_20_nok big a3 r h

-- slices.Sort[[]string,string]
def slices_Sort___string_string__at0nil : Option Unit :=
  (bits_Len 0).bind fun v1 =>
  (slices_pdqsortOrdered_string__at0nil_10_20 v1).bind fun v3 =>
  some ()
theorem slices_Sort___string_string__at0nil_ok (r : Unit) (hM : slices_Sort___string_string__at0nil = some r) :
    Con Try.prog 127 [.c (.v (.slice none 0 0))] [] (.tup []) [] [] := by
  unfold slices_Sort___string_string__at0nil at hM
  refine cn (N := 11) (pids := []) Try_mixed Try.func127 (by kernel_rfl) (by kernel_rfl) (by kernel_rfl) rfl fun ρ g w R => ?_
  obtain ⟨v1, h2, hM⟩ := bind_some hM
  obtain ⟨v3, h4, hM⟩ := bind_some hM
  have hE : some () = some r := hM
  have hE := Option.some.inj hE
  subst hE
  exact pr R 9999 [.ad (.nr 3 1), .ln 0, .call false [] (.o (.c (.v (.int .i64 v1)))) [] [], .call false [] (.tup []) [] []] [] [] [] (And.intro (rfl : ([] : List (List Value)).length = 0) (And.intro (bits_Len_ok 0 v1 h2) (And.intro (slices_pdqsortOrdered_string__at0nil_10_20_ok v1 v3 h4) True.intro))) (by kernel_rfl)

-- sort.Strings
def sort_Strings_at0nil : Option Unit :=
  (slices_Sort___string_string__at0nil).bind fun v1 =>
  some ()
theorem sort_Strings_at0nil_ok (r : Unit) (hM : sort_Strings_at0nil = some r) :
    Con Try.prog 110 [.c (.v (.slice none 0 0))] [] (.tup []) [] [] := by
  unfold sort_Strings_at0nil at hM
  refine cn (N := 4) (pids := []) Try_mixed Try.func110 (by kernel_rfl) (by kernel_rfl) (by kernel_rfl) rfl fun ρ g w R => ?_
  obtain ⟨v1, h2, hM⟩ := bind_some hM
  have hE : some () = some r := hM
  have hE := Option.some.inj hE
  subst hE
  exact pr R 9999 [.call false [] (.tup []) [] []] [] [] [] (And.intro (slices_Sort___string_string__at0nil_ok v1 h2) True.intro) (by kernel_rfl)

-- sort.Strings
def sort_Strings (a0 : List ByteArray) : Option (List ByteArray) := if a0.length < 4611686018427387904 then some (sortB a0) else none
theorem sort_Strings_ok (a0 : List ByteArray) (r : List ByteArray) (hM : sort_Strings a0 = some r) :
    Con Try.prog 110 [.c (.sl 900)] [(900, .row 9 1 (a0.map encS))] (.tup []) [(900, .row 9 1 (r.map encS))] [] := by
  unfold sort_Strings at hM
  split at hM
  · rename_i h
    have hE := Option.some.inj hM
    subst hE
    exact con_sort Try.lays192 (by rfl) (sort_Strings_at0nil_ok () (by kernel_rfl)) a0 h
  · cases hM


-- loop.example/g03014/impl.PlacesOf
def impl_PlacesOf_L2_b (v8 : Leg) (s10 : (List ByteArray)) (s11 : (List ByteArray)) (s12 : Int) : Option (Ctl ((List ByteArray) × (List ByteArray) × Int) ((List ByteArray) × (List ByteArray)) (List ByteArray)) :=
  bif (decide (s12 < (([v8.From, v8.To] : List ByteArray).length : Int))) then
  (gi ([v8.From, v8.To] : List ByteArray) s12).bind fun v16 =>
  bif (!(memB v16 s10)) then
  (ap 16 s11 ([v16] : List ByteArray)).bind fun v19 =>
  some (.next (putB v16 s10, v19, w64 (s12 + 1)))
  else
  some (.next (s10, s11, w64 (s12 + 1)))
  else
  some (.brk (s10, s11))
def impl_PlacesOf_L2 (v8 : Leg) (s : (List ByteArray) × (List ByteArray) × Int) : Option (Ctl ((List ByteArray) × (List ByteArray) × Int) ((List ByteArray) × (List ByteArray)) (List ByteArray)) := impl_PlacesOf_L2_b v8 s.1 s.2.1 s.2.2
def impl_PlacesOf_L2_s (a0 : Network) (s3 : Int) (v8 : Leg) (s10 : (List ByteArray)) (s11 : (List ByteArray)) (s12 : Int) : St := ⟨[(3, .o (.c (.sl 1))), (4, .o (.c (.sl 2))), (12, .o (.c (.rs 6 (a0.Legs.map Leg.enc)))), (13, .o (.c (.v (.int .i64 (a0.Legs.length : Int))))), (14, .o (.c (.v (.int .i64 s3)))), (22, .o (.c (.sl 4))), (23, .o (.c (.v (.int .i64 (([v8.From, v8.To] : List ByteArray).length : Int))))), (24, .o (.c (.v (.int .i64 s12))))], [(1, .smap 9 4 s10), (2, .row 9 1 (s11.map encS)), (4, .row 9 1 (([v8.From, v8.To] : List ByteArray).map encS))]⟩
def impl_PlacesOf_L2_S (a0 : Network) (s3 : Int) (v8 : Leg) (s : (List ByteArray) × (List ByteArray) × Int) : St := impl_PlacesOf_L2_s a0 s3 v8 s.1 s.2.1 s.2.2
def impl_PlacesOf_L2_a (s3 : Int) (s13 : (List ByteArray)) (s14 : (List ByteArray)) : Option (Ctl ((List ByteArray) × (List ByteArray) × Int) (List ByteArray) (List ByteArray)) :=
  some (.next (s13, s14, w64 (s3 + 1)))
def impl_PlacesOf_L2_k (s3 : Int) (x : ((List ByteArray) × (List ByteArray)) ⊕ ((List ByteArray))) : Option (Ctl ((List ByteArray) × (List ByteArray) × Int) (List ByteArray) (List ByteArray)) := match x with
  | .inl t => impl_PlacesOf_L2_a s3 t.1 t.2
  | .inr y => some (.ret y)
def impl_PlacesOf_L1_b (a0 : Network) (s1 : (List ByteArray)) (s2 : (List ByteArray)) (s3 : Int) : Option (Ctl ((List ByteArray) × (List ByteArray) × Int) (List ByteArray) (List ByteArray)) :=
  bif (decide (s3 < (a0.Legs.length : Int))) then
  (gi a0.Legs s3).bind fun v8 =>
  (loopM (impl_PlacesOf_L2 v8) big (s1, s2, 0)).bind (impl_PlacesOf_L2_k s3)
  else
  some (.brk s2)
def impl_PlacesOf_L1 (a0 : Network) (s : (List ByteArray) × (List ByteArray) × Int) : Option (Ctl ((List ByteArray) × (List ByteArray) × Int) (List ByteArray) (List ByteArray)) := impl_PlacesOf_L1_b a0 s.1 s.2.1 s.2.2
def impl_PlacesOf_L1_s (a0 : Network) (s1 : (List ByteArray)) (s2 : (List ByteArray)) (s3 : Int) : St := ⟨[(3, .o (.c (.sl 1))), (4, .o (.c (.sl 2))), (12, .o (.c (.rs 6 (a0.Legs.map Leg.enc)))), (13, .o (.c (.v (.int .i64 (a0.Legs.length : Int))))), (14, .o (.c (.v (.int .i64 s3))))], [(1, .smap 9 4 s1), (2, .row 9 1 (s2.map encS))]⟩
def impl_PlacesOf_L1_S (a0 : Network) (s : (List ByteArray) × (List ByteArray) × Int) : St := impl_PlacesOf_L1_s a0 s.1 s.2.1 s.2.2
def impl_PlacesOf_L1_a (s4 : (List ByteArray)) : Option (List ByteArray) :=
  (sort_Strings s4).bind fun v5 =>
  some v5
def impl_PlacesOf_L1_k (x : ((List ByteArray)) ⊕ ((List ByteArray))) : Option (List ByteArray) := match x with
  | .inl t => impl_PlacesOf_L1_a t
  | .inr y => some y
def impl_PlacesOf (a0 : Network) : Option (List ByteArray) :=
  (loopM (impl_PlacesOf_L1 a0) big (([] : List ByteArray), ([] : List ByteArray), 0)).bind (impl_PlacesOf_L1_k)
theorem impl_PlacesOf_ok (a0 : Network) (r : (List ByteArray)) (hM : impl_PlacesOf a0 = some r) :
    Con Try.prog 74 [.agg [.rs 6 (a0.Legs.map Leg.enc), .rs 1 (a0.Off.map encI), .v (.int .i64 a0.Change)]] [] (.o (.c (.sl 1000))) [] [(1000, .row 9 1 (r.map encS))] := by
  unfold impl_PlacesOf at hM
  refine cn (N := 43) (pids := []) Try_mixed Try.func74 (by kernel_rfl) (by kernel_rfl) (by kernel_rfl) rfl fun ρ g w R => ?_
  have K1 : ∀ (s4 : (List ByteArray)), impl_PlacesOf_L1_a s4 = some r → Gr R [.code (cAt Try.f74 [1, 1, 1, 1])] (⟨[(4, .o (.c (.sl 2)))], [(2, .row 9 1 (s4.map encS))]⟩) := by
    intro s4 hM
    unfold impl_PlacesOf_L1_a at hM
    obtain ⟨v5, h6, hM⟩ := bind_some hM
    have hE : some v5 = some r := hM
    have hE := Option.some.inj hE
    subst hE
    exact pr R 9999 [.call false [2] (.tup []) [(2, .row 9 1 (v5.map encS))] []] [.sw 2 1000] [] [1000] (And.intro (And.intro (con_sw 900 2 (sort_Strings_ok s4 v5 h6)) (rfl : ([2] : List Nat) = [2])) True.intro) (by kernel_rfl)
  refine pc R 9999 [.new 0, .new 1, .new 2, .ln (a0.Legs.length)] [.keep [3, 4, 12, 13, 14] [1, 2]] (k' := [.code (.loop (cAt Try.f74 [1, 1, 1, 0, 1, 0, 0])), .blk 0, .code (cAt Try.f74 [1, 1, 1, 1])]) (S' := impl_PlacesOf_L1_S a0 (([] : List ByteArray), ([] : List ByteArray), 0)) (And.intro (lenm Leg.enc a0.Legs) True.intro) (by kernel_rfl) ?_
  refine lq (impl_PlacesOf_L1_S a0) (body := impl_PlacesOf_L1 a0) (k := impl_PlacesOf_L1_k) hM fun m1 s c1 hM hK1 => ?_
  obtain ⟨s1, s2, s3⟩ := s
  have hM : impl_PlacesOf_L1_b a0 s1 s2 s3 = some c1 := hM
  unfold impl_PlacesOf_L1_b at hM
  rcases cond_cases hM with ⟨h7, hM⟩ | ⟨h7, hM⟩
  · obtain ⟨v8, h9, hM⟩ := bind_some hM
    have K2 : ∀ (s13 : (List ByteArray)) (s14 : (List ByteArray)), impl_PlacesOf_L2_a s3 s13 s14 = some c1 → Gr R [.blk 1, .code (cAt Try.f74 [1, 1, 1, 0, 1, 0, 0, 1, 1, 1]), .inv (Jr R (impl_PlacesOf_L1_S a0) (Mk (impl_PlacesOf_L1 a0) (impl_PlacesOf_L1_k) r) (m1 + 1)), .blk 0, .code (cAt Try.f74 [1, 1, 1, 1])] (⟨[(3, .o (.c (.sl 1))), (4, .o (.c (.sl 2))), (12, .o (.c (.rs 6 (a0.Legs.map Leg.enc)))), (13, .o (.c (.v (.int .i64 (a0.Legs.length : Int))))), (14, .o (.c (.v (.int .i64 s3))))], [(1, .smap 9 4 s13), (2, .row 9 1 (s14.map encS))]⟩) := by
      intro s13 s14 hM
      unfold impl_PlacesOf_L2_a at hM
      have hE : some (Ctl.next (s13, s14, w64 (s3 + 1))) = some c1 := hM
      have hE := Option.some.inj hE
      subst hE
      exact pc R 9999 [] [.keep [3, 4, 12, 13, 14] [1, 2]] True.intro (by kernel_rfl) (li (Sf := impl_PlacesOf_L1_S a0) (M := Mk (impl_PlacesOf_L1 a0) (impl_PlacesOf_L1_k) r) (k := [.blk 0, .code (cAt Try.f74 [1, 1, 1, 1])]) (Nat.lt_succ_self m1) hK1)
    refine pc R 9999 [.as 15 true, .ix (Leg.enc v8), .new 3, .new 4, .ln (([v8.From, v8.To] : List ByteArray).length)] [.keep [3, 4, 12, 13, 14, 22, 23, 24] [1, 2, 4]] (k' := [.code (.loop (cAt Try.f74 [1, 1, 1, 0, 1, 0, 0, 1, 1, 0, 0, 1, 1, 0, 0])), .blk 2, .blk 1, .code (cAt Try.f74 [1, 1, 1, 0, 1, 0, 0, 1, 1, 1]), .inv (Jr R (impl_PlacesOf_L1_S a0) (Mk (impl_PlacesOf_L1 a0) (impl_PlacesOf_L1_k) r) (m1 + 1)), .blk 0, .code (cAt Try.f74 [1, 1, 1, 1])]) (S' := impl_PlacesOf_L2_S a0 s3 v8 (s1, s2, 0)) (And.intro h7 (And.intro (gi_map Leg.enc h9) (And.intro (lenm encS ([v8.From, v8.To] : List ByteArray)) True.intro))) (by kernel_rfl) ?_
    refine lq (impl_PlacesOf_L2_S a0 s3 v8) (body := impl_PlacesOf_L2 v8) (k := impl_PlacesOf_L2_k s3) hM fun m2 s c2 hM hK2 => ?_
    obtain ⟨s10, s11, s12⟩ := s
    have hM : impl_PlacesOf_L2_b v8 s10 s11 s12 = some c2 := hM
    unfold impl_PlacesOf_L2_b at hM
    rcases cond_cases hM with ⟨h15, hM⟩ | ⟨h15, hM⟩
    · obtain ⟨v16, h17, hM⟩ := bind_some hM
      rcases cond_cases hM with ⟨h18, hM⟩ | ⟨h18, hM⟩
      · obtain ⟨v19, h20, hM⟩ := bind_some hM
        have hE : some (Ctl.next (putB v16 s10, v19, w64 (s12 + 1))) = some c2 := hM
        have hE := Option.some.inj hE
        subst hE
        exact pc R 9999 [.as 25 true, .ix (encS v16), .as 31 true, .new 5, .new 6, .nm (v19.map encS)] [.sw 6 2, .keep [3, 4, 12, 13, 14, 22, 23, 24] [1, 2, 4]] (And.intro h15 (And.intro (gi_lt encS h17) (And.intro ((gi_map encS h17).2) (And.intro h18 (And.intro (ap_ok encS h20) True.intro))))) (by kernel_rfl) (li (Sf := impl_PlacesOf_L2_S a0 s3 v8) (M := Mk (impl_PlacesOf_L2 v8) (impl_PlacesOf_L2_k s3) c1) (k := [.blk 2, .blk 1, .code (cAt Try.f74 [1, 1, 1, 0, 1, 0, 0, 1, 1, 1]), .inv (Jr R (impl_PlacesOf_L1_S a0) (Mk (impl_PlacesOf_L1 a0) (impl_PlacesOf_L1_k) r) (m1 + 1)), .blk 0, .code (cAt Try.f74 [1, 1, 1, 1])]) (Nat.lt_succ_self m2) hK2)
      · have hE : some (Ctl.next (s10, s11, w64 (s12 + 1))) = some c2 := hM
        have hE := Option.some.inj hE
        subst hE
        exact pc R 9999 [.as 25 true, .ix (encS v16), .as 31 false] [.keep [3, 4, 12, 13, 14, 22, 23, 24] [1, 2, 4]] (And.intro h15 (And.intro (gi_lt encS h17) (And.intro ((gi_map encS h17).2) (And.intro h18 True.intro)))) (by kernel_rfl) (li (Sf := impl_PlacesOf_L2_S a0 s3 v8) (M := Mk (impl_PlacesOf_L2 v8) (impl_PlacesOf_L2_k s3) c1) (k := [.blk 2, .blk 1, .code (cAt Try.f74 [1, 1, 1, 0, 1, 0, 0, 1, 1, 1]), .inv (Jr R (impl_PlacesOf_L1_S a0) (Mk (impl_PlacesOf_L1 a0) (impl_PlacesOf_L1_k) r) (m1 + 1)), .blk 0, .code (cAt Try.f74 [1, 1, 1, 1])]) (Nat.lt_succ_self m2) hK2)
    · have hE : some (Ctl.brk (s10, s11)) = some c2 := hM
      have hE := Option.some.inj hE
      subst hE
      exact pc R 5 [.as 25 false] [.keep [3, 4, 12, 13, 14] [1, 2]] (And.intro h15 True.intro) (by kernel_rfl) (K2 s10 s11 hK2)
  · have hE : some (Ctl.brk s2) = some c1 := hM
    have hE := Option.some.inj hE
    subst hE
    exact pc R 5 [.as 15 false] [.keep [4] [2]] (And.intro h7 True.intro) (by kernel_rfl) (K1 s2 hK1)

-- loop.example/g03014/impl.IsPlace
def impl_IsPlace_L1_b (a0 : ByteArray) (s1 : Int) : Option (Ctl Int Unit Bool) :=
  bif (decide (s1 < (a0.size : Int))) then
  (siM a0 s1).bind fun v3 =>
  bif (decide (v3 < 65)) then
  some (.ret false)
  else
  (siM a0 s1).bind fun v6 =>
  bif (decide (v6 > 90)) then
  some (.ret false)
  else
  some (.next (w64 (s1 + 1)))
  else
  some (.brk ())
def impl_IsPlace_L1 (a0 : ByteArray) (s : Int) : Option (Ctl Int Unit Bool) := impl_IsPlace_L1_b a0 s
def impl_IsPlace_L1_s (a0 : ByteArray) (s1 : Int) : St := ⟨[(0, .o (.c (.v (.string a0)))), (3, .o (.c (.v (.int .i64 s1))))], []⟩
def impl_IsPlace_L1_S (a0 : ByteArray) (s : Int) : St := impl_IsPlace_L1_s a0 s
def impl_IsPlace_L1_a (a0 : ByteArray) : Option Bool :=
  some ((a0.size : Int) == 3)
def impl_IsPlace_L1_k (a0 : ByteArray) (x : (Unit) ⊕ (Bool)) : Option Bool := match x with
  | .inl t => impl_IsPlace_L1_a a0
  | .inr y => some y
def impl_IsPlace (a0 : ByteArray) : Option Bool :=
  (loopM (impl_IsPlace_L1 a0) big 0).bind (impl_IsPlace_L1_k a0)
theorem impl_IsPlace_ok (a0 : ByteArray) (r : Bool) (hM : impl_IsPlace a0 = some r) :
    Con Try.prog 125 [.c (.v (.string a0))] [] (.o (.c (.v (.bool r)))) [] [] := by
  unfold impl_IsPlace at hM
  refine cn (N := 23) (pids := []) Try_mixed Try.func125 (by kernel_rfl) (by kernel_rfl) (by kernel_rfl) rfl fun ρ g w R => ?_
  have K1 : ∀ (_ : Unit), impl_IsPlace_L1_a a0 = some r → Gr R [.code (cAt Try.f125 [1, 1])] (⟨[(0, .o (.c (.v (.string a0))))], []⟩) := by
    intro _ hM
    unfold impl_IsPlace_L1_a at hM
    have hE : some ((a0.size : Int) == 3) = some r := hM
    have hE := Option.some.inj hE
    subst hE
    exact pr R 9999 [] [] [] [] True.intro (by kernel_rfl)
  refine pc R 9999 [] [.keep [0, 3] []] (k' := [.code (.loop (cAt Try.f125 [1, 0, 1, 0, 0])), .blk 0, .code (cAt Try.f125 [1, 1])]) (S' := impl_IsPlace_L1_S a0 0) True.intro (by kernel_rfl) ?_
  refine lq (impl_IsPlace_L1_S a0) (body := impl_IsPlace_L1 a0) (k := impl_IsPlace_L1_k a0) hM fun m1 s c1 hM hK1 => ?_
  obtain ⟨s1, hs⟩ : ∃ z, z = s := ⟨_, rfl⟩
  subst hs
  have hM : impl_IsPlace_L1_b a0 s1 = some c1 := hM
  unfold impl_IsPlace_L1_b at hM
  rcases cond_cases hM with ⟨h2, hM⟩ | ⟨h2, hM⟩
  · obtain ⟨v3, h4, hM⟩ := bind_some hM
    rcases cond_cases hM with ⟨h5, hM⟩ | ⟨h5, hM⟩
    · have hE : some (Ctl.ret false) = some c1 := hM
      have hE := Option.some.inj hE
      subst hE
      have hE : some false = some r := hK1
      have hE := Option.some.inj hE
      subst hE
      exact pr R 9999 [.as 7 true, .ix [.int .u8 v3], .as 14 true] [] [] [] (And.intro h2 (And.intro (siM_ok h4) (And.intro h5 True.intro))) (by kernel_rfl)
    · obtain ⟨v6, h7, hM⟩ := bind_some hM
      rcases cond_cases hM with ⟨h8, hM⟩ | ⟨h8, hM⟩
      · have hE : some (Ctl.ret false) = some c1 := hM
        have hE := Option.some.inj hE
        subst hE
        have hE : some false = some r := hK1
        have hE := Option.some.inj hE
        subst hE
        exact pr R 9999 [.as 7 true, .ix [.int .u8 v3], .as 14 false, .ix [.int .u8 v6], .as 19 true] [] [] [] (And.intro h2 (And.intro (siM_ok h4) (And.intro h5 (And.intro (siM_ok h7) (And.intro h8 True.intro))))) (by kernel_rfl)
      · have hE : some (Ctl.next (w64 (s1 + 1))) = some c1 := hM
        have hE := Option.some.inj hE
        subst hE
        exact pc R 9999 [.as 7 true, .ix [.int .u8 v3], .as 14 false, .ix [.int .u8 v6], .as 19 false] [.keep [0, 3] []] (And.intro h2 (And.intro (siM_ok h4) (And.intro h5 (And.intro (siM_ok h7) (And.intro h8 True.intro))))) (by kernel_rfl) (li (Sf := impl_IsPlace_L1_S a0) (M := Mk (impl_IsPlace_L1 a0) (impl_IsPlace_L1_k a0) r) (k := [.blk 0, .code (cAt Try.f125 [1, 1])]) (Nat.lt_succ_self m1) hK1)
  · have hE : some (Ctl.brk ()) = some c1 := hM
    have hE := Option.some.inj hE
    subst hE
    exact pc R 5 [.as 7 false] [.keep [0] []] (And.intro h2 True.intro) (by kernel_rfl) (K1 () hK1)

-- loop.example/g03014/impl.within
def impl_within (a0 : Int) (a1 : Int) (a2 : Int) : Option Bool :=
  bif (decide (a1 ≤ a0)) then
  some (decide (a0 ≤ a2))
  else
  some false
theorem impl_within_ok (a0 : Int) (a1 : Int) (a2 : Int) (r : Bool) (hM : impl_within a0 a1 a2 = some r) :
    Con Try.prog 93 [.c (.v (.int .i64 a0)), .c (.v (.int .i64 a1)), .c (.v (.int .i64 a2))] [] (.o (.c (.v (.bool r)))) [] [] := by
  unfold impl_within at hM
  refine cn (N := 15) (pids := []) Try_mixed Try.func93 (by kernel_rfl) (by kernel_rfl) (by kernel_rfl) rfl fun ρ g w R => ?_
  rcases cond_cases hM with ⟨h1, hM⟩ | ⟨h1, hM⟩
  · have hE : some (decide (a0 ≤ a2)) = some r := hM
    have hE := Option.some.inj hE
    subst hE
    exact pr R 9999 [.as 10 true] [] [] [] (And.intro h1 True.intro) (by kernel_rfl)
  · have hE : some false = some r := hM
    have hE := Option.some.inj hE
    subst hE
    exact pr R 9999 [.as 10 false] [] [] [] (And.intro h1 True.intro) (by kernel_rfl)

-- loop.example/g03014/impl.IsLeg
def impl_IsLeg (a0 : Leg) : Option Bool :=
  (impl_IsPlace a0.From).bind fun v1 =>
  bif v1 then
  (impl_IsPlace a0.To).bind fun v4 =>
  bif v4 then
  bif (!(a0.From.toList == a0.To.toList)) then
  (impl_within a0.Start 0 1439).bind fun v8 =>
  bif v8 then
  (impl_within a0.Takes 1 4320).bind fun v11 =>
  bif v11 then
  (impl_within a0.Days 1 127).bind fun v14 =>
  bif v14 then
  (impl_within a0.Room 0 1000000).bind fun v17 =>
  some v17
  else
  some false
  else
  some false
  else
  some false
  else
  some false
  else
  some false
  else
  some false
theorem impl_IsLeg_ok (a0 : Leg) (r : Bool) (hM : impl_IsLeg a0 = some r) :
    Con Try.prog 103 [.c (.v (.agg (Leg.enc a0).toArray))] [] (.o (.c (.v (.bool r)))) [] [] := by
  unfold impl_IsLeg at hM
  refine cn (N := 38) (pids := []) Try_mixed Try.func103 (by kernel_rfl) (by kernel_rfl) (by kernel_rfl) rfl fun ρ g w R => ?_
  obtain ⟨v1, h2, hM⟩ := bind_some hM
  rcases cond_cases hM with ⟨h3, hM⟩ | ⟨h3, hM⟩
  · obtain ⟨v4, h5, hM⟩ := bind_some hM
    rcases cond_cases hM with ⟨h6, hM⟩ | ⟨h6, hM⟩
    · rcases cond_cases hM with ⟨h7, hM⟩ | ⟨h7, hM⟩
      · obtain ⟨v8, h9, hM⟩ := bind_some hM
        rcases cond_cases hM with ⟨h10, hM⟩ | ⟨h10, hM⟩
        · obtain ⟨v11, h12, hM⟩ := bind_some hM
          rcases cond_cases hM with ⟨h13, hM⟩ | ⟨h13, hM⟩
          · obtain ⟨v14, h15, hM⟩ := bind_some hM
            rcases cond_cases hM with ⟨h16, hM⟩ | ⟨h16, hM⟩
            · obtain ⟨v17, h18, hM⟩ := bind_some hM
              have hE : some v17 = some r := hM
              have hE := Option.some.inj hE
              subst hE
              exact pr R 9999 [.new 0, .call false [] (.o (.c (.v (.bool v1)))) [] [], .as 6 true, .call false [] (.o (.c (.v (.bool v4)))) [] [], .as 11 true, .as 18 true, .call false [] (.o (.c (.v (.bool v8)))) [] [], .as 23 true, .call false [] (.o (.c (.v (.bool v11)))) [] [], .as 28 true, .call false [] (.o (.c (.v (.bool v14)))) [] [], .as 33 true, .call false [] (.o (.c (.v (.bool v17)))) [] []] [] [] [] (And.intro (impl_IsPlace_ok a0.From v1 h2) (And.intro h3 (And.intro (impl_IsPlace_ok a0.To v4 h5) (And.intro h6 (And.intro h7 (And.intro (impl_within_ok a0.Start 0 1439 v8 h9) (And.intro h10 (And.intro (impl_within_ok a0.Takes 1 4320 v11 h12) (And.intro h13 (And.intro (impl_within_ok a0.Days 1 127 v14 h15) (And.intro h16 (And.intro (impl_within_ok a0.Room 0 1000000 v17 h18) True.intro)))))))))))) (by kernel_rfl)
            · have hE : some false = some r := hM
              have hE := Option.some.inj hE
              subst hE
              exact pr R 9999 [.new 0, .call false [] (.o (.c (.v (.bool v1)))) [] [], .as 6 true, .call false [] (.o (.c (.v (.bool v4)))) [] [], .as 11 true, .as 18 true, .call false [] (.o (.c (.v (.bool v8)))) [] [], .as 23 true, .call false [] (.o (.c (.v (.bool v11)))) [] [], .as 28 true, .call false [] (.o (.c (.v (.bool v14)))) [] [], .as 33 false] [] [] [] (And.intro (impl_IsPlace_ok a0.From v1 h2) (And.intro h3 (And.intro (impl_IsPlace_ok a0.To v4 h5) (And.intro h6 (And.intro h7 (And.intro (impl_within_ok a0.Start 0 1439 v8 h9) (And.intro h10 (And.intro (impl_within_ok a0.Takes 1 4320 v11 h12) (And.intro h13 (And.intro (impl_within_ok a0.Days 1 127 v14 h15) (And.intro h16 True.intro))))))))))) (by kernel_rfl)
          · have hE : some false = some r := hM
            have hE := Option.some.inj hE
            subst hE
            exact pr R 9999 [.new 0, .call false [] (.o (.c (.v (.bool v1)))) [] [], .as 6 true, .call false [] (.o (.c (.v (.bool v4)))) [] [], .as 11 true, .as 18 true, .call false [] (.o (.c (.v (.bool v8)))) [] [], .as 23 true, .call false [] (.o (.c (.v (.bool v11)))) [] [], .as 28 false] [] [] [] (And.intro (impl_IsPlace_ok a0.From v1 h2) (And.intro h3 (And.intro (impl_IsPlace_ok a0.To v4 h5) (And.intro h6 (And.intro h7 (And.intro (impl_within_ok a0.Start 0 1439 v8 h9) (And.intro h10 (And.intro (impl_within_ok a0.Takes 1 4320 v11 h12) (And.intro h13 True.intro))))))))) (by kernel_rfl)
        · have hE : some false = some r := hM
          have hE := Option.some.inj hE
          subst hE
          exact pr R 9999 [.new 0, .call false [] (.o (.c (.v (.bool v1)))) [] [], .as 6 true, .call false [] (.o (.c (.v (.bool v4)))) [] [], .as 11 true, .as 18 true, .call false [] (.o (.c (.v (.bool v8)))) [] [], .as 23 false] [] [] [] (And.intro (impl_IsPlace_ok a0.From v1 h2) (And.intro h3 (And.intro (impl_IsPlace_ok a0.To v4 h5) (And.intro h6 (And.intro h7 (And.intro (impl_within_ok a0.Start 0 1439 v8 h9) (And.intro h10 True.intro))))))) (by kernel_rfl)
      · have hE : some false = some r := hM
        have hE := Option.some.inj hE
        subst hE
        exact pr R 9999 [.new 0, .call false [] (.o (.c (.v (.bool v1)))) [] [], .as 6 true, .call false [] (.o (.c (.v (.bool v4)))) [] [], .as 11 true, .as 18 false] [] [] [] (And.intro (impl_IsPlace_ok a0.From v1 h2) (And.intro h3 (And.intro (impl_IsPlace_ok a0.To v4 h5) (And.intro h6 (And.intro h7 True.intro))))) (by kernel_rfl)
    · have hE : some false = some r := hM
      have hE := Option.some.inj hE
      subst hE
      exact pr R 9999 [.new 0, .call false [] (.o (.c (.v (.bool v1)))) [] [], .as 6 true, .call false [] (.o (.c (.v (.bool v4)))) [] [], .as 11 false] [] [] [] (And.intro (impl_IsPlace_ok a0.From v1 h2) (And.intro h3 (And.intro (impl_IsPlace_ok a0.To v4 h5) (And.intro h6 True.intro)))) (by kernel_rfl)
  · have hE : some false = some r := hM
    have hE := Option.some.inj hE
    subst hE
    exact pr R 9999 [.new 0, .call false [] (.o (.c (.v (.bool v1)))) [] [], .as 6 false] [] [] [] (And.intro (impl_IsPlace_ok a0.From v1 h2) (And.intro h3 True.intro)) (by kernel_rfl)

-- loop.example/g03014/impl.IsNetwork
def impl_IsNetwork_L2_b (a0 : Network) (s2 : Int) : Option (Ctl Int Unit Bool) :=
  bif (decide (s2 < (a0.Off.length : Int))) then
  (gi a0.Off s2).bind fun v8 =>
  (impl_within v8 0 60).bind fun v10 =>
  bif (!v10) then
  some (.ret false)
  else
  bif (decide (s2 > 0)) then
  (gi a0.Off (w64 (s2 - 1))).bind fun v14 =>
  bif (decide (v14 ≥ v8)) then
  some (.ret false)
  else
  some (.next (w64 (s2 + 1)))
  else
  some (.next (w64 (s2 + 1)))
  else
  some (.brk ())
def impl_IsNetwork_L2 (a0 : Network) (s : Int) : Option (Ctl Int Unit Bool) := impl_IsNetwork_L2_b a0 s
def impl_IsNetwork_L2_s (a0 : Network) (s2 : Int) : St := ⟨[(1, .o (.c (.ptr 0 0))), (19, .o (.c (.rs 1 (a0.Off.map encI)))), (20, .o (.c (.v (.int .i64 (a0.Off.length : Int))))), (21, .o (.c (.v (.int .i64 s2))))], [(0, .box 32 [.rs 6 (a0.Legs.map Leg.enc), .rs 1 (a0.Off.map encI), .v (.int .i64 a0.Change)])]⟩
def impl_IsNetwork_L2_S (a0 : Network) (s : Int) : St := impl_IsNetwork_L2_s a0 s
def impl_IsNetwork_L2_a (a0 : Network) : Option Bool :=
  bif (decide ((a0.Legs.length : Int) ≤ 20)) then
  bif (decide ((a0.Off.length : Int) ≤ 10)) then
  (impl_within a0.Change 0 240).bind fun v5 =>
  some v5
  else
  some false
  else
  some false
def impl_IsNetwork_L2_k (a0 : Network) (x : (Unit) ⊕ (Bool)) : Option Bool := match x with
  | .inl t => impl_IsNetwork_L2_a a0
  | .inr y => some y
def impl_IsNetwork_L1_b (a0 : Network) (s1 : Int) : Option (Ctl Int Unit Bool) :=
  bif (decide (s1 < (a0.Legs.length : Int))) then
  (gi a0.Legs s1).bind fun v18 =>
  (impl_IsLeg v18).bind fun v20 =>
  bif (!v20) then
  some (.ret false)
  else
  some (.next (w64 (s1 + 1)))
  else
  some (.brk ())
def impl_IsNetwork_L1 (a0 : Network) (s : Int) : Option (Ctl Int Unit Bool) := impl_IsNetwork_L1_b a0 s
def impl_IsNetwork_L1_s (a0 : Network) (s1 : Int) : St := ⟨[(1, .o (.c (.ptr 0 0))), (8, .o (.c (.rs 6 (a0.Legs.map Leg.enc)))), (9, .o (.c (.v (.int .i64 (a0.Legs.length : Int))))), (10, .o (.c (.v (.int .i64 s1))))], [(0, .box 32 [.rs 6 (a0.Legs.map Leg.enc), .rs 1 (a0.Off.map encI), .v (.int .i64 a0.Change)])]⟩
def impl_IsNetwork_L1_S (a0 : Network) (s : Int) : St := impl_IsNetwork_L1_s a0 s
def impl_IsNetwork_L1_a (a0 : Network) : Option Bool :=
  (loopM (impl_IsNetwork_L2 a0) big 0).bind (impl_IsNetwork_L2_k a0)
def impl_IsNetwork_L1_k (a0 : Network) (x : (Unit) ⊕ (Bool)) : Option Bool := match x with
  | .inl t => impl_IsNetwork_L1_a a0
  | .inr y => some y
def impl_IsNetwork (a0 : Network) : Option Bool :=
  (loopM (impl_IsNetwork_L1 a0) big 0).bind (impl_IsNetwork_L1_k a0)
theorem impl_IsNetwork_ok (a0 : Network) (r : Bool) (hM : impl_IsNetwork a0 = some r) :
    Con Try.prog 63 [.agg [.rs 6 (a0.Legs.map Leg.enc), .rs 1 (a0.Off.map encI), .v (.int .i64 a0.Change)]] [] (.o (.c (.v (.bool r)))) [] [] := by
  unfold impl_IsNetwork at hM
  refine cn (N := 59) (pids := []) Try_mixed Try.func63 (by kernel_rfl) (by kernel_rfl) (by kernel_rfl) rfl fun ρ g w R => ?_
  have K1 : ∀ (_ : Unit), impl_IsNetwork_L1_a a0 = some r → Gr R [.code (cAt Try.f63 [1, 1])] (⟨[(1, .o (.c (.ptr 0 0)))], [(0, .box 32 [.rs 6 (a0.Legs.map Leg.enc), .rs 1 (a0.Off.map encI), .v (.int .i64 a0.Change)])]⟩) := by
    intro _ hM
    unfold impl_IsNetwork_L1_a at hM
    have K2 : ∀ (_ : Unit), impl_IsNetwork_L2_a a0 = some r → Gr R [.code (cAt Try.f63 [1, 1, 1])] (⟨[(1, .o (.c (.ptr 0 0)))], [(0, .box 32 [.rs 6 (a0.Legs.map Leg.enc), .rs 1 (a0.Off.map encI), .v (.int .i64 a0.Change)])]⟩) := by
      intro _ hM
      unfold impl_IsNetwork_L2_a at hM
      rcases cond_cases hM with ⟨h3, hM⟩ | ⟨h3, hM⟩
      · rcases cond_cases hM with ⟨h4, hM⟩ | ⟨h4, hM⟩
        · obtain ⟨v5, h6, hM⟩ := bind_some hM
          have hE : some v5 = some r := hM
          have hE := Option.some.inj hE
          subst hE
          exact pr R 9999 [.ln (a0.Legs.length), .as 48 true, .ln (a0.Off.length), .as 54 true, .call false [] (.o (.c (.v (.bool v5)))) [] []] [] [] [] (And.intro (lenm Leg.enc a0.Legs) (And.intro h3 (And.intro (lenm encI a0.Off) (And.intro h4 (And.intro (impl_within_ok a0.Change 0 240 v5 h6) True.intro))))) (by kernel_rfl)
        · have hE : some false = some r := hM
          have hE := Option.some.inj hE
          subst hE
          exact pr R 9999 [.ln (a0.Legs.length), .as 48 true, .ln (a0.Off.length), .as 54 false] [] [] [] (And.intro (lenm Leg.enc a0.Legs) (And.intro h3 (And.intro (lenm encI a0.Off) (And.intro h4 True.intro)))) (by kernel_rfl)
      · have hE : some false = some r := hM
        have hE := Option.some.inj hE
        subst hE
        exact pr R 9999 [.ln (a0.Legs.length), .as 48 false] [] [] [] (And.intro (lenm Leg.enc a0.Legs) (And.intro h3 True.intro)) (by kernel_rfl)
    refine pc R 9999 [.ln (a0.Off.length)] [.keep [1, 19, 20, 21] [0]] (k' := [.code (.loop (cAt Try.f63 [1, 1, 0, 1, 0, 0])), .blk 2, .code (cAt Try.f63 [1, 1, 1])]) (S' := impl_IsNetwork_L2_S a0 0) (And.intro (lenm encI a0.Off) True.intro) (by kernel_rfl) ?_
    refine lq (impl_IsNetwork_L2_S a0) (body := impl_IsNetwork_L2 a0) (k := impl_IsNetwork_L2_k a0) hM fun m2 s c2 hM hK2 => ?_
    obtain ⟨s2, hs⟩ : ∃ z, z = s := ⟨_, rfl⟩
    subst hs
    have hM : impl_IsNetwork_L2_b a0 s2 = some c2 := hM
    unfold impl_IsNetwork_L2_b at hM
    rcases cond_cases hM with ⟨h7, hM⟩ | ⟨h7, hM⟩
    · obtain ⟨v8, h9, hM⟩ := bind_some hM
      obtain ⟨v10, h11, hM⟩ := bind_some hM
      rcases cond_cases hM with ⟨h12, hM⟩ | ⟨h12, hM⟩
      · have hE : some (Ctl.ret false) = some c2 := hM
        have hE := Option.some.inj hE
        subst hE
        have hE : some false = some r := hK2
        have hE := Option.some.inj hE
        subst hE
        exact pr R 9999 [.as 22 true, .ix (encI v8), .call false [] (.o (.c (.v (.bool v10)))) [] [], .as 29 true] [] [] [] (And.intro h7 (And.intro (gi_map encI h9) (And.intro (impl_within_ok v8 0 60 v10 h11) (And.intro h12 True.intro)))) (by kernel_rfl)
      · rcases cond_cases hM with ⟨h13, hM⟩ | ⟨h13, hM⟩
        · obtain ⟨v14, h15, hM⟩ := bind_some hM
          rcases cond_cases hM with ⟨h16, hM⟩ | ⟨h16, hM⟩
          · have hE : some (Ctl.ret false) = some c2 := hM
            have hE := Option.some.inj hE
            subst hE
            have hE : some false = some r := hK2
            have hE := Option.some.inj hE
            subst hE
            exact pr R 9999 [.as 22 true, .ix (encI v8), .call false [] (.o (.c (.v (.bool v10)))) [] [], .as 29 false, .as 32 true, .ix (encI v14), .as 42 true] [] [] [] (And.intro h7 (And.intro (gi_map encI h9) (And.intro (impl_within_ok v8 0 60 v10 h11) (And.intro h12 (And.intro h13 (And.intro (gi_map encI h15) (And.intro h16 True.intro))))))) (by kernel_rfl)
          · have hE : some (Ctl.next (w64 (s2 + 1))) = some c2 := hM
            have hE := Option.some.inj hE
            subst hE
            exact pc R 9999 [.as 22 true, .ix (encI v8), .call false [] (.o (.c (.v (.bool v10)))) [] [], .as 29 false, .as 32 true, .ix (encI v14), .as 42 false] [.keep [1, 19, 20, 21] [0]] (And.intro h7 (And.intro (gi_map encI h9) (And.intro (impl_within_ok v8 0 60 v10 h11) (And.intro h12 (And.intro h13 (And.intro (gi_map encI h15) (And.intro h16 True.intro))))))) (by kernel_rfl) (li (Sf := impl_IsNetwork_L2_S a0) (M := Mk (impl_IsNetwork_L2 a0) (impl_IsNetwork_L2_k a0) r) (k := [.blk 2, .code (cAt Try.f63 [1, 1, 1])]) (Nat.lt_succ_self m2) hK2)
        · have hE : some (Ctl.next (w64 (s2 + 1))) = some c2 := hM
          have hE := Option.some.inj hE
          subst hE
          exact pc R 9999 [.as 22 true, .ix (encI v8), .call false [] (.o (.c (.v (.bool v10)))) [] [], .as 29 false, .as 32 false] [.keep [1, 19, 20, 21] [0]] (And.intro h7 (And.intro (gi_map encI h9) (And.intro (impl_within_ok v8 0 60 v10 h11) (And.intro h12 (And.intro h13 True.intro))))) (by kernel_rfl) (li (Sf := impl_IsNetwork_L2_S a0) (M := Mk (impl_IsNetwork_L2 a0) (impl_IsNetwork_L2_k a0) r) (k := [.blk 2, .code (cAt Try.f63 [1, 1, 1])]) (Nat.lt_succ_self m2) hK2)
    · have hE : some (Ctl.brk ()) = some c2 := hM
      have hE := Option.some.inj hE
      subst hE
      exact pc R 5 [.as 22 false] [.keep [1] [0]] (And.intro h7 True.intro) (by kernel_rfl) (K2 () hK2)
  refine pc R 9999 [.new 0, .ln (a0.Legs.length)] [.keep [1, 8, 9, 10] [0]] (k' := [.code (.loop (cAt Try.f63 [1, 0, 1, 0, 0])), .blk 0, .code (cAt Try.f63 [1, 1])]) (S' := impl_IsNetwork_L1_S a0 0) (And.intro (lenm Leg.enc a0.Legs) True.intro) (by kernel_rfl) ?_
  refine lq (impl_IsNetwork_L1_S a0) (body := impl_IsNetwork_L1 a0) (k := impl_IsNetwork_L1_k a0) hM fun m1 s c1 hM hK1 => ?_
  obtain ⟨s1, hs⟩ : ∃ z, z = s := ⟨_, rfl⟩
  subst hs
  have hM : impl_IsNetwork_L1_b a0 s1 = some c1 := hM
  unfold impl_IsNetwork_L1_b at hM
  rcases cond_cases hM with ⟨h17, hM⟩ | ⟨h17, hM⟩
  · obtain ⟨v18, h19, hM⟩ := bind_some hM
    obtain ⟨v20, h21, hM⟩ := bind_some hM
    rcases cond_cases hM with ⟨h22, hM⟩ | ⟨h22, hM⟩
    · have hE : some (Ctl.ret false) = some c1 := hM
      have hE := Option.some.inj hE
      subst hE
      have hE : some false = some r := hK1
      have hE := Option.some.inj hE
      subst hE
      exact pr R 9999 [.as 11 true, .ix (Leg.enc v18), .new 1, .call false [] (.o (.c (.v (.bool v20)))) [] [], .as 16 true] [] [] [] (And.intro h17 (And.intro (gi_map Leg.enc h19) (And.intro (impl_IsLeg_ok v18 v20 h21) (And.intro h22 True.intro)))) (by kernel_rfl)
    · have hE : some (Ctl.next (w64 (s1 + 1))) = some c1 := hM
      have hE := Option.some.inj hE
      subst hE
      exact pc R 9999 [.as 11 true, .ix (Leg.enc v18), .new 1, .call false [] (.o (.c (.v (.bool v20)))) [] [], .as 16 false] [.keep [1, 8, 9, 10] [0]] (And.intro h17 (And.intro (gi_map Leg.enc h19) (And.intro (impl_IsLeg_ok v18 v20 h21) (And.intro h22 True.intro)))) (by kernel_rfl) (li (Sf := impl_IsNetwork_L1_S a0) (M := Mk (impl_IsNetwork_L1 a0) (impl_IsNetwork_L1_k a0) r) (k := [.blk 0, .code (cAt Try.f63 [1, 1])]) (Nat.lt_succ_self m1) hK1)
  · have hE : some (Ctl.brk ()) = some c1 := hM
    have hE := Option.some.inj hE
    subst hE
    exact pc R 5 [.as 11 false] [.keep [1] [0]] (And.intro h17 True.intro) (by kernel_rfl) (K1 () hK1)

-- loop.example/g03014/impl.placeAt
def impl_placeAt_L1_b (a0 : (List ByteArray)) (a1 : ByteArray) (s1 : Int) : Option (Ctl Int Unit Int) :=
  bif (decide (s1 < (a0.length : Int))) then
  (gi a0 s1).bind fun v3 =>
  bif (v3.toList == a1.toList) then
  some (.ret s1)
  else
  some (.next (w64 (s1 + 1)))
  else
  some (.brk ())
def impl_placeAt_L1 (a0 : (List ByteArray)) (a1 : ByteArray) (s : Int) : Option (Ctl Int Unit Int) := impl_placeAt_L1_b a0 a1 s
def impl_placeAt_L1_s (a0 : (List ByteArray)) (a1 : ByteArray) (s1 : Int) : St := ⟨[(1, .o (.c (.v (.string a1)))), (7, .o (.c (.rs 1 (a0.map encS)))), (8, .o (.c (.v (.int .i64 (a0.length : Int))))), (9, .o (.c (.v (.int .i64 s1))))], []⟩
def impl_placeAt_L1_S (a0 : (List ByteArray)) (a1 : ByteArray) (s : Int) : St := impl_placeAt_L1_s a0 a1 s
def impl_placeAt_L1_a : Option Int :=
  some (-1)
def impl_placeAt_L1_k (x : (Unit) ⊕ (Int)) : Option Int := match x with
  | .inl t => impl_placeAt_L1_a
  | .inr y => some y
def impl_placeAt (a0 : (List ByteArray)) (a1 : ByteArray) : Option Int :=
  (loopM (impl_placeAt_L1 a0 a1) big 0).bind (impl_placeAt_L1_k)
theorem impl_placeAt_ok (a0 : (List ByteArray)) (a1 : ByteArray) (r : Int) (hM : impl_placeAt a0 a1 = some r) :
    Con Try.prog 75 [.c (.rs 1 (a0.map encS)), .c (.v (.string a1))] [] (.o (.c (.v (.int .i64 r)))) [] [] := by
  unfold impl_placeAt at hM
  refine cn (N := 19) (pids := []) Try_mixed Try.func75 (by kernel_rfl) (by kernel_rfl) (by kernel_rfl) rfl fun ρ g w R => ?_
  have K1 : ∀ (_ : Unit), impl_placeAt_L1_a = some r → Gr R [.code (cAt Try.f75 [1, 1])] (⟨[], []⟩) := by
    intro _ hM
    unfold impl_placeAt_L1_a at hM
    have hE : some (-1) = some r := hM
    have hE := Option.some.inj hE
    subst hE
    exact pr R 9999 [] [] [] [] True.intro (by kernel_rfl)
  refine pc R 9999 [.ln (a0.length)] [.keep [1, 7, 8, 9] []] (k' := [.code (.loop (cAt Try.f75 [1, 0, 1, 0, 0])), .blk 0, .code (cAt Try.f75 [1, 1])]) (S' := impl_placeAt_L1_S a0 a1 0) (And.intro (lenm encS a0) True.intro) (by kernel_rfl) ?_
  refine lq (impl_placeAt_L1_S a0 a1) (body := impl_placeAt_L1 a0 a1) (k := impl_placeAt_L1_k) hM fun m1 s c1 hM hK1 => ?_
  obtain ⟨s1, hs⟩ : ∃ z, z = s := ⟨_, rfl⟩
  subst hs
  have hM : impl_placeAt_L1_b a0 a1 s1 = some c1 := hM
  unfold impl_placeAt_L1_b at hM
  rcases cond_cases hM with ⟨h2, hM⟩ | ⟨h2, hM⟩
  · obtain ⟨v3, h4, hM⟩ := bind_some hM
    rcases cond_cases hM with ⟨h5, hM⟩ | ⟨h5, hM⟩
    · have hE : some (Ctl.ret s1) = some c1 := hM
      have hE := Option.some.inj hE
      subst hE
      have hE : some s1 = some r := hK1
      have hE := Option.some.inj hE
      subst hE
      exact pr R 9999 [.as 10 true, .ix (encS v3), .as 16 true] [] [] [] (And.intro h2 (And.intro (gi_map encS h4) (And.intro h5 True.intro))) (by kernel_rfl)
    · have hE : some (Ctl.next (w64 (s1 + 1))) = some c1 := hM
      have hE := Option.some.inj hE
      subst hE
      exact pc R 9999 [.as 10 true, .ix (encS v3), .as 16 false] [.keep [1, 7, 8, 9] []] (And.intro h2 (And.intro (gi_map encS h4) (And.intro h5 True.intro))) (by kernel_rfl) (li (Sf := impl_placeAt_L1_S a0 a1) (M := Mk (impl_placeAt_L1 a0 a1) (impl_placeAt_L1_k) r) (k := [.blk 0, .code (cAt Try.f75 [1, 1])]) (Nat.lt_succ_self m1) hK1)
  · have hE : some (Ctl.brk ()) = some c1 := hM
    have hE := Option.some.inj hE
    subst hE
    exact pc R 5 [.as 10 false] [.keep [] []] (And.intro h2 True.intro) (by kernel_rfl) (K1 () hK1)

-- loop.example/g03014/impl.runs
def impl_runs_L1_b (a0 : Network) (a2 : Int) (s11 : Int) : Option (Ctl Int Unit Bool) :=
  bif (decide (s11 < (a0.Off.length : Int))) then
  (gi a0.Off s11).bind fun v13 =>
  bif (v13 == a2) then
  some (.ret false)
  else
  some (.next (w64 (s11 + 1)))
  else
  some (.brk ())
def impl_runs_L1 (a0 : Network) (a2 : Int) (s : Int) : Option (Ctl Int Unit Bool) := impl_runs_L1_b a0 a2 s
def impl_runs_L1_s (a0 : Network) (a2 : Int) (s11 : Int) : St := ⟨[(2, .o (.c (.v (.int .i64 a2)))), (37, .o (.c (.rs 1 (a0.Off.map encI)))), (38, .o (.c (.v (.int .i64 (a0.Off.length : Int))))), (39, .o (.c (.v (.int .i64 s11))))], []⟩
def impl_runs_L1_S (a0 : Network) (a2 : Int) (s : Int) : St := impl_runs_L1_s a0 a2 s
def impl_runs_L1_a : Option Bool :=
  some true
def impl_runs_L1_k (x : (Unit) ⊕ (Bool)) : Option Bool := match x with
  | .inl t => impl_runs_L1_a
  | .inr y => some y
def impl_runs (a0 : Network) (a1 : Int) (a2 : Int) : Option Bool :=
  bif (decide (a1 < 0)) then
  some false
  else
  bif (decide (a1 ≥ (a0.Legs.length : Int))) then
  some false
  else
  (impl_within a2 0 60).bind fun v3 =>
  bif (!v3) then
  some false
  else
  (gi a0.Legs a1).bind fun v6 =>
  (shrM v6.Days (Int.tmod a2 7)).bind fun v8 =>
  bif ((w64 ((BitVec.ofInt 64 v8 &&& BitVec.ofInt 64 1).toNat)) == 0) then
  some false
  else
  (loopM (impl_runs_L1 a0 a2) big 0).bind (impl_runs_L1_k)
theorem impl_runs_ok (a0 : Network) (a1 : Int) (a2 : Int) (r : Bool) (hM : impl_runs a0 a1 a2 = some r) :
    Con Try.prog 122 [.agg [.rs 6 (a0.Legs.map Leg.enc), .rs 1 (a0.Off.map encI), .v (.int .i64 a0.Change)], .c (.v (.int .i64 a1)), .c (.v (.int .i64 a2))] [] (.o (.c (.v (.bool r)))) [] [] := by
  unfold impl_runs at hM
  refine cn (N := 47) (pids := []) Try_mixed Try.func122 (by kernel_rfl) (by kernel_rfl) (by kernel_rfl) rfl fun ρ g w R => ?_
  rcases cond_cases hM with ⟨h1, hM⟩ | ⟨h1, hM⟩
  · have hE : some false = some r := hM
    have hE := Option.some.inj hE
    subst hE
    exact pr R 9999 [.new 0, .as 11 true] [] [] [] (And.intro h1 True.intro) (by kernel_rfl)
  · rcases cond_cases hM with ⟨h2, hM⟩ | ⟨h2, hM⟩
    · have hE : some false = some r := hM
      have hE := Option.some.inj hE
      subst hE
      exact pr R 9999 [.new 0, .as 11 false, .ln (a0.Legs.length), .as 18 true] [] [] [] (And.intro h1 (And.intro (lenm Leg.enc a0.Legs) (And.intro h2 True.intro))) (by kernel_rfl)
    · obtain ⟨v3, h4, hM⟩ := bind_some hM
      rcases cond_cases hM with ⟨h5, hM⟩ | ⟨h5, hM⟩
      · have hE : some false = some r := hM
        have hE := Option.some.inj hE
        subst hE
        exact pr R 9999 [.new 0, .as 11 false, .ln (a0.Legs.length), .as 18 false, .call false [] (.o (.c (.v (.bool v3)))) [] [], .as 23 true] [] [] [] (And.intro h1 (And.intro (lenm Leg.enc a0.Legs) (And.intro h2 (And.intro (impl_within_ok a2 0 60 v3 h4) (And.intro h5 True.intro))))) (by kernel_rfl)
      · obtain ⟨v6, h7, hM⟩ := bind_some hM
        obtain ⟨v8, h9, hM⟩ := bind_some hM
        rcases cond_cases hM with ⟨h10, hM⟩ | ⟨h10, hM⟩
        · have hE : some false = some r := hM
          have hE := Option.some.inj hE
          subst hE
          exact pr R 9999 [.new 0, .as 11 false, .ln (a0.Legs.length), .as 18 false, .call false [] (.o (.c (.v (.bool v3)))) [] [], .as 23 false, .ix (Leg.enc v6), .run 32 (.int .i64 v8), .as 35 true] [] [] [] (And.intro h1 (And.intro (lenm Leg.enc a0.Legs) (And.intro h2 (And.intro (impl_within_ok a2 0 60 v3 h4) (And.intro h5 (And.intro (gi_map Leg.enc h7) (And.intro (shrM_run (P := Try.prog) (t := 3) (x := .tmp 0) (y := .tmp 0) h9) (And.intro h10 True.intro)))))))) (by kernel_rfl)
        · have K1 : ∀ (_ : Unit), impl_runs_L1_a = some r → Gr R [.code (cAt Try.f122 [1, 1, 1])] (⟨[], []⟩) := by
            intro _ hM
            unfold impl_runs_L1_a at hM
            have hE : some true = some r := hM
            have hE := Option.some.inj hE
            subst hE
            exact pr R 9999 [] [] [] [] True.intro (by kernel_rfl)
          refine pc R 9999 [.new 0, .as 11 false, .ln (a0.Legs.length), .as 18 false, .call false [] (.o (.c (.v (.bool v3)))) [] [], .as 23 false, .ix (Leg.enc v6), .run 32 (.int .i64 v8), .as 35 false, .ln (a0.Off.length)] [.keep [2, 37, 38, 39] []] (k' := [.code (.loop (cAt Try.f122 [1, 1, 0, 1, 0, 0])), .blk 0, .code (cAt Try.f122 [1, 1, 1])]) (S' := impl_runs_L1_S a0 a2 0) (And.intro h1 (And.intro (lenm Leg.enc a0.Legs) (And.intro h2 (And.intro (impl_within_ok a2 0 60 v3 h4) (And.intro h5 (And.intro (gi_map Leg.enc h7) (And.intro (shrM_run (P := Try.prog) (t := 3) (x := .tmp 0) (y := .tmp 0) h9) (And.intro h10 (And.intro (lenm encI a0.Off) True.intro))))))))) (by kernel_rfl) ?_
          refine lq (impl_runs_L1_S a0 a2) (body := impl_runs_L1 a0 a2) (k := impl_runs_L1_k) hM fun m1 s c1 hM hK1 => ?_
          obtain ⟨s11, hs⟩ : ∃ z, z = s := ⟨_, rfl⟩
          subst hs
          have hM : impl_runs_L1_b a0 a2 s11 = some c1 := hM
          unfold impl_runs_L1_b at hM
          rcases cond_cases hM with ⟨h12, hM⟩ | ⟨h12, hM⟩
          · obtain ⟨v13, h14, hM⟩ := bind_some hM
            rcases cond_cases hM with ⟨h15, hM⟩ | ⟨h15, hM⟩
            · have hE : some (Ctl.ret false) = some c1 := hM
              have hE := Option.some.inj hE
              subst hE
              have hE : some false = some r := hK1
              have hE := Option.some.inj hE
              subst hE
              exact pr R 9999 [.as 40 true, .ix (encI v13), .as 45 true] [] [] [] (And.intro h12 (And.intro (gi_map encI h14) (And.intro h15 True.intro))) (by kernel_rfl)
            · have hE : some (Ctl.next (w64 (s11 + 1))) = some c1 := hM
              have hE := Option.some.inj hE
              subst hE
              exact pc R 9999 [.as 40 true, .ix (encI v13), .as 45 false] [.keep [2, 37, 38, 39] []] (And.intro h12 (And.intro (gi_map encI h14) (And.intro h15 True.intro))) (by kernel_rfl) (li (Sf := impl_runs_L1_S a0 a2) (M := Mk (impl_runs_L1 a0 a2) (impl_runs_L1_k) r) (k := [.blk 0, .code (cAt Try.f122 [1, 1, 1])]) (Nat.lt_succ_self m1) hK1)
          · have hE : some (Ctl.brk ()) = some c1 := hM
            have hE := Option.some.inj hE
            subst hE
            exact pc R 5 [.as 40 false] [.keep [] []] (And.intro h12 True.intro) (by kernel_rfl) (K1 () hK1)

-- loop.example/g03014/impl.RunsOn
def impl_RunsOn (a0 : Network) (a1 : Int) (a2 : Int) : Option Bool :=
  (impl_IsNetwork a0).bind fun v1 =>
  bif v1 then
  (impl_runs a0 a1 a2).bind fun v4 =>
  some v4
  else
  some false
theorem impl_RunsOn_ok (a0 : Network) (a1 : Int) (a2 : Int) (r : Bool) (hM : impl_RunsOn a0 a1 a2 = some r) :
    Con Try.prog 111 [.agg [.rs 6 (a0.Legs.map Leg.enc), .rs 1 (a0.Off.map encI), .v (.int .i64 a0.Change)], .c (.v (.int .i64 a1)), .c (.v (.int .i64 a2))] [] (.o (.c (.v (.bool r)))) [] [] := by
  unfold impl_RunsOn at hM
  refine cn (N := 15) (pids := []) Try_mixed Try.func111 (by kernel_rfl) (by kernel_rfl) (by kernel_rfl) rfl fun ρ g w R => ?_
  obtain ⟨v1, h2, hM⟩ := bind_some hM
  rcases cond_cases hM with ⟨h3, hM⟩ | ⟨h3, hM⟩
  · obtain ⟨v4, h5, hM⟩ := bind_some hM
    have hE : some v4 = some r := hM
    have hE := Option.some.inj hE
    subst hE
    exact pr R 9999 [.new 0, .call false [] (.o (.c (.v (.bool v1)))) [] [], .as 9 true, .call false [] (.o (.c (.v (.bool v4)))) [] []] [] [] [] (And.intro (impl_IsNetwork_ok a0 v1 h2) (And.intro h3 (And.intro (impl_runs_ok a0 a1 a2 v4 h5) True.intro))) (by kernel_rfl)
  · have hE : some false = some r := hM
    have hE := Option.some.inj hE
    subst hE
    exact pr R 9999 [.new 0, .call false [] (.o (.c (.v (.bool v1)))) [] [], .as 9 false] [] [] [] (And.intro (impl_IsNetwork_ok a0 v1 h2) (And.intro h3 True.intro)) (by kernel_rfl)

-- loop.example/g03014/impl.IsTrip
def impl_IsTrip (a0 : Network) (a1 : Trip) : Option Bool :=
  (impl_RunsOn a0 a1.Leg a1.Day).bind fun v1 =>
  some v1
theorem impl_IsTrip_ok (a0 : Network) (a1 : Trip) (r : Bool) (hM : impl_IsTrip a0 a1 = some r) :
    Con Try.prog 76 [.agg [.rs 6 (a0.Legs.map Leg.enc), .rs 1 (a0.Off.map encI), .v (.int .i64 a0.Change)], .c (.v (.agg (Trip.enc a1).toArray))] [] (.o (.c (.v (.bool r)))) [] [] := by
  unfold impl_IsTrip at hM
  refine cn (N := 11) (pids := []) Try_mixed Try.func76 (by kernel_rfl) (by kernel_rfl) (by kernel_rfl) rfl fun ρ g w R => ?_
  obtain ⟨v1, h2, hM⟩ := bind_some hM
  have hE : some v1 = some r := hM
  have hE := Option.some.inj hE
  subst hE
  exact pr R 9999 [.new 0, .new 1, .call false [] (.o (.c (.v (.bool v1)))) [] []] [] [] [] (And.intro (impl_RunsOn_ok a0 a1.Leg a1.Day v1 h2) True.intro) (by kernel_rfl)

-- loop.example/g03014/impl.starts
def impl_starts (a0 : Network) (a1 : Trip) : Option Int :=
  (gi a0.Legs a1.Leg).bind fun v1 =>
  some (w64 ((w64 (a1.Day * 1440)) + v1.Start))
theorem impl_starts_ok (a0 : Network) (a1 : Trip) (r : Int) (hM : impl_starts a0 a1 = some r) :
    Con Try.prog 77 [.agg [.rs 6 (a0.Legs.map Leg.enc), .rs 1 (a0.Off.map encI), .v (.int .i64 a0.Change)], .c (.v (.agg (Trip.enc a1).toArray))] [] (.o (.c (.v (.int .i64 r)))) [] [] := by
  unfold impl_starts at hM
  refine cn (N := 16) (pids := []) Try_mixed Try.func77 (by kernel_rfl) (by kernel_rfl) (by kernel_rfl) rfl fun ρ g w R => ?_
  obtain ⟨v1, h2, hM⟩ := bind_some hM
  have hE : some (w64 ((w64 (a1.Day * 1440)) + v1.Start)) = some r := hM
  have hE := Option.some.inj hE
  subst hE
  exact pr R 9999 [.new 0, .new 1, .ix (Leg.enc v1)] [] [] [] (And.intro (gi_map Leg.enc h2) True.intro) (by kernel_rfl)

-- loop.example/g03014/impl.ends
def impl_ends (a0 : Network) (a1 : Trip) : Option Int :=
  (impl_starts a0 a1).bind fun v1 =>
  (gi a0.Legs a1.Leg).bind fun v3 =>
  some (w64 (v1 + v3.Takes))
theorem impl_ends_ok (a0 : Network) (a1 : Trip) (r : Int) (hM : impl_ends a0 a1 = some r) :
    Con Try.prog 78 [.agg [.rs 6 (a0.Legs.map Leg.enc), .rs 1 (a0.Off.map encI), .v (.int .i64 a0.Change)], .c (.v (.agg (Trip.enc a1).toArray))] [] (.o (.c (.v (.int .i64 r)))) [] [] := by
  unfold impl_ends at hM
  refine cn (N := 16) (pids := []) Try_mixed Try.func78 (by kernel_rfl) (by kernel_rfl) (by kernel_rfl) rfl fun ρ g w R => ?_
  obtain ⟨v1, h2, hM⟩ := bind_some hM
  obtain ⟨v3, h4, hM⟩ := bind_some hM
  have hE : some (w64 (v1 + v3.Takes)) = some r := hM
  have hE := Option.some.inj hE
  subst hE
  exact pr R 9999 [.new 0, .new 1, .call false [] (.o (.c (.v (.int .i64 v1)))) [] [], .ix (Leg.enc v3)] [] [] [] (And.intro (impl_starts_ok a0 a1 v1 h2) (And.intro (gi_map Leg.enc h4) True.intro)) (by kernel_rfl)

-- loop.example/g03014/impl.IsWay
def impl_IsWay_L1_b (a0 : Network) (a1 : (List Trip)) (s12 : Int) (s13 : ByteArray) (s14 : Int) : Option (Ctl (Int × ByteArray × Int) ByteArray Bool) :=
  bif (decide (s14 < (a1.length : Int))) then
  (gi a1 s14).bind fun v17 =>
  (impl_IsTrip a0 v17).bind fun v19 =>
  bif (!v19) then
  some (.ret false)
  else
  (gi a0.Legs v17.Leg).bind fun v22 =>
  bif (!(v22.From.toList == s13.toList)) then
  some (.ret false)
  else
  (impl_starts a0 v17).bind fun v25 =>
  bif (decide (v25 < s12)) then
  some (.ret false)
  else
  (gi a0.Legs v17.Leg).bind fun v28 =>
  (gi a1 s14).bind fun v30 =>
  (impl_ends a0 v30).bind fun v32 =>
  some (.next (w64 (v32 + a0.Change), v28.To, w64 (s14 + 1)))
  else
  some (.brk s13)
def impl_IsWay_L1 (a0 : Network) (a1 : (List Trip)) (s : Int × ByteArray × Int) : Option (Ctl (Int × ByteArray × Int) ByteArray Bool) := impl_IsWay_L1_b a0 a1 s.1 s.2.1 s.2.2
def impl_IsWay_L1_s (a0 : Network) (a1 : (List Trip)) (a3 : ByteArray) (s12 : Int) (s13 : ByteArray) (s14 : Int) : St := ⟨[(1, .o (.c (.rs 2 (a1.map Trip.enc)))), (3, .o (.c (.v (.string a3)))), (4, .o (.c (.v (.int .i64 s12)))), (5, .o (.c (.ptr 0 0))), (12, .o (.c (.v (.string s13)))), (33, .o (.c (.rs 2 (a1.map Trip.enc)))), (34, .o (.c (.v (.int .i64 (a1.length : Int))))), (35, .o (.c (.v (.int .i64 s14))))], [(0, .box 32 [.rs 6 (a0.Legs.map Leg.enc), .rs 1 (a0.Off.map encI), .v (.int .i64 a0.Change)])]⟩
def impl_IsWay_L1_S (a0 : Network) (a1 : (List Trip)) (a3 : ByteArray) (s : Int × ByteArray × Int) : St := impl_IsWay_L1_s a0 a1 a3 s.1 s.2.1 s.2.2
def impl_IsWay_L1_a (a3 : ByteArray) (s15 : ByteArray) : Option Bool :=
  some (s15.toList == a3.toList)
def impl_IsWay_L1_k (a3 : ByteArray) (x : (ByteArray) ⊕ (Bool)) : Option Bool := match x with
  | .inl t => impl_IsWay_L1_a a3 t
  | .inr y => some y
def impl_IsWay (a0 : Network) (a1 : (List Trip)) (a2 : ByteArray) (a3 : ByteArray) (a4 : Int) : Option Bool :=
  (impl_PlacesOf a0).bind fun v1 =>
  (impl_IsNetwork a0).bind fun v3 =>
  bif (!v3) then
  some false
  else
  (impl_placeAt v1 a2).bind fun v6 =>
  bif (decide (v6 < 0)) then
  some false
  else
  (impl_placeAt v1 a3).bind fun v9 =>
  bif (decide (v9 < 0)) then
  some false
  else
  (loopM (impl_IsWay_L1 a0 a1) big (a4, a2, 0)).bind (impl_IsWay_L1_k a3)
theorem impl_IsWay_ok (a0 : Network) (a1 : (List Trip)) (a2 : ByteArray) (a3 : ByteArray) (a4 : Int) (r : Bool) (hM : impl_IsWay a0 a1 a2 a3 a4 = some r) :
    Con Try.prog 25 [.agg [.rs 6 (a0.Legs.map Leg.enc), .rs 1 (a0.Off.map encI), .v (.int .i64 a0.Change)], .c (.rs 2 (a1.map Trip.enc)), .c (.v (.string a2)), .c (.v (.string a3)), .c (.v (.int .i64 a4))] [] (.o (.c (.v (.bool r)))) [] [] := by
  unfold impl_IsWay at hM
  refine cn (N := 82) (pids := []) Try_mixed Try.func25 (by kernel_rfl) (by kernel_rfl) (by kernel_rfl) rfl fun ρ g w R => ?_
  obtain ⟨v1, h2, hM⟩ := bind_some hM
  obtain ⟨v3, h4, hM⟩ := bind_some hM
  rcases cond_cases hM with ⟨h5, hM⟩ | ⟨h5, hM⟩
  · have hE : some false = some r := hM
    have hE := Option.some.inj hE
    subst hE
    exact pr R 9999 [.new 0, .call false [] (.o (.c (.sl 1))) [] [(1, .row 9 1 (v1.map encS))], .call false [] (.o (.c (.v (.bool v3)))) [] [], .as 20 true] [] [] [] (And.intro (And.intro (con_sw 1000 1 (impl_PlacesOf_ok a0 v1 h2)) (rfl : ([] : List Nat) = [])) (And.intro (impl_IsNetwork_ok a0 v3 h4) (And.intro h5 True.intro))) (by kernel_rfl)
  · obtain ⟨v6, h7, hM⟩ := bind_some hM
    rcases cond_cases hM with ⟨h8, hM⟩ | ⟨h8, hM⟩
    · have hE : some false = some r := hM
      have hE := Option.some.inj hE
      subst hE
      exact pr R 9999 [.new 0, .call false [] (.o (.c (.sl 1))) [] [(1, .row 9 1 (v1.map encS))], .call false [] (.o (.c (.v (.bool v3)))) [] [], .as 20 false, .call false [] (.o (.c (.v (.int .i64 v6)))) [] [], .as 26 true] [] [] [] (And.intro (And.intro (con_sw 1000 1 (impl_PlacesOf_ok a0 v1 h2)) (rfl : ([] : List Nat) = [])) (And.intro (impl_IsNetwork_ok a0 v3 h4) (And.intro h5 (And.intro (impl_placeAt_ok v1 a2 v6 h7) (And.intro h8 True.intro))))) (by kernel_rfl)
    · obtain ⟨v9, h10, hM⟩ := bind_some hM
      rcases cond_cases hM with ⟨h11, hM⟩ | ⟨h11, hM⟩
      · have hE : some false = some r := hM
        have hE := Option.some.inj hE
        subst hE
        exact pr R 9999 [.new 0, .call false [] (.o (.c (.sl 1))) [] [(1, .row 9 1 (v1.map encS))], .call false [] (.o (.c (.v (.bool v3)))) [] [], .as 20 false, .call false [] (.o (.c (.v (.int .i64 v6)))) [] [], .as 26 false, .call false [] (.o (.c (.v (.int .i64 v9)))) [] [], .as 31 true] [] [] [] (And.intro (And.intro (con_sw 1000 1 (impl_PlacesOf_ok a0 v1 h2)) (rfl : ([] : List Nat) = [])) (And.intro (impl_IsNetwork_ok a0 v3 h4) (And.intro h5 (And.intro (impl_placeAt_ok v1 a2 v6 h7) (And.intro h8 (And.intro (impl_placeAt_ok v1 a3 v9 h10) (And.intro h11 True.intro))))))) (by kernel_rfl)
      · have K1 : ∀ (s15 : ByteArray), impl_IsWay_L1_a a3 s15 = some r → Gr R [.code (cAt Try.f25 [1, 1, 1, 1, 1])] (⟨[(3, .o (.c (.v (.string a3)))), (12, .o (.c (.v (.string s15))))], []⟩) := by
          intro s15 hM
          unfold impl_IsWay_L1_a at hM
          have hE : some (s15.toList == a3.toList) = some r := hM
          have hE := Option.some.inj hE
          subst hE
          exact pr R 9999 [] [] [] [] True.intro (by kernel_rfl)
        refine pc R 9999 [.new 0, .call false [] (.o (.c (.sl 1))) [] [(1, .row 9 1 (v1.map encS))], .call false [] (.o (.c (.v (.bool v3)))) [] [], .as 20 false, .call false [] (.o (.c (.v (.int .i64 v6)))) [] [], .as 26 false, .call false [] (.o (.c (.v (.int .i64 v9)))) [] [], .as 31 false, .ln (a1.length)] [.keep [1, 3, 4, 5, 12, 33, 34, 35] [0]] (k' := [.code (.loop (cAt Try.f25 [1, 1, 1, 1, 0, 1, 0, 0])), .blk 0, .code (cAt Try.f25 [1, 1, 1, 1, 1])]) (S' := impl_IsWay_L1_S a0 a1 a3 (a4, a2, 0)) (And.intro (And.intro (con_sw 1000 1 (impl_PlacesOf_ok a0 v1 h2)) (rfl : ([] : List Nat) = [])) (And.intro (impl_IsNetwork_ok a0 v3 h4) (And.intro h5 (And.intro (impl_placeAt_ok v1 a2 v6 h7) (And.intro h8 (And.intro (impl_placeAt_ok v1 a3 v9 h10) (And.intro h11 (And.intro (lenm Trip.enc a1) True.intro)))))))) (by kernel_rfl) ?_
        refine lq (impl_IsWay_L1_S a0 a1 a3) (body := impl_IsWay_L1 a0 a1) (k := impl_IsWay_L1_k a3) hM fun m1 s c1 hM hK1 => ?_
        obtain ⟨s12, s13, s14⟩ := s
        have hM : impl_IsWay_L1_b a0 a1 s12 s13 s14 = some c1 := hM
        unfold impl_IsWay_L1_b at hM
        rcases cond_cases hM with ⟨h16, hM⟩ | ⟨h16, hM⟩
        · obtain ⟨v17, h18, hM⟩ := bind_some hM
          obtain ⟨v19, h20, hM⟩ := bind_some hM
          rcases cond_cases hM with ⟨h21, hM⟩ | ⟨h21, hM⟩
          · have hE : some (Ctl.ret false) = some c1 := hM
            have hE := Option.some.inj hE
            subst hE
            have hE : some false = some r := hK1
            have hE := Option.some.inj hE
            subst hE
            exact pr R 9999 [.as 36 true, .ix (Trip.enc v17), .new 2, .call false [] (.o (.c (.v (.bool v19)))) [] [], .as 44 true] [] [] [] (And.intro h16 (And.intro (gi_map Trip.enc h18) (And.intro (impl_IsTrip_ok a0 v17 v19 h20) (And.intro h21 True.intro)))) (by kernel_rfl)
          · obtain ⟨v22, h23, hM⟩ := bind_some hM
            rcases cond_cases hM with ⟨h24, hM⟩ | ⟨h24, hM⟩
            · have hE : some (Ctl.ret false) = some c1 := hM
              have hE := Option.some.inj hE
              subst hE
              have hE : some false = some r := hK1
              have hE := Option.some.inj hE
              subst hE
              exact pr R 9999 [.as 36 true, .ix (Trip.enc v17), .new 2, .call false [] (.o (.c (.v (.bool v19)))) [] [], .as 44 false, .ix (Leg.enc v22), .as 55 true] [] [] [] (And.intro h16 (And.intro (gi_map Trip.enc h18) (And.intro (impl_IsTrip_ok a0 v17 v19 h20) (And.intro h21 (And.intro (gi_map Leg.enc h23) (And.intro h24 True.intro)))))) (by kernel_rfl)
            · obtain ⟨v25, h26, hM⟩ := bind_some hM
              rcases cond_cases hM with ⟨h27, hM⟩ | ⟨h27, hM⟩
              · have hE : some (Ctl.ret false) = some c1 := hM
                have hE := Option.some.inj hE
                subst hE
                have hE : some false = some r := hK1
                have hE := Option.some.inj hE
                subst hE
                exact pr R 9999 [.as 36 true, .ix (Trip.enc v17), .new 2, .call false [] (.o (.c (.v (.bool v19)))) [] [], .as 44 false, .ix (Leg.enc v22), .as 55 false, .call false [] (.o (.c (.v (.int .i64 v25)))) [] [], .as 61 true] [] [] [] (And.intro h16 (And.intro (gi_map Trip.enc h18) (And.intro (impl_IsTrip_ok a0 v17 v19 h20) (And.intro h21 (And.intro (gi_map Leg.enc h23) (And.intro h24 (And.intro (impl_starts_ok a0 v17 v25 h26) (And.intro h27 True.intro)))))))) (by kernel_rfl)
              · obtain ⟨v28, h29, hM⟩ := bind_some hM
                obtain ⟨v30, h31, hM⟩ := bind_some hM
                obtain ⟨v32, h33, hM⟩ := bind_some hM
                have hE : some (Ctl.next (w64 (v32 + a0.Change), v28.To, w64 (s14 + 1))) = some c1 := hM
                have hE := Option.some.inj hE
                subst hE
                exact pc R 9999 [.as 36 true, .ix (Trip.enc v17), .new 2, .call false [] (.o (.c (.v (.bool v19)))) [] [], .as 44 false, .ix (Leg.enc v22), .as 55 false, .call false [] (.o (.c (.v (.int .i64 v25)))) [] [], .as 61 false, .ix (Leg.enc v28), .ix (Trip.enc v30), .call false [] (.o (.c (.v (.int .i64 v32)))) [] []] [.keep [1, 3, 4, 5, 12, 33, 34, 35] [0]] (And.intro h16 (And.intro (gi_map Trip.enc h18) (And.intro (impl_IsTrip_ok a0 v17 v19 h20) (And.intro h21 (And.intro (gi_map Leg.enc h23) (And.intro h24 (And.intro (impl_starts_ok a0 v17 v25 h26) (And.intro h27 (And.intro (gi_map Leg.enc h29) (And.intro (gi_map Trip.enc h31) (And.intro (impl_ends_ok a0 v30 v32 h33) True.intro))))))))))) (by kernel_rfl) (li (Sf := impl_IsWay_L1_S a0 a1 a3) (M := Mk (impl_IsWay_L1 a0 a1) (impl_IsWay_L1_k a3) r) (k := [.blk 0, .code (cAt Try.f25 [1, 1, 1, 1, 1])]) (Nat.lt_succ_self m1) hK1)
        · have hE : some (Ctl.brk s13) = some c1 := hM
          have hE := Option.some.inj hE
          subst hE
          exact pc R 5 [.as 36 false] [.keep [3, 12] []] (And.intro h16 True.intro) (by kernel_rfl) (K1 s13 hK1)

-- loop.example/g03014/laws.eqLeg
def laws_eqLeg (a0 : Leg) (a1 : Leg) : Option Bool :=
  bif (!(a0.From.toList == a1.From.toList)) then
  some false
  else
  bif (!(a0.To.toList == a1.To.toList)) then
  some false
  else
  bif (a0.Start != a1.Start) then
  some false
  else
  bif (a0.Takes != a1.Takes) then
  some false
  else
  bif (a0.Days != a1.Days) then
  some false
  else
  bif (a0.Room != a1.Room) then
  some false
  else
  some true
theorem laws_eqLeg_ok (a0 : Leg) (a1 : Leg) (r : Bool) (hM : laws_eqLeg a0 a1 = some r) :
    Con Try.prog 107 [.c (.v (.agg (Leg.enc a0).toArray)), .c (.v (.agg (Leg.enc a1).toArray))] [] (.o (.c (.v (.bool r)))) [] [] := by
  unfold laws_eqLeg at hM
  refine cn (N := 35) (pids := []) Try_mixed Try.func107 (by kernel_rfl) (by kernel_rfl) (by kernel_rfl) rfl fun ρ g w R => ?_
  rcases cond_cases hM with ⟨h1, hM⟩ | ⟨h1, hM⟩
  · have hE : some false = some r := hM
    have hE := Option.some.inj hE
    subst hE
    exact pr R 9999 [.new 0, .new 1, .as 9 true] [] [] [] (And.intro h1 True.intro) (by kernel_rfl)
  · rcases cond_cases hM with ⟨h2, hM⟩ | ⟨h2, hM⟩
    · have hE : some false = some r := hM
      have hE := Option.some.inj hE
      subst hE
      exact pr R 9999 [.new 0, .new 1, .as 9 false, .as 14 true] [] [] [] (And.intro h1 (And.intro h2 True.intro)) (by kernel_rfl)
    · rcases cond_cases hM with ⟨h3, hM⟩ | ⟨h3, hM⟩
      · have hE : some false = some r := hM
        have hE := Option.some.inj hE
        subst hE
        exact pr R 9999 [.new 0, .new 1, .as 9 false, .as 14 false, .as 19 true] [] [] [] (And.intro h1 (And.intro h2 (And.intro h3 True.intro))) (by kernel_rfl)
      · rcases cond_cases hM with ⟨h4, hM⟩ | ⟨h4, hM⟩
        · have hE : some false = some r := hM
          have hE := Option.some.inj hE
          subst hE
          exact pr R 9999 [.new 0, .new 1, .as 9 false, .as 14 false, .as 19 false, .as 24 true] [] [] [] (And.intro h1 (And.intro h2 (And.intro h3 (And.intro h4 True.intro)))) (by kernel_rfl)
        · rcases cond_cases hM with ⟨h5, hM⟩ | ⟨h5, hM⟩
          · have hE : some false = some r := hM
            have hE := Option.some.inj hE
            subst hE
            exact pr R 9999 [.new 0, .new 1, .as 9 false, .as 14 false, .as 19 false, .as 24 false, .as 29 true] [] [] [] (And.intro h1 (And.intro h2 (And.intro h3 (And.intro h4 (And.intro h5 True.intro))))) (by kernel_rfl)
          · rcases cond_cases hM with ⟨h6, hM⟩ | ⟨h6, hM⟩
            · have hE : some false = some r := hM
              have hE := Option.some.inj hE
              subst hE
              exact pr R 9999 [.new 0, .new 1, .as 9 false, .as 14 false, .as 19 false, .as 24 false, .as 29 false, .as 34 true] [] [] [] (And.intro h1 (And.intro h2 (And.intro h3 (And.intro h4 (And.intro h5 (And.intro h6 True.intro)))))) (by kernel_rfl)
            · have hE : some true = some r := hM
              have hE := Option.some.inj hE
              subst hE
              exact pr R 9999 [.new 0, .new 1, .as 9 false, .as 14 false, .as 19 false, .as 24 false, .as 29 false, .as 34 false] [] [] [] (And.intro h1 (And.intro h2 (And.intro h3 (And.intro h4 (And.intro h5 (And.intro h6 True.intro)))))) (by kernel_rfl)

-- loop.example/g03014/laws.eqLegS
def laws_eqLegS_L1_b (a0 : (List Leg)) (a1 : (List Leg)) (s2 : Int) : Option (Ctl Int Unit Bool) :=
  bif (decide (s2 < (a0.length : Int))) then
  (gi a0 s2).bind fun v4 =>
  (gi a1 s2).bind fun v6 =>
  (laws_eqLeg v4 v6).bind fun v8 =>
  bif (!v8) then
  some (.ret false)
  else
  some (.next (w64 (s2 + 1)))
  else
  some (.brk ())
def laws_eqLegS_L1 (a0 : (List Leg)) (a1 : (List Leg)) (s : Int) : Option (Ctl Int Unit Bool) := laws_eqLegS_L1_b a0 a1 s
def laws_eqLegS_L1_s (a0 : (List Leg)) (a1 : (List Leg)) (s2 : Int) : St := ⟨[(0, .o (.c (.rs 6 (a0.map Leg.enc)))), (1, .o (.c (.rs 6 (a1.map Leg.enc)))), (5, .o (.c (.v (.int .i64 s2))))], []⟩
def laws_eqLegS_L1_S (a0 : (List Leg)) (a1 : (List Leg)) (s : Int) : St := laws_eqLegS_L1_s a0 a1 s
def laws_eqLegS_L1_a : Option Bool :=
  some true
def laws_eqLegS_L1_k (x : (Unit) ⊕ (Bool)) : Option Bool := match x with
  | .inl t => laws_eqLegS_L1_a
  | .inr y => some y
def laws_eqLegS (a0 : (List Leg)) (a1 : (List Leg)) : Option Bool :=
  bif ((a0.length : Int) != (a1.length : Int)) then
  some false
  else
  (loopM (laws_eqLegS_L1 a0 a1) big 0).bind (laws_eqLegS_L1_k)
theorem laws_eqLegS_ok (a0 : (List Leg)) (a1 : (List Leg)) (r : Bool) (hM : laws_eqLegS a0 a1 = some r) :
    Con Try.prog 67 [.c (.rs 6 (a0.map Leg.enc)), .c (.rs 6 (a1.map Leg.enc))] [] (.o (.c (.v (.bool r)))) [] [] := by
  unfold laws_eqLegS at hM
  refine cn (N := 27) (pids := []) Try_mixed Try.func67 (by kernel_rfl) (by kernel_rfl) (by kernel_rfl) rfl fun ρ g w R => ?_
  rcases cond_cases hM with ⟨h1, hM⟩ | ⟨h1, hM⟩
  · have hE : some false = some r := hM
    have hE := Option.some.inj hE
    subst hE
    exact pr R 9999 [.ln (a0.length), .ln (a1.length), .as 10 true] [] [] [] (And.intro (lenm Leg.enc a0) (And.intro (lenm Leg.enc a1) (And.intro h1 True.intro))) (by kernel_rfl)
  · have K1 : ∀ (_ : Unit), laws_eqLegS_L1_a = some r → Gr R [.code (cAt Try.f67 [1, 1, 1])] (⟨[], []⟩) := by
      intro _ hM
      unfold laws_eqLegS_L1_a at hM
      have hE : some true = some r := hM
      have hE := Option.some.inj hE
      subst hE
      exact pr R 9999 [] [] [] [] True.intro (by kernel_rfl)
    refine pc R 9999 [.ln (a0.length), .ln (a1.length), .as 10 false] [.keep [0, 1, 5] []] (k' := [.code (.loop (cAt Try.f67 [1, 1, 0, 1, 0, 0])), .blk 0, .code (cAt Try.f67 [1, 1, 1])]) (S' := laws_eqLegS_L1_S a0 a1 0) (And.intro (lenm Leg.enc a0) (And.intro (lenm Leg.enc a1) (And.intro h1 True.intro))) (by kernel_rfl) ?_
    refine lq (laws_eqLegS_L1_S a0 a1) (body := laws_eqLegS_L1 a0 a1) (k := laws_eqLegS_L1_k) hM fun m1 s c1 hM hK1 => ?_
    obtain ⟨s2, hs⟩ : ∃ z, z = s := ⟨_, rfl⟩
    subst hs
    have hM : laws_eqLegS_L1_b a0 a1 s2 = some c1 := hM
    unfold laws_eqLegS_L1_b at hM
    rcases cond_cases hM with ⟨h3, hM⟩ | ⟨h3, hM⟩
    · obtain ⟨v4, h5, hM⟩ := bind_some hM
      obtain ⟨v6, h7, hM⟩ := bind_some hM
      obtain ⟨v8, h9, hM⟩ := bind_some hM
      rcases cond_cases hM with ⟨h10, hM⟩ | ⟨h10, hM⟩
      · have hE : some (Ctl.ret false) = some c1 := hM
        have hE := Option.some.inj hE
        subst hE
        have hE : some false = some r := hK1
        have hE := Option.some.inj hE
        subst hE
        exact pr R 9999 [.ln (a0.length), .as 14 true, .ix (Leg.enc v4), .ix (Leg.enc v6), .call false [] (.o (.c (.v (.bool v8)))) [] [], .as 26 true] [] [] [] (And.intro (lenm Leg.enc a0) (And.intro h3 (And.intro (gi_map Leg.enc h5) (And.intro (gi_map Leg.enc h7) (And.intro (laws_eqLeg_ok v4 v6 v8 h9) (And.intro h10 True.intro)))))) (by kernel_rfl)
      · have hE : some (Ctl.next (w64 (s2 + 1))) = some c1 := hM
        have hE := Option.some.inj hE
        subst hE
        exact pc R 9999 [.ln (a0.length), .as 14 true, .ix (Leg.enc v4), .ix (Leg.enc v6), .call false [] (.o (.c (.v (.bool v8)))) [] [], .as 26 false] [.keep [0, 1, 5] []] (And.intro (lenm Leg.enc a0) (And.intro h3 (And.intro (gi_map Leg.enc h5) (And.intro (gi_map Leg.enc h7) (And.intro (laws_eqLeg_ok v4 v6 v8 h9) (And.intro h10 True.intro)))))) (by kernel_rfl) (li (Sf := laws_eqLegS_L1_S a0 a1) (M := Mk (laws_eqLegS_L1 a0 a1) (laws_eqLegS_L1_k) r) (k := [.blk 0, .code (cAt Try.f67 [1, 1, 1])]) (Nat.lt_succ_self m1) hK1)
    · have hE : some (Ctl.brk ()) = some c1 := hM
      have hE := Option.some.inj hE
      subst hE
      exact pc R 5 [.ln (a0.length), .as 14 false] [.keep [] []] (And.intro (lenm Leg.enc a0) (And.intro h3 True.intro)) (by kernel_rfl) (K1 () hK1)

-- loop.example/g03014/laws.eqIntS
def laws_eqIntS_L1_b (a0 : (List Int)) (a1 : (List Int)) (s2 : Int) : Option (Ctl Int Unit Bool) :=
  bif (decide (s2 < (a0.length : Int))) then
  (gi a0 s2).bind fun v4 =>
  (gi a1 s2).bind fun v6 =>
  bif (v4 != v6) then
  some (.ret false)
  else
  some (.next (w64 (s2 + 1)))
  else
  some (.brk ())
def laws_eqIntS_L1 (a0 : (List Int)) (a1 : (List Int)) (s : Int) : Option (Ctl Int Unit Bool) := laws_eqIntS_L1_b a0 a1 s
def laws_eqIntS_L1_s (a0 : (List Int)) (a1 : (List Int)) (s2 : Int) : St := ⟨[(0, .o (.c (.rs 1 (a0.map encI)))), (1, .o (.c (.rs 1 (a1.map encI)))), (5, .o (.c (.v (.int .i64 s2))))], []⟩
def laws_eqIntS_L1_S (a0 : (List Int)) (a1 : (List Int)) (s : Int) : St := laws_eqIntS_L1_s a0 a1 s
def laws_eqIntS_L1_a : Option Bool :=
  some true
def laws_eqIntS_L1_k (x : (Unit) ⊕ (Bool)) : Option Bool := match x with
  | .inl t => laws_eqIntS_L1_a
  | .inr y => some y
def laws_eqIntS (a0 : (List Int)) (a1 : (List Int)) : Option Bool :=
  bif ((a0.length : Int) != (a1.length : Int)) then
  some false
  else
  (loopM (laws_eqIntS_L1 a0 a1) big 0).bind (laws_eqIntS_L1_k)
theorem laws_eqIntS_ok (a0 : (List Int)) (a1 : (List Int)) (r : Bool) (hM : laws_eqIntS a0 a1 = some r) :
    Con Try.prog 37 [.c (.rs 1 (a0.map encI)), .c (.rs 1 (a1.map encI))] [] (.o (.c (.v (.bool r)))) [] [] := by
  unfold laws_eqIntS at hM
  refine cn (N := 26) (pids := []) Try_mixed Try.func37 (by kernel_rfl) (by kernel_rfl) (by kernel_rfl) rfl fun ρ g w R => ?_
  rcases cond_cases hM with ⟨h1, hM⟩ | ⟨h1, hM⟩
  · have hE : some false = some r := hM
    have hE := Option.some.inj hE
    subst hE
    exact pr R 9999 [.ln (a0.length), .ln (a1.length), .as 10 true] [] [] [] (And.intro (lenm encI a0) (And.intro (lenm encI a1) (And.intro h1 True.intro))) (by kernel_rfl)
  · have K1 : ∀ (_ : Unit), laws_eqIntS_L1_a = some r → Gr R [.code (cAt Try.f37 [1, 1, 1])] (⟨[], []⟩) := by
      intro _ hM
      unfold laws_eqIntS_L1_a at hM
      have hE : some true = some r := hM
      have hE := Option.some.inj hE
      subst hE
      exact pr R 9999 [] [] [] [] True.intro (by kernel_rfl)
    refine pc R 9999 [.ln (a0.length), .ln (a1.length), .as 10 false] [.keep [0, 1, 5] []] (k' := [.code (.loop (cAt Try.f37 [1, 1, 0, 1, 0, 0])), .blk 0, .code (cAt Try.f37 [1, 1, 1])]) (S' := laws_eqIntS_L1_S a0 a1 0) (And.intro (lenm encI a0) (And.intro (lenm encI a1) (And.intro h1 True.intro))) (by kernel_rfl) ?_
    refine lq (laws_eqIntS_L1_S a0 a1) (body := laws_eqIntS_L1 a0 a1) (k := laws_eqIntS_L1_k) hM fun m1 s c1 hM hK1 => ?_
    obtain ⟨s2, hs⟩ : ∃ z, z = s := ⟨_, rfl⟩
    subst hs
    have hM : laws_eqIntS_L1_b a0 a1 s2 = some c1 := hM
    unfold laws_eqIntS_L1_b at hM
    rcases cond_cases hM with ⟨h3, hM⟩ | ⟨h3, hM⟩
    · obtain ⟨v4, h5, hM⟩ := bind_some hM
      obtain ⟨v6, h7, hM⟩ := bind_some hM
      rcases cond_cases hM with ⟨h8, hM⟩ | ⟨h8, hM⟩
      · have hE : some (Ctl.ret false) = some c1 := hM
        have hE := Option.some.inj hE
        subst hE
        have hE : some false = some r := hK1
        have hE := Option.some.inj hE
        subst hE
        exact pr R 9999 [.ln (a0.length), .as 14 true, .ix (encI v4), .ix (encI v6), .as 25 true] [] [] [] (And.intro (lenm encI a0) (And.intro h3 (And.intro (gi_map encI h5) (And.intro (gi_map encI h7) (And.intro h8 True.intro))))) (by kernel_rfl)
      · have hE : some (Ctl.next (w64 (s2 + 1))) = some c1 := hM
        have hE := Option.some.inj hE
        subst hE
        exact pc R 9999 [.ln (a0.length), .as 14 true, .ix (encI v4), .ix (encI v6), .as 25 false] [.keep [0, 1, 5] []] (And.intro (lenm encI a0) (And.intro h3 (And.intro (gi_map encI h5) (And.intro (gi_map encI h7) (And.intro h8 True.intro))))) (by kernel_rfl) (li (Sf := laws_eqIntS_L1_S a0 a1) (M := Mk (laws_eqIntS_L1 a0 a1) (laws_eqIntS_L1_k) r) (k := [.blk 0, .code (cAt Try.f37 [1, 1, 1])]) (Nat.lt_succ_self m1) hK1)
    · have hE : some (Ctl.brk ()) = some c1 := hM
      have hE := Option.some.inj hE
      subst hE
      exact pc R 5 [.ln (a0.length), .as 14 false] [.keep [] []] (And.intro (lenm encI a0) (And.intro h3 True.intro)) (by kernel_rfl) (K1 () hK1)

-- loop.example/g03014/laws.eqNetwork
def laws_eqNetwork (a0 : Network) (a1 : Network) : Option Bool :=
  (laws_eqLegS a0.Legs a1.Legs).bind fun v1 =>
  bif (!v1) then
  some false
  else
  (laws_eqIntS a0.Off a1.Off).bind fun v4 =>
  bif (!v4) then
  some false
  else
  bif (a0.Change != a1.Change) then
  some false
  else
  some true
theorem laws_eqNetwork_ok (a0 : Network) (a1 : Network) (r : Bool) (hM : laws_eqNetwork a0 a1 = some r) :
    Con Try.prog 18 [.agg [.rs 6 (a0.Legs.map Leg.enc), .rs 1 (a0.Off.map encI), .v (.int .i64 a0.Change)], .agg [.rs 6 (a1.Legs.map Leg.enc), .rs 1 (a1.Off.map encI), .v (.int .i64 a1.Change)]] [] (.o (.c (.v (.bool r)))) [] [] := by
  unfold laws_eqNetwork at hM
  refine cn (N := 22) (pids := []) Try_mixed Try.func18 (by kernel_rfl) (by kernel_rfl) (by kernel_rfl) rfl fun ρ g w R => ?_
  obtain ⟨v1, h2, hM⟩ := bind_some hM
  rcases cond_cases hM with ⟨h3, hM⟩ | ⟨h3, hM⟩
  · have hE : some false = some r := hM
    have hE := Option.some.inj hE
    subst hE
    exact pr R 9999 [.new 0, .new 1, .call false [] (.o (.c (.v (.bool v1)))) [] [], .as 10 true] [] [] [] (And.intro (laws_eqLegS_ok a0.Legs a1.Legs v1 h2) (And.intro h3 True.intro)) (by kernel_rfl)
  · obtain ⟨v4, h5, hM⟩ := bind_some hM
    rcases cond_cases hM with ⟨h6, hM⟩ | ⟨h6, hM⟩
    · have hE : some false = some r := hM
      have hE := Option.some.inj hE
      subst hE
      exact pr R 9999 [.new 0, .new 1, .call false [] (.o (.c (.v (.bool v1)))) [] [], .as 10 false, .call false [] (.o (.c (.v (.bool v4)))) [] [], .as 16 true] [] [] [] (And.intro (laws_eqLegS_ok a0.Legs a1.Legs v1 h2) (And.intro h3 (And.intro (laws_eqIntS_ok a0.Off a1.Off v4 h5) (And.intro h6 True.intro)))) (by kernel_rfl)
    · rcases cond_cases hM with ⟨h7, hM⟩ | ⟨h7, hM⟩
      · have hE : some false = some r := hM
        have hE := Option.some.inj hE
        subst hE
        exact pr R 9999 [.new 0, .new 1, .call false [] (.o (.c (.v (.bool v1)))) [] [], .as 10 false, .call false [] (.o (.c (.v (.bool v4)))) [] [], .as 16 false, .as 21 true] [] [] [] (And.intro (laws_eqLegS_ok a0.Legs a1.Legs v1 h2) (And.intro h3 (And.intro (laws_eqIntS_ok a0.Off a1.Off v4 h5) (And.intro h6 (And.intro h7 True.intro))))) (by kernel_rfl)
      · have hE : some true = some r := hM
        have hE := Option.some.inj hE
        subst hE
        exact pr R 9999 [.new 0, .new 1, .call false [] (.o (.c (.v (.bool v1)))) [] [], .as 10 false, .call false [] (.o (.c (.v (.bool v4)))) [] [], .as 16 false, .as 21 false] [] [] [] (And.intro (laws_eqLegS_ok a0.Legs a1.Legs v1 h2) (And.intro h3 (And.intro (laws_eqIntS_ok a0.Off a1.Off v4 h5) (And.intro h6 (And.intro h7 True.intro))))) (by kernel_rfl)

-- loop.example/g03014/laws.eqTrip
def laws_eqTrip (a0 : Trip) (a1 : Trip) : Option Bool :=
  bif (a0.Leg != a1.Leg) then
  some false
  else
  bif (a0.Day != a1.Day) then
  some false
  else
  some true
theorem laws_eqTrip_ok (a0 : Trip) (a1 : Trip) (r : Bool) (hM : laws_eqTrip a0 a1 = some r) :
    Con Try.prog 66 [.c (.v (.agg (Trip.enc a0).toArray)), .c (.v (.agg (Trip.enc a1).toArray))] [] (.o (.c (.v (.bool r)))) [] [] := by
  unfold laws_eqTrip at hM
  refine cn (N := 15) (pids := []) Try_mixed Try.func66 (by kernel_rfl) (by kernel_rfl) (by kernel_rfl) rfl fun ρ g w R => ?_
  rcases cond_cases hM with ⟨h1, hM⟩ | ⟨h1, hM⟩
  · have hE : some false = some r := hM
    have hE := Option.some.inj hE
    subst hE
    exact pr R 9999 [.new 0, .new 1, .as 9 true] [] [] [] (And.intro h1 True.intro) (by kernel_rfl)
  · rcases cond_cases hM with ⟨h2, hM⟩ | ⟨h2, hM⟩
    · have hE : some false = some r := hM
      have hE := Option.some.inj hE
      subst hE
      exact pr R 9999 [.new 0, .new 1, .as 9 false, .as 14 true] [] [] [] (And.intro h1 (And.intro h2 True.intro)) (by kernel_rfl)
    · have hE : some true = some r := hM
      have hE := Option.some.inj hE
      subst hE
      exact pr R 9999 [.new 0, .new 1, .as 9 false, .as 14 false] [] [] [] (And.intro h1 (And.intro h2 True.intro)) (by kernel_rfl)

-- loop.example/g03014/laws.eqTripS
def laws_eqTripS_L1_b (a0 : (List Trip)) (a1 : (List Trip)) (s2 : Int) : Option (Ctl Int Unit Bool) :=
  bif (decide (s2 < (a0.length : Int))) then
  (gi a0 s2).bind fun v4 =>
  (gi a1 s2).bind fun v6 =>
  (laws_eqTrip v4 v6).bind fun v8 =>
  bif (!v8) then
  some (.ret false)
  else
  some (.next (w64 (s2 + 1)))
  else
  some (.brk ())
def laws_eqTripS_L1 (a0 : (List Trip)) (a1 : (List Trip)) (s : Int) : Option (Ctl Int Unit Bool) := laws_eqTripS_L1_b a0 a1 s
def laws_eqTripS_L1_s (a0 : (List Trip)) (a1 : (List Trip)) (s2 : Int) : St := ⟨[(0, .o (.c (.rs 2 (a0.map Trip.enc)))), (1, .o (.c (.rs 2 (a1.map Trip.enc)))), (5, .o (.c (.v (.int .i64 s2))))], []⟩
def laws_eqTripS_L1_S (a0 : (List Trip)) (a1 : (List Trip)) (s : Int) : St := laws_eqTripS_L1_s a0 a1 s
def laws_eqTripS_L1_a : Option Bool :=
  some true
def laws_eqTripS_L1_k (x : (Unit) ⊕ (Bool)) : Option Bool := match x with
  | .inl t => laws_eqTripS_L1_a
  | .inr y => some y
def laws_eqTripS (a0 : (List Trip)) (a1 : (List Trip)) : Option Bool :=
  bif ((a0.length : Int) != (a1.length : Int)) then
  some false
  else
  (loopM (laws_eqTripS_L1 a0 a1) big 0).bind (laws_eqTripS_L1_k)
theorem laws_eqTripS_ok (a0 : (List Trip)) (a1 : (List Trip)) (r : Bool) (hM : laws_eqTripS a0 a1 = some r) :
    Con Try.prog 17 [.c (.rs 2 (a0.map Trip.enc)), .c (.rs 2 (a1.map Trip.enc))] [] (.o (.c (.v (.bool r)))) [] [] := by
  unfold laws_eqTripS at hM
  refine cn (N := 27) (pids := []) Try_mixed Try.func17 (by kernel_rfl) (by kernel_rfl) (by kernel_rfl) rfl fun ρ g w R => ?_
  rcases cond_cases hM with ⟨h1, hM⟩ | ⟨h1, hM⟩
  · have hE : some false = some r := hM
    have hE := Option.some.inj hE
    subst hE
    exact pr R 9999 [.ln (a0.length), .ln (a1.length), .as 10 true] [] [] [] (And.intro (lenm Trip.enc a0) (And.intro (lenm Trip.enc a1) (And.intro h1 True.intro))) (by kernel_rfl)
  · have K1 : ∀ (_ : Unit), laws_eqTripS_L1_a = some r → Gr R [.code (cAt Try.f17 [1, 1, 1])] (⟨[], []⟩) := by
      intro _ hM
      unfold laws_eqTripS_L1_a at hM
      have hE : some true = some r := hM
      have hE := Option.some.inj hE
      subst hE
      exact pr R 9999 [] [] [] [] True.intro (by kernel_rfl)
    refine pc R 9999 [.ln (a0.length), .ln (a1.length), .as 10 false] [.keep [0, 1, 5] []] (k' := [.code (.loop (cAt Try.f17 [1, 1, 0, 1, 0, 0])), .blk 0, .code (cAt Try.f17 [1, 1, 1])]) (S' := laws_eqTripS_L1_S a0 a1 0) (And.intro (lenm Trip.enc a0) (And.intro (lenm Trip.enc a1) (And.intro h1 True.intro))) (by kernel_rfl) ?_
    refine lq (laws_eqTripS_L1_S a0 a1) (body := laws_eqTripS_L1 a0 a1) (k := laws_eqTripS_L1_k) hM fun m1 s c1 hM hK1 => ?_
    obtain ⟨s2, hs⟩ : ∃ z, z = s := ⟨_, rfl⟩
    subst hs
    have hM : laws_eqTripS_L1_b a0 a1 s2 = some c1 := hM
    unfold laws_eqTripS_L1_b at hM
    rcases cond_cases hM with ⟨h3, hM⟩ | ⟨h3, hM⟩
    · obtain ⟨v4, h5, hM⟩ := bind_some hM
      obtain ⟨v6, h7, hM⟩ := bind_some hM
      obtain ⟨v8, h9, hM⟩ := bind_some hM
      rcases cond_cases hM with ⟨h10, hM⟩ | ⟨h10, hM⟩
      · have hE : some (Ctl.ret false) = some c1 := hM
        have hE := Option.some.inj hE
        subst hE
        have hE : some false = some r := hK1
        have hE := Option.some.inj hE
        subst hE
        exact pr R 9999 [.ln (a0.length), .as 14 true, .ix (Trip.enc v4), .ix (Trip.enc v6), .call false [] (.o (.c (.v (.bool v8)))) [] [], .as 26 true] [] [] [] (And.intro (lenm Trip.enc a0) (And.intro h3 (And.intro (gi_map Trip.enc h5) (And.intro (gi_map Trip.enc h7) (And.intro (laws_eqTrip_ok v4 v6 v8 h9) (And.intro h10 True.intro)))))) (by kernel_rfl)
      · have hE : some (Ctl.next (w64 (s2 + 1))) = some c1 := hM
        have hE := Option.some.inj hE
        subst hE
        exact pc R 9999 [.ln (a0.length), .as 14 true, .ix (Trip.enc v4), .ix (Trip.enc v6), .call false [] (.o (.c (.v (.bool v8)))) [] [], .as 26 false] [.keep [0, 1, 5] []] (And.intro (lenm Trip.enc a0) (And.intro h3 (And.intro (gi_map Trip.enc h5) (And.intro (gi_map Trip.enc h7) (And.intro (laws_eqTrip_ok v4 v6 v8 h9) (And.intro h10 True.intro)))))) (by kernel_rfl) (li (Sf := laws_eqTripS_L1_S a0 a1) (M := Mk (laws_eqTripS_L1 a0 a1) (laws_eqTripS_L1_k) r) (k := [.blk 0, .code (cAt Try.f17 [1, 1, 1])]) (Nat.lt_succ_self m1) hK1)
    · have hE : some (Ctl.brk ()) = some c1 := hM
      have hE := Option.some.inj hE
      subst hE
      exact pc R 5 [.ln (a0.length), .as 14 false] [.keep [] []] (And.intro (lenm Trip.enc a0) (And.intro h3 True.intro)) (by kernel_rfl) (K1 () hK1)

-- loop.example/g03014/laws.FnExactIsWay
def laws_FnExactIsWay_x1 (a1 : (List Trip)) (v17 : (List Trip)) (v24 : Bool) : St := ⟨[(1, .o (.c (.rs 2 (a1.map Trip.enc)))), (14, .o (.c (.sl 7))), (57, .o (.c (.v (.bool (!v24)))))], [(7, .row 74 2 (v17.map Trip.enc))]⟩
def laws_FnExactIsWay (a0 : Network) (a1 : (List Trip)) (a2 : ByteArray) (a3 : ByteArray) (a4 : Int) : Option Bool :=
  bif (decide ((a2.size : Int) > 1048576)) then
  some true
  else
  bif (decide ((a3.size : Int) > 1048576)) then
  some true
  else
  (laws_szNetwork a0 1048576).bind fun v3 =>
  bif (decide (v3 < 0)) then
  some true
  else
  (laws_szTripS a1 v3).bind fun v6 =>
  bif (decide (v6 < 0)) then
  some true
  else
  (laws_toNetwork a0).bind fun v9 =>
  (laws_toTripS a1).bind fun v11 =>
  (spec_IsWay v9 v11 a2 a3 a4).bind fun v13 =>
  (laws_toNetwork a0).bind fun v15 =>
  (laws_toTripS a1).bind fun v17 =>
  (impl_IsWay v15 v17 a2 a3 a4).bind fun v19 =>
  bif (!(v19 == v13)) then
  some false
  else
  (laws_toNetwork a0).bind fun v22 =>
  (laws_eqNetwork v15 v22).bind fun v24 =>
  bif (!v24) then
  some false
  else
  (laws_toTripS a1).bind fun v27 =>
  (laws_eqTripS v17 v27).bind fun v29 =>
  bif (!v29) then
  some false
  else
  some true
theorem laws_FnExactIsWay_ok (a0 : Network) (a1 : (List Trip)) (a2 : ByteArray) (a3 : ByteArray) (a4 : Int) (r : Bool) (hM : laws_FnExactIsWay a0 a1 a2 a3 a4 = some r) :
    Con Try.prog 4 [.agg [.rs 6 (a0.Legs.map Leg.enc), .rs 1 (a0.Off.map encI), .v (.int .i64 a0.Change)], .c (.rs 2 (a1.map Trip.enc)), .c (.v (.string a2)), .c (.v (.string a3)), .c (.v (.int .i64 a4))] [] (.o (.c (.v (.bool r)))) [] [] := by
  unfold laws_FnExactIsWay at hM
  refine cn (N := 63) (pids := []) Try_mixed Try.func4 (by kernel_rfl) (by kernel_rfl) (by kernel_rfl) rfl fun ρ g w R => ?_
  rcases cond_cases hM with ⟨h1, hM⟩ | ⟨h1, hM⟩
  · have hE : some true = some r := hM
    have hE := Option.some.inj hE
    subst hE
    exact pr R 9999 [.new 0, .as 18 true] [] [] [] (And.intro h1 True.intro) (by kernel_rfl)
  · rcases cond_cases hM with ⟨h2, hM⟩ | ⟨h2, hM⟩
    · have hE : some true = some r := hM
      have hE := Option.some.inj hE
      subst hE
      exact pr R 9999 [.new 0, .as 18 false, .as 21 true] [] [] [] (And.intro h1 (And.intro h2 True.intro)) (by kernel_rfl)
    · obtain ⟨v3, h4, hM⟩ := bind_some hM
      rcases cond_cases hM with ⟨h5, hM⟩ | ⟨h5, hM⟩
      · have hE : some true = some r := hM
        have hE := Option.some.inj hE
        subst hE
        exact pr R 9999 [.new 0, .as 18 false, .as 21 false, .call false [] (.o (.c (.v (.int .i64 v3)))) [] [], .as 26 true] [] [] [] (And.intro h1 (And.intro h2 (And.intro (laws_szNetwork_ok a0 1048576 v3 h4) (And.intro h5 True.intro)))) (by kernel_rfl)
      · obtain ⟨v6, h7, hM⟩ := bind_some hM
        rcases cond_cases hM with ⟨h8, hM⟩ | ⟨h8, hM⟩
        · have hE : some true = some r := hM
          have hE := Option.some.inj hE
          subst hE
          exact pr R 9999 [.new 0, .as 18 false, .as 21 false, .call false [] (.o (.c (.v (.int .i64 v3)))) [] [], .as 26 false, .call false [] (.o (.c (.v (.int .i64 v6)))) [] [], .as 31 true] [] [] [] (And.intro h1 (And.intro h2 (And.intro (laws_szNetwork_ok a0 1048576 v3 h4) (And.intro h5 (And.intro (laws_szTripS_ok a1 v3 v6 h7) (And.intro h8 True.intro)))))) (by kernel_rfl)
        · obtain ⟨v9, h10, hM⟩ := bind_some hM
          obtain ⟨v11, h12, hM⟩ := bind_some hM
          obtain ⟨v13, h14, hM⟩ := bind_some hM
          obtain ⟨v15, h16, hM⟩ := bind_some hM
          obtain ⟨v17, h18, hM⟩ := bind_some hM
          obtain ⟨v19, h20, hM⟩ := bind_some hM
          rcases cond_cases hM with ⟨h21, hM⟩ | ⟨h21, hM⟩
          · have hE : some false = some r := hM
            have hE := Option.some.inj hE
            subst hE
            exact pr R 9999 [.new 0, .as 18 false, .as 21 false, .call false [] (.o (.c (.v (.int .i64 v3)))) [] [], .as 26 false, .call false [] (.o (.c (.v (.int .i64 v6)))) [] [], .as 31 false, .call false [] (.o (.agg [.sl 1, .sl 2, .v (.int .i64 v9.Change)])) [] [(1, .row 77 6 (v9.Legs.map Leg.enc)), (2, .row 3 1 (v9.Off.map encI))], .call false [] (.o (.c (.sl 3))) [] [(3, .row 74 2 (v11.map Trip.enc))], .call false [] (.o (.c (.v (.bool v13)))) [] [], .call false [] (.o (.agg [.sl 4, .sl 5, .v (.int .i64 v15.Change)])) [] [(4, .row 77 6 (v15.Legs.map Leg.enc)), (5, .row 3 1 (v15.Off.map encI))], .new 6, .call false [] (.o (.c (.sl 7))) [] [(7, .row 74 2 (v17.map Trip.enc))], .call false [] (.o (.c (.v (.bool v19)))) [] [], .as 52 true] [] [] [] (And.intro h1 (And.intro h2 (And.intro (laws_szNetwork_ok a0 1048576 v3 h4) (And.intro h5 (And.intro (laws_szTripS_ok a1 v3 v6 h7) (And.intro h8 (And.intro (And.intro (con_sw 1001 2 (con_sw 1000 1 (laws_toNetwork_ok a0 v9 h10))) (rfl : ([] : List Nat) = [])) (And.intro (And.intro (con_sw 1000 3 (laws_toTripS_ok a1 v11 h12)) (rfl : ([] : List Nat) = [])) (And.intro (spec_IsWay_ok v9 v11 a2 a3 a4 v13 h14) (And.intro (And.intro (con_sw 1001 5 (con_sw 1000 4 (laws_toNetwork_ok a0 v15 h16))) (rfl : ([] : List Nat) = [])) (And.intro (And.intro (con_sw 1000 7 (laws_toTripS_ok a1 v17 h18)) (rfl : ([] : List Nat) = [])) (And.intro (impl_IsWay_ok v15 v17 a2 a3 a4 v19 h20) (And.intro h21 True.intro))))))))))))) (by kernel_rfl)
          · obtain ⟨v22, h23, hM⟩ := bind_some hM
            obtain ⟨v24, h25, hM⟩ := bind_some hM
            rcases cond_cases hM with ⟨h26, hM⟩ | ⟨h26, hM⟩
            · have hE : some false = some r := hM
              have hE := Option.some.inj hE
              subst hE
              exact pr R 9999 [.new 0, .as 18 false, .as 21 false, .call false [] (.o (.c (.v (.int .i64 v3)))) [] [], .as 26 false, .call false [] (.o (.c (.v (.int .i64 v6)))) [] [], .as 31 false, .call false [] (.o (.agg [.sl 1, .sl 2, .v (.int .i64 v9.Change)])) [] [(1, .row 77 6 (v9.Legs.map Leg.enc)), (2, .row 3 1 (v9.Off.map encI))], .call false [] (.o (.c (.sl 3))) [] [(3, .row 74 2 (v11.map Trip.enc))], .call false [] (.o (.c (.v (.bool v13)))) [] [], .call false [] (.o (.agg [.sl 4, .sl 5, .v (.int .i64 v15.Change)])) [] [(4, .row 77 6 (v15.Legs.map Leg.enc)), (5, .row 3 1 (v15.Off.map encI))], .new 6, .call false [] (.o (.c (.sl 7))) [] [(7, .row 74 2 (v17.map Trip.enc))], .call false [] (.o (.c (.v (.bool v19)))) [] [], .as 52 false, .xo [[], [], [.call false [] (.o (.agg [.sl 8, .sl 9, .v (.int .i64 v22.Change)])) [] [(8, .row 77 6 (v22.Legs.map Leg.enc)), (9, .row 3 1 (v22.Off.map encI))]], [.call false [] (.o (.c (.v (.bool v24)))) [] []], []] [.keep [1, 14, 57] [7]] (laws_FnExactIsWay_x1 a1 v17 v24), .as 57 true] [] [] [] (And.intro h1 (And.intro h2 (And.intro (laws_szNetwork_ok a0 1048576 v3 h4) (And.intro h5 (And.intro (laws_szTripS_ok a1 v3 v6 h7) (And.intro h8 (And.intro (And.intro (con_sw 1001 2 (con_sw 1000 1 (laws_toNetwork_ok a0 v9 h10))) (rfl : ([] : List Nat) = [])) (And.intro (And.intro (con_sw 1000 3 (laws_toTripS_ok a1 v11 h12)) (rfl : ([] : List Nat) = [])) (And.intro (spec_IsWay_ok v9 v11 a2 a3 a4 v13 h14) (And.intro (And.intro (con_sw 1001 5 (con_sw 1000 4 (laws_toNetwork_ok a0 v15 h16))) (rfl : ([] : List Nat) = [])) (And.intro (And.intro (con_sw 1000 7 (laws_toTripS_ok a1 v17 h18)) (rfl : ([] : List Nat) = [])) (And.intro (impl_IsWay_ok v15 v17 a2 a3 a4 v19 h20) (And.intro h21 (And.intro (And.intro (con_sw 1001 9 (con_sw 1000 8 (laws_toNetwork_ok a0 v22 h23))) (rfl : ([] : List Nat) = [])) (And.intro (laws_eqNetwork_ok v15 v22 v24 h25) (And.intro (rfl : (laws_FnExactIsWay_x1 a1 v17 v24) = (laws_FnExactIsWay_x1 a1 v17 v24)) (And.intro (And.intro (con_sw 1001 9 (con_sw 1000 8 (laws_toNetwork_ok a0 v22 h23))) (rfl : ([] : List Nat) = [])) (And.intro (laws_eqNetwork_ok v15 v22 v24 h25) (And.intro (rfl : (laws_FnExactIsWay_x1 a1 v17 v24) = (laws_FnExactIsWay_x1 a1 v17 v24)) (And.intro (And.intro (con_sw 1001 9 (con_sw 1000 8 (laws_toNetwork_ok a0 v22 h23))) (rfl : ([] : List Nat) = [])) (And.intro (laws_eqNetwork_ok v15 v22 v24 h25) (And.intro (rfl : (laws_FnExactIsWay_x1 a1 v17 v24) = (laws_FnExactIsWay_x1 a1 v17 v24)) (And.intro h26 True.intro))))))))))))))))))))))) (by kernel_rfl)
            · obtain ⟨v27, h28, hM⟩ := bind_some hM
              obtain ⟨v29, h30, hM⟩ := bind_some hM
              rcases cond_cases hM with ⟨h31, hM⟩ | ⟨h31, hM⟩
              · have hE : some false = some r := hM
                have hE := Option.some.inj hE
                subst hE
                exact pr R 9999 [.new 0, .as 18 false, .as 21 false, .call false [] (.o (.c (.v (.int .i64 v3)))) [] [], .as 26 false, .call false [] (.o (.c (.v (.int .i64 v6)))) [] [], .as 31 false, .call false [] (.o (.agg [.sl 1, .sl 2, .v (.int .i64 v9.Change)])) [] [(1, .row 77 6 (v9.Legs.map Leg.enc)), (2, .row 3 1 (v9.Off.map encI))], .call false [] (.o (.c (.sl 3))) [] [(3, .row 74 2 (v11.map Trip.enc))], .call false [] (.o (.c (.v (.bool v13)))) [] [], .call false [] (.o (.agg [.sl 4, .sl 5, .v (.int .i64 v15.Change)])) [] [(4, .row 77 6 (v15.Legs.map Leg.enc)), (5, .row 3 1 (v15.Off.map encI))], .new 6, .call false [] (.o (.c (.sl 7))) [] [(7, .row 74 2 (v17.map Trip.enc))], .call false [] (.o (.c (.v (.bool v19)))) [] [], .as 52 false, .xo [[], [], [.call false [] (.o (.agg [.sl 8, .sl 9, .v (.int .i64 v22.Change)])) [] [(8, .row 77 6 (v22.Legs.map Leg.enc)), (9, .row 3 1 (v22.Off.map encI))]], [.call false [] (.o (.c (.v (.bool v24)))) [] []], []] [.keep [1, 14, 57] [7]] (laws_FnExactIsWay_x1 a1 v17 v24), .as 57 false, .call false [] (.o (.c (.sl 10))) [] [(10, .row 74 2 (v27.map Trip.enc))], .call false [] (.o (.c (.v (.bool v29)))) [] [], .as 62 true] [] [] [] (And.intro h1 (And.intro h2 (And.intro (laws_szNetwork_ok a0 1048576 v3 h4) (And.intro h5 (And.intro (laws_szTripS_ok a1 v3 v6 h7) (And.intro h8 (And.intro (And.intro (con_sw 1001 2 (con_sw 1000 1 (laws_toNetwork_ok a0 v9 h10))) (rfl : ([] : List Nat) = [])) (And.intro (And.intro (con_sw 1000 3 (laws_toTripS_ok a1 v11 h12)) (rfl : ([] : List Nat) = [])) (And.intro (spec_IsWay_ok v9 v11 a2 a3 a4 v13 h14) (And.intro (And.intro (con_sw 1001 5 (con_sw 1000 4 (laws_toNetwork_ok a0 v15 h16))) (rfl : ([] : List Nat) = [])) (And.intro (And.intro (con_sw 1000 7 (laws_toTripS_ok a1 v17 h18)) (rfl : ([] : List Nat) = [])) (And.intro (impl_IsWay_ok v15 v17 a2 a3 a4 v19 h20) (And.intro h21 (And.intro (And.intro (con_sw 1001 9 (con_sw 1000 8 (laws_toNetwork_ok a0 v22 h23))) (rfl : ([] : List Nat) = [])) (And.intro (laws_eqNetwork_ok v15 v22 v24 h25) (And.intro (rfl : (laws_FnExactIsWay_x1 a1 v17 v24) = (laws_FnExactIsWay_x1 a1 v17 v24)) (And.intro (And.intro (con_sw 1001 9 (con_sw 1000 8 (laws_toNetwork_ok a0 v22 h23))) (rfl : ([] : List Nat) = [])) (And.intro (laws_eqNetwork_ok v15 v22 v24 h25) (And.intro (rfl : (laws_FnExactIsWay_x1 a1 v17 v24) = (laws_FnExactIsWay_x1 a1 v17 v24)) (And.intro (And.intro (con_sw 1001 9 (con_sw 1000 8 (laws_toNetwork_ok a0 v22 h23))) (rfl : ([] : List Nat) = [])) (And.intro (laws_eqNetwork_ok v15 v22 v24 h25) (And.intro (rfl : (laws_FnExactIsWay_x1 a1 v17 v24) = (laws_FnExactIsWay_x1 a1 v17 v24)) (And.intro h26 (And.intro (And.intro (con_sw 1000 10 (laws_toTripS_ok a1 v27 h28)) (rfl : ([] : List Nat) = [])) (And.intro (laws_eqTripS_ok v17 v27 v29 h30) (And.intro h31 True.intro)))))))))))))))))))))))))) (by kernel_rfl)
              · have hE : some true = some r := hM
                have hE := Option.some.inj hE
                subst hE
                exact pr R 9999 [.new 0, .as 18 false, .as 21 false, .call false [] (.o (.c (.v (.int .i64 v3)))) [] [], .as 26 false, .call false [] (.o (.c (.v (.int .i64 v6)))) [] [], .as 31 false, .call false [] (.o (.agg [.sl 1, .sl 2, .v (.int .i64 v9.Change)])) [] [(1, .row 77 6 (v9.Legs.map Leg.enc)), (2, .row 3 1 (v9.Off.map encI))], .call false [] (.o (.c (.sl 3))) [] [(3, .row 74 2 (v11.map Trip.enc))], .call false [] (.o (.c (.v (.bool v13)))) [] [], .call false [] (.o (.agg [.sl 4, .sl 5, .v (.int .i64 v15.Change)])) [] [(4, .row 77 6 (v15.Legs.map Leg.enc)), (5, .row 3 1 (v15.Off.map encI))], .new 6, .call false [] (.o (.c (.sl 7))) [] [(7, .row 74 2 (v17.map Trip.enc))], .call false [] (.o (.c (.v (.bool v19)))) [] [], .as 52 false, .xo [[], [], [.call false [] (.o (.agg [.sl 8, .sl 9, .v (.int .i64 v22.Change)])) [] [(8, .row 77 6 (v22.Legs.map Leg.enc)), (9, .row 3 1 (v22.Off.map encI))]], [.call false [] (.o (.c (.v (.bool v24)))) [] []], []] [.keep [1, 14, 57] [7]] (laws_FnExactIsWay_x1 a1 v17 v24), .as 57 false, .call false [] (.o (.c (.sl 10))) [] [(10, .row 74 2 (v27.map Trip.enc))], .call false [] (.o (.c (.v (.bool v29)))) [] [], .as 62 false] [] [] [] (And.intro h1 (And.intro h2 (And.intro (laws_szNetwork_ok a0 1048576 v3 h4) (And.intro h5 (And.intro (laws_szTripS_ok a1 v3 v6 h7) (And.intro h8 (And.intro (And.intro (con_sw 1001 2 (con_sw 1000 1 (laws_toNetwork_ok a0 v9 h10))) (rfl : ([] : List Nat) = [])) (And.intro (And.intro (con_sw 1000 3 (laws_toTripS_ok a1 v11 h12)) (rfl : ([] : List Nat) = [])) (And.intro (spec_IsWay_ok v9 v11 a2 a3 a4 v13 h14) (And.intro (And.intro (con_sw 1001 5 (con_sw 1000 4 (laws_toNetwork_ok a0 v15 h16))) (rfl : ([] : List Nat) = [])) (And.intro (And.intro (con_sw 1000 7 (laws_toTripS_ok a1 v17 h18)) (rfl : ([] : List Nat) = [])) (And.intro (impl_IsWay_ok v15 v17 a2 a3 a4 v19 h20) (And.intro h21 (And.intro (And.intro (con_sw 1001 9 (con_sw 1000 8 (laws_toNetwork_ok a0 v22 h23))) (rfl : ([] : List Nat) = [])) (And.intro (laws_eqNetwork_ok v15 v22 v24 h25) (And.intro (rfl : (laws_FnExactIsWay_x1 a1 v17 v24) = (laws_FnExactIsWay_x1 a1 v17 v24)) (And.intro (And.intro (con_sw 1001 9 (con_sw 1000 8 (laws_toNetwork_ok a0 v22 h23))) (rfl : ([] : List Nat) = [])) (And.intro (laws_eqNetwork_ok v15 v22 v24 h25) (And.intro (rfl : (laws_FnExactIsWay_x1 a1 v17 v24) = (laws_FnExactIsWay_x1 a1 v17 v24)) (And.intro (And.intro (con_sw 1001 9 (con_sw 1000 8 (laws_toNetwork_ok a0 v22 h23))) (rfl : ([] : List Nat) = [])) (And.intro (laws_eqNetwork_ok v15 v22 v24 h25) (And.intro (rfl : (laws_FnExactIsWay_x1 a1 v17 v24) = (laws_FnExactIsWay_x1 a1 v17 v24)) (And.intro h26 (And.intro (And.intro (con_sw 1000 10 (laws_toTripS_ok a1 v27 h28)) (rfl : ([] : List Nat) = [])) (And.intro (laws_eqTripS_ok v17 v27 v29 h30) (And.intro h31 True.intro)))))))))))))))))))))))))) (by kernel_rfl)

-- loop.example/g03014/spec.Max
def spec_Max (a0 : Int) (a1 : Int) : Option Int :=
  bif (decide (a1 > a0)) then
  some a1
  else
  some a0
theorem spec_Max_ok (a0 : Int) (a1 : Int) (r : Int) (hM : spec_Max a0 a1 = some r) :
    Con Try.prog 90 [.c (.v (.int .i64 a0)), .c (.v (.int .i64 a1))] [] (.o (.c (.v (.int .i64 r)))) [] [] := by
  unfold spec_Max at hM
  refine cn (N := 10) (pids := []) Try_mixed Try.func90 (by kernel_rfl) (by kernel_rfl) (by kernel_rfl) rfl fun ρ g w R => ?_
  rcases cond_cases hM with ⟨h1, hM⟩ | ⟨h1, hM⟩
  · have hE : some a1 = some r := hM
    have hE := Option.some.inj hE
    subst hE
    exact pr R 9999 [.as 7 true] [] [] [] (And.intro h1 True.intro) (by kernel_rfl)
  · have hE : some a0 = some r := hM
    have hE := Option.some.inj hE
    subst hE
    exact pr R 9999 [.as 7 false] [] [] [] (And.intro h1 True.intro) (by kernel_rfl)

-- loop.example/g03014/spec.l4First
def spec_l4First_L1_b (a0 : (List ByteArray)) (a1 : Int) (a2 : Int) (s1 : (List Int)) (s2 : Int) : Option (Ctl ((List Int) × Int) (List Int) (List Int)) :=
  bif (decide (s2 < (a0.length : Int))) then
  bif (s2 == a1) then
  (spec_Max a2 0).bind fun v6 =>
  (ap 8 s1 ([v6] : List Int)).bind fun v8 =>
  some (.next (v8, w64 (s2 + 1)))
  else
  (ap 8 s1 ([(-1)] : List Int)).bind fun v10 =>
  some (.next (v10, w64 (s2 + 1)))
  else
  some (.brk s1)
def spec_l4First_L1 (a0 : (List ByteArray)) (a1 : Int) (a2 : Int) (s : (List Int) × Int) : Option (Ctl ((List Int) × Int) (List Int) (List Int)) := spec_l4First_L1_b a0 a1 a2 s.1 s.2
def spec_l4First_L1_s (a0 : (List ByteArray)) (a1 : Int) (a2 : Int) (s1 : (List Int)) (s2 : Int) : St := ⟨[(0, .o (.c (.rs 1 (a0.map encS)))), (1, .o (.c (.v (.int .i64 a1)))), (2, .o (.c (.v (.int .i64 a2)))), (7, .o (.c (.sl 0))), (8, .o (.c (.v (.int .i64 s2))))], [(0, .row 3 1 (s1.map encI))]⟩
def spec_l4First_L1_S (a0 : (List ByteArray)) (a1 : Int) (a2 : Int) (s : (List Int) × Int) : St := spec_l4First_L1_s a0 a1 a2 s.1 s.2
def spec_l4First_L1_a (s3 : (List Int)) : Option (List Int) :=
  some s3
def spec_l4First_L1_k (x : ((List Int)) ⊕ ((List Int))) : Option (List Int) := match x with
  | .inl t => spec_l4First_L1_a t
  | .inr y => some y
def spec_l4First (a0 : (List ByteArray)) (a1 : Int) (a2 : Int) : Option (List Int) :=
  (loopM (spec_l4First_L1 a0 a1 a2) big (([] : List Int), 0)).bind (spec_l4First_L1_k)
theorem spec_l4First_ok (a0 : (List ByteArray)) (a1 : Int) (a2 : Int) (r : (List Int)) (hM : spec_l4First a0 a1 a2 = some r) :
    Con Try.prog 94 [.c (.rs 1 (a0.map encS)), .c (.v (.int .i64 a1)), .c (.v (.int .i64 a2))] [] (.o (.c (.sl 1000))) [] [(1000, .row 3 1 (r.map encI))] := by
  unfold spec_l4First at hM
  refine cn (N := 28) (pids := []) Try_mixed Try.func94 (by kernel_rfl) (by kernel_rfl) (by kernel_rfl) rfl fun ρ g w R => ?_
  have K1 : ∀ (s3 : (List Int)), spec_l4First_L1_a s3 = some r → Gr R [.code (cAt Try.f94 [1, 1, 1])] (⟨[(7, .o (.c (.sl 0)))], [(0, .row 3 1 (s3.map encI))]⟩) := by
    intro s3 hM
    unfold spec_l4First_L1_a at hM
    have hE : some s3 = some r := hM
    have hE := Option.some.inj hE
    subst hE
    exact pr R 9999 [] [.sw 0 1000] [] [1000] True.intro (by kernel_rfl)
  refine pc R 9999 [.new 0] [.keep [0, 1, 2, 7, 8] [0]] (k' := [.code (.loop (cAt Try.f94 [1, 1, 0, 1, 0, 0])), .blk 0, .code (cAt Try.f94 [1, 1, 1])]) (S' := spec_l4First_L1_S a0 a1 a2 (([] : List Int), 0)) True.intro (by kernel_rfl) ?_
  refine lq (spec_l4First_L1_S a0 a1 a2) (body := spec_l4First_L1 a0 a1 a2) (k := spec_l4First_L1_k) hM fun m1 s c1 hM hK1 => ?_
  obtain ⟨s1, s2⟩ := s
  have hM : spec_l4First_L1_b a0 a1 a2 s1 s2 = some c1 := hM
  unfold spec_l4First_L1_b at hM
  rcases cond_cases hM with ⟨h4, hM⟩ | ⟨h4, hM⟩
  · rcases cond_cases hM with ⟨h5, hM⟩ | ⟨h5, hM⟩
    · obtain ⟨v6, h7, hM⟩ := bind_some hM
      obtain ⟨v8, h9, hM⟩ := bind_some hM
      have hE : some (Ctl.next (v8, w64 (s2 + 1))) = some c1 := hM
      have hE := Option.some.inj hE
      subst hE
      exact pc R 9999 [.ln (a0.length), .as 13 true, .as 18 true, .call false [] (.o (.c (.v (.int .i64 v6)))) [] [], .new 1, .new 2, .nm (v8.map encI)] [.sw 2 0, .keep [0, 1, 2, 7, 8] [0]] (And.intro (lenm encS a0) (And.intro h4 (And.intro h5 (And.intro (spec_Max_ok a2 0 v6 h7) (And.intro (ap_ok encI h9) True.intro))))) (by kernel_rfl) (li (Sf := spec_l4First_L1_S a0 a1 a2) (M := Mk (spec_l4First_L1 a0 a1 a2) (spec_l4First_L1_k) r) (k := [.blk 0, .code (cAt Try.f94 [1, 1, 1])]) (Nat.lt_succ_self m1) hK1)
    · obtain ⟨v10, h11, hM⟩ := bind_some hM
      have hE : some (Ctl.next (v10, w64 (s2 + 1))) = some c1 := hM
      have hE := Option.some.inj hE
      subst hE
      exact pc R 9999 [.ln (a0.length), .as 13 true, .as 18 false, .new 3, .new 4, .nm (v10.map encI)] [.sw 4 0, .keep [0, 1, 2, 7, 8] [0]] (And.intro (lenm encS a0) (And.intro h4 (And.intro h5 (And.intro (ap_ok encI h11) True.intro)))) (by kernel_rfl) (li (Sf := spec_l4First_L1_S a0 a1 a2) (M := Mk (spec_l4First_L1 a0 a1 a2) (spec_l4First_L1_k) r) (k := [.blk 0, .code (cAt Try.f94 [1, 1, 1])]) (Nat.lt_succ_self m1) hK1)
  · have hE : some (Ctl.brk s1) = some c1 := hM
    have hE := Option.some.inj hE
    subst hE
    exact pc R 5 [.ln (a0.length), .as 13 false] [.keep [7] [0]] (And.intro (lenm encS a0) (And.intro h4 True.intro)) (by kernel_rfl) (K1 s1 hK1)

-- loop.example/g03014/spec.l1Ints
def spec_l1Ints (a0 : (List Int)) : Option (List Int) :=
  (ap 8 ([] : List Int) a0).bind fun v1 =>
  some v1
theorem spec_l1Ints_ok (a0 : (List Int)) (r : (List Int)) (hM : spec_l1Ints a0 = some r) :
    Con Try.prog 123 [.c (.rs 1 (a0.map encI))] [] (.o (.c (.sl 1000))) [] [(1000, .row 3 1 (r.map encI))] := by
  unfold spec_l1Ints at hM
  refine cn (N := 6) (pids := []) Try_mixed Try.func123 (by kernel_rfl) (by kernel_rfl) (by kernel_rfl) rfl fun ρ g w R => ?_
  obtain ⟨v1, h2, hM⟩ := bind_some hM
  have hE : some v1 = some r := hM
  have hE := Option.some.inj hE
  subst hE
  exact pr R 9999 [.new 0, .new 1, .nm (v1.map encI)] [.sw 1 1000] [] [1000] (And.intro (ap_ok encI h2) True.intro) (by kernel_rfl)

-- loop.example/g03014/spec.l4Ready
def spec_l4Ready (a0 : Network) (a1 : Int) (a2 : Bool) : Option Int :=
  bif a2 then
  some a1
  else
  some (w64 (a1 + a0.Change))
theorem spec_l4Ready_ok (a0 : Network) (a1 : Int) (a2 : Bool) (r : Int) (hM : spec_l4Ready a0 a1 a2 = some r) :
    Con Try.prog 101 [.agg [.rs 6 (a0.Legs.map Leg.enc), .rs 1 (a0.Off.map encI), .v (.int .i64 a0.Change)], .c (.v (.int .i64 a1)), .c (.v (.bool a2))] [] (.o (.c (.v (.int .i64 r)))) [] [] := by
  unfold spec_l4Ready at hM
  refine cn (N := 13) (pids := []) Try_mixed Try.func101 (by kernel_rfl) (by kernel_rfl) (by kernel_rfl) rfl fun ρ g w R => ?_
  rcases cond_cases hM with ⟨h1, hM⟩ | ⟨h1, hM⟩
  · have hE : some a1 = some r := hM
    have hE := Option.some.inj hE
    subst hE
    exact pr R 9999 [.new 0, .as 7 true] [] [] [] (And.intro h1 True.intro) (by kernel_rfl)
  · have hE : some (w64 (a1 + a0.Change)) = some r := hM
    have hE := Option.some.inj hE
    subst hE
    exact pr R 9999 [.new 0, .as 7 false] [] [] [] (And.intro h1 True.intro) (by kernel_rfl)

-- loop.example/g03014/spec.l3Next
def spec_l3Next_L1_b (a0 : Network) (a1 : Int) (a2 : Int) (s1 : Int) : Option (Ctl Int Unit Int) :=
  bif (decide (s1 ≤ 60)) then
  (spec_l3Runs a0 a1 s1).bind fun v3 =>
  bif v3 then
  (spec_l3Starts a0 (Trip.mk a1 s1)).bind fun v6 =>
  bif (decide (v6 ≥ a2)) then
  some (.ret s1)
  else
  some (.next (w64 (s1 + 1)))
  else
  some (.next (w64 (s1 + 1)))
  else
  some (.brk ())
def spec_l3Next_L1 (a0 : Network) (a1 : Int) (a2 : Int) (s : Int) : Option (Ctl Int Unit Int) := spec_l3Next_L1_b a0 a1 a2 s
def spec_l3Next_L1_s (a0 : Network) (a1 : Int) (a2 : Int) (s1 : Int) : St := ⟨[(1, .o (.c (.v (.int .i64 a1)))), (2, .o (.c (.v (.int .i64 a2)))), (3, .o (.c (.ptr 0 0))), (7, .o (.c (.v (.int .i64 s1))))], [(0, .box 32 [.rs 6 (a0.Legs.map Leg.enc), .rs 1 (a0.Off.map encI), .v (.int .i64 a0.Change)])]⟩
def spec_l3Next_L1_S (a0 : Network) (a1 : Int) (a2 : Int) (s : Int) : St := spec_l3Next_L1_s a0 a1 a2 s
def spec_l3Next_L1_a : Option Int :=
  some (-1)
def spec_l3Next_L1_k (x : (Unit) ⊕ (Int)) : Option Int := match x with
  | .inl t => spec_l3Next_L1_a
  | .inr y => some y
def spec_l3Next (a0 : Network) (a1 : Int) (a2 : Int) : Option Int :=
  (loopM (spec_l3Next_L1 a0 a1 a2) big 0).bind (spec_l3Next_L1_k)
theorem spec_l3Next_ok (a0 : Network) (a1 : Int) (a2 : Int) (r : Int) (hM : spec_l3Next a0 a1 a2 = some r) :
    Con Try.prog 100 [.agg [.rs 6 (a0.Legs.map Leg.enc), .rs 1 (a0.Off.map encI), .v (.int .i64 a0.Change)], .c (.v (.int .i64 a1)), .c (.v (.int .i64 a2))] [] (.o (.c (.v (.int .i64 r)))) [] [] := by
  unfold spec_l3Next at hM
  refine cn (N := 26) (pids := []) Try_mixed Try.func100 (by kernel_rfl) (by kernel_rfl) (by kernel_rfl) rfl fun ρ g w R => ?_
  have K1 : ∀ (_ : Unit), spec_l3Next_L1_a = some r → Gr R [.code (cAt Try.f100 [1, 1])] (⟨[], []⟩) := by
    intro _ hM
    unfold spec_l3Next_L1_a at hM
    have hE : some (-1) = some r := hM
    have hE := Option.some.inj hE
    subst hE
    exact pr R 9999 [] [] [] [] True.intro (by kernel_rfl)
  refine pc R 9999 [.new 0] [.keep [1, 2, 3, 7] [0]] (k' := [.code (.loop (cAt Try.f100 [1, 0, 1, 0, 0])), .blk 0, .code (cAt Try.f100 [1, 1])]) (S' := spec_l3Next_L1_S a0 a1 a2 0) True.intro (by kernel_rfl) ?_
  refine lq (spec_l3Next_L1_S a0 a1 a2) (body := spec_l3Next_L1 a0 a1 a2) (k := spec_l3Next_L1_k) hM fun m1 s c1 hM hK1 => ?_
  obtain ⟨s1, hs⟩ : ∃ z, z = s := ⟨_, rfl⟩
  subst hs
  have hM : spec_l3Next_L1_b a0 a1 a2 s1 = some c1 := hM
  unfold spec_l3Next_L1_b at hM
  rcases cond_cases hM with ⟨h2, hM⟩ | ⟨h2, hM⟩
  · obtain ⟨v3, h4, hM⟩ := bind_some hM
    rcases cond_cases hM with ⟨h5, hM⟩ | ⟨h5, hM⟩
    · obtain ⟨v6, h7, hM⟩ := bind_some hM
      rcases cond_cases hM with ⟨h8, hM⟩ | ⟨h8, hM⟩
      · have hE : some (Ctl.ret s1) = some c1 := hM
        have hE := Option.some.inj hE
        subst hE
        have hE : some s1 = some r := hK1
        have hE := Option.some.inj hE
        subst hE
        exact pr R 9999 [.as 9 true, .call false [] (.o (.c (.v (.bool v3)))) [] [], .as 16 true, .call false [] (.o (.c (.v (.int .i64 v6)))) [] [], .as 24 true] [] [] [] (And.intro h2 (And.intro (spec_l3Runs_ok a0 a1 s1 v3 h4) (And.intro h5 (And.intro (spec_l3Starts_ok a0 (Trip.mk a1 s1) v6 h7) (And.intro h8 True.intro))))) (by kernel_rfl)
      · have hE : some (Ctl.next (w64 (s1 + 1))) = some c1 := hM
        have hE := Option.some.inj hE
        subst hE
        exact pc R 9999 [.as 9 true, .call false [] (.o (.c (.v (.bool v3)))) [] [], .as 16 true, .call false [] (.o (.c (.v (.int .i64 v6)))) [] [], .as 24 false] [.keep [1, 2, 3, 7] [0]] (And.intro h2 (And.intro (spec_l3Runs_ok a0 a1 s1 v3 h4) (And.intro h5 (And.intro (spec_l3Starts_ok a0 (Trip.mk a1 s1) v6 h7) (And.intro h8 True.intro))))) (by kernel_rfl) (li (Sf := spec_l3Next_L1_S a0 a1 a2) (M := Mk (spec_l3Next_L1 a0 a1 a2) (spec_l3Next_L1_k) r) (k := [.blk 0, .code (cAt Try.f100 [1, 1])]) (Nat.lt_succ_self m1) hK1)
    · have hE : some (Ctl.next (w64 (s1 + 1))) = some c1 := hM
      have hE := Option.some.inj hE
      subst hE
      exact pc R 9999 [.as 9 true, .call false [] (.o (.c (.v (.bool v3)))) [] [], .as 16 false] [.keep [1, 2, 3, 7] [0]] (And.intro h2 (And.intro (spec_l3Runs_ok a0 a1 s1 v3 h4) (And.intro h5 True.intro))) (by kernel_rfl) (li (Sf := spec_l3Next_L1_S a0 a1 a2) (M := Mk (spec_l3Next_L1 a0 a1 a2) (spec_l3Next_L1_k) r) (k := [.blk 0, .code (cAt Try.f100 [1, 1])]) (Nat.lt_succ_self m1) hK1)
  · have hE : some (Ctl.brk ()) = some c1 := hM
    have hE := Option.some.inj hE
    subst hE
    exact pc R 5 [.as 9 false] [.keep [] []] (And.intro h2 True.intro) (by kernel_rfl) (K1 () hK1)

-- loop.example/g03014/spec.l4Round
def spec_l4Round_L1_b (a0 : Network) (a1 : (List ByteArray)) (a2 : (List Int)) (a3 : Int) (s3 : (List Int)) (s4 : Int) : Option (Ctl ((List Int) × Int) (List Int) (List Int)) :=
  bif (decide (s4 < (a0.Legs.length : Int))) then
  (gi a0.Legs s4).bind fun v7 =>
  (spec_l4Index a1 v7.From).bind fun v9 =>
  (gi a0.Legs s4).bind fun v11 =>
  (spec_l4Index a1 v11.To).bind fun v13 =>
  (gi a2 v9).bind fun v15 =>
  bif (decide (v15 < 0)) then
  some (.next (s3, w64 (s4 + 1)))
  else
  (gi a2 v9).bind fun v18 =>
  (spec_l4Ready a0 v18 (v9 == a3)).bind fun v20 =>
  (spec_l3Next a0 s4 v20).bind fun v22 =>
  bif (decide (v22 < 0)) then
  some (.next (s3, w64 (s4 + 1)))
  else
  (spec_l3Ends a0 (Trip.mk s4 v22)).bind fun v25 =>
  (gi s3 v13).bind fun v27 =>
  bif (decide (v27 < 0)) then
  (gi s3 v13).bind fun v30 =>
  some (.next (List.set s3 (Int.toNat v13) v25, w64 (s4 + 1)))
  else
  (gi s3 v13).bind fun v32 =>
  bif (decide (v25 < v32)) then
  (gi s3 v13).bind fun v35 =>
  some (.next (List.set s3 (Int.toNat v13) v25, w64 (s4 + 1)))
  else
  some (.next (s3, w64 (s4 + 1)))
  else
  some (.brk s3)
def spec_l4Round_L1 (a0 : Network) (a1 : (List ByteArray)) (a2 : (List Int)) (a3 : Int) (s : (List Int) × Int) : Option (Ctl ((List Int) × Int) (List Int) (List Int)) := spec_l4Round_L1_b a0 a1 a2 a3 s.1 s.2
def spec_l4Round_L1_s (a0 : Network) (a1 : (List ByteArray)) (a2 : (List Int)) (a3 : Int) (s3 : (List Int)) (s4 : Int) : St := ⟨[(1, .o (.c (.rs 1 (a1.map encS)))), (2, .o (.c (.rs 1 (a2.map encI)))), (3, .o (.c (.v (.int .i64 a3)))), (4, .o (.c (.ptr 0 0))), (9, .o (.c (.sl 1))), (10, .o (.c (.v (.int .i64 s4))))], [(0, .box 32 [.rs 6 (a0.Legs.map Leg.enc), .rs 1 (a0.Off.map encI), .v (.int .i64 a0.Change)]), (1, .row 3 1 (s3.map encI))]⟩
def spec_l4Round_L1_S (a0 : Network) (a1 : (List ByteArray)) (a2 : (List Int)) (a3 : Int) (s : (List Int) × Int) : St := spec_l4Round_L1_s a0 a1 a2 a3 s.1 s.2
def spec_l4Round_L1_a (s5 : (List Int)) : Option (List Int) :=
  some s5
def spec_l4Round_L1_k (x : ((List Int)) ⊕ ((List Int))) : Option (List Int) := match x with
  | .inl t => spec_l4Round_L1_a t
  | .inr y => some y
def spec_l4Round (a0 : Network) (a1 : (List ByteArray)) (a2 : (List Int)) (a3 : Int) : Option (List Int) :=
  (spec_l1Ints a2).bind fun v1 =>
  (loopM (spec_l4Round_L1 a0 a1 a2 a3) big (v1, 0)).bind (spec_l4Round_L1_k)
theorem spec_l4Round_ok (a0 : Network) (a1 : (List ByteArray)) (a2 : (List Int)) (a3 : Int) (r : (List Int)) (hM : spec_l4Round a0 a1 a2 a3 = some r) :
    Con Try.prog 95 [.agg [.rs 6 (a0.Legs.map Leg.enc), .rs 1 (a0.Off.map encI), .v (.int .i64 a0.Change)], .c (.rs 1 (a1.map encS)), .c (.rs 1 (a2.map encI)), .c (.v (.int .i64 a3))] [] (.o (.c (.sl 1000))) [] [(1000, .row 3 1 (r.map encI))] := by
  unfold spec_l4Round at hM
  refine cn (N := 82) (pids := []) Try_mixed Try.func95 (by kernel_rfl) (by kernel_rfl) (by kernel_rfl) rfl fun ρ g w R => ?_
  obtain ⟨v1, h2, hM⟩ := bind_some hM
  have K1 : ∀ (s5 : (List Int)), spec_l4Round_L1_a s5 = some r → Gr R [.code (cAt Try.f95 [1, 1, 1])] (⟨[(9, .o (.c (.sl 1)))], [(1, .row 3 1 (s5.map encI))]⟩) := by
    intro s5 hM
    unfold spec_l4Round_L1_a at hM
    have hE : some s5 = some r := hM
    have hE := Option.some.inj hE
    subst hE
    exact pr R 9999 [] [.sw 1 1000] [] [1000] True.intro (by kernel_rfl)
  refine pc R 9999 [.new 0, .call false [] (.o (.c (.sl 1))) [] [(1, .row 3 1 (v1.map encI))]] [.keep [1, 2, 3, 4, 9, 10] [0, 1]] (k' := [.code (.loop (cAt Try.f95 [1, 1, 0, 1, 0, 0])), .blk 0, .code (cAt Try.f95 [1, 1, 1])]) (S' := spec_l4Round_L1_S a0 a1 a2 a3 (v1, 0)) (And.intro (And.intro (con_sw 1000 1 (spec_l1Ints_ok a2 v1 h2)) (rfl : ([] : List Nat) = [])) True.intro) (by kernel_rfl) ?_
  refine lq (spec_l4Round_L1_S a0 a1 a2 a3) (body := spec_l4Round_L1 a0 a1 a2 a3) (k := spec_l4Round_L1_k) hM fun m1 s c1 hM hK1 => ?_
  obtain ⟨s3, s4⟩ := s
  have hM : spec_l4Round_L1_b a0 a1 a2 a3 s3 s4 = some c1 := hM
  unfold spec_l4Round_L1_b at hM
  rcases cond_cases hM with ⟨h6, hM⟩ | ⟨h6, hM⟩
  · obtain ⟨v7, h8, hM⟩ := bind_some hM
    obtain ⟨v9, h10, hM⟩ := bind_some hM
    obtain ⟨v11, h12, hM⟩ := bind_some hM
    obtain ⟨v13, h14, hM⟩ := bind_some hM
    obtain ⟨v15, h16, hM⟩ := bind_some hM
    rcases cond_cases hM with ⟨h17, hM⟩ | ⟨h17, hM⟩
    · have hE : some (Ctl.next (s3, w64 (s4 + 1))) = some c1 := hM
      have hE := Option.some.inj hE
      subst hE
      exact pc R 9999 [.ln (a0.Legs.length), .as 21 true, .ix (Leg.enc v7), .call false [] (.o (.c (.v (.int .i64 v9)))) [] [], .ix (Leg.enc v11), .call false [] (.o (.c (.v (.int .i64 v13)))) [] [], .ix (encI v15), .as 44 true] [.keep [1, 2, 3, 4, 9, 10] [0, 1]] (And.intro (lenm Leg.enc a0.Legs) (And.intro h6 (And.intro (gi_map Leg.enc h8) (And.intro (spec_l4Index_ok a1 v7.From v9 h10) (And.intro (gi_map Leg.enc h12) (And.intro (spec_l4Index_ok a1 v11.To v13 h14) (And.intro (gi_map encI h16) (And.intro h17 True.intro)))))))) (by kernel_rfl) (li (Sf := spec_l4Round_L1_S a0 a1 a2 a3) (M := Mk (spec_l4Round_L1 a0 a1 a2 a3) (spec_l4Round_L1_k) r) (k := [.blk 0, .code (cAt Try.f95 [1, 1, 1])]) (Nat.lt_succ_self m1) hK1)
    · obtain ⟨v18, h19, hM⟩ := bind_some hM
      obtain ⟨v20, h21, hM⟩ := bind_some hM
      obtain ⟨v22, h23, hM⟩ := bind_some hM
      rcases cond_cases hM with ⟨h24, hM⟩ | ⟨h24, hM⟩
      · have hE : some (Ctl.next (s3, w64 (s4 + 1))) = some c1 := hM
        have hE := Option.some.inj hE
        subst hE
        exact pc R 9999 [.ln (a0.Legs.length), .as 21 true, .ix (Leg.enc v7), .call false [] (.o (.c (.v (.int .i64 v9)))) [] [], .ix (Leg.enc v11), .call false [] (.o (.c (.v (.int .i64 v13)))) [] [], .ix (encI v15), .as 44 false, .ix (encI v18), .call false [] (.o (.c (.v (.int .i64 v20)))) [] [], .call false [] (.o (.c (.v (.int .i64 v22)))) [] [], .as 58 true] [.keep [1, 2, 3, 4, 9, 10] [0, 1]] (And.intro (lenm Leg.enc a0.Legs) (And.intro h6 (And.intro (gi_map Leg.enc h8) (And.intro (spec_l4Index_ok a1 v7.From v9 h10) (And.intro (gi_map Leg.enc h12) (And.intro (spec_l4Index_ok a1 v11.To v13 h14) (And.intro (gi_map encI h16) (And.intro h17 (And.intro (gi_map encI h19) (And.intro (spec_l4Ready_ok a0 v18 (v9 == a3) v20 h21) (And.intro (spec_l3Next_ok a0 s4 v20 v22 h23) (And.intro h24 True.intro)))))))))))) (by kernel_rfl) (li (Sf := spec_l4Round_L1_S a0 a1 a2 a3) (M := Mk (spec_l4Round_L1 a0 a1 a2 a3) (spec_l4Round_L1_k) r) (k := [.blk 0, .code (cAt Try.f95 [1, 1, 1])]) (Nat.lt_succ_self m1) hK1)
      · obtain ⟨v25, h26, hM⟩ := bind_some hM
        obtain ⟨v27, h28, hM⟩ := bind_some hM
        rcases cond_cases hM with ⟨h29, hM⟩ | ⟨h29, hM⟩
        · obtain ⟨v30, h31, hM⟩ := bind_some hM
          have hE : some (Ctl.next (List.set s3 (Int.toNat v13) v25, w64 (s4 + 1))) = some c1 := hM
          have hE := Option.some.inj hE
          subst hE
          exact pc R 9999 [.ln (a0.Legs.length), .as 21 true, .ix (Leg.enc v7), .call false [] (.o (.c (.v (.int .i64 v9)))) [] [], .ix (Leg.enc v11), .call false [] (.o (.c (.v (.int .i64 v13)))) [] [], .ix (encI v15), .as 44 false, .ix (encI v18), .call false [] (.o (.c (.v (.int .i64 v20)))) [] [], .call false [] (.o (.c (.v (.int .i64 v22)))) [] [], .as 58 false, .call false [] (.o (.c (.v (.int .i64 v25)))) [] [], .ix (encI v27), .as 69 true, .ix (encI v30), .nm ((List.set s3 (Int.toNat v13) v25).map encI)] [.keep [1, 2, 3, 4, 9, 10] [0, 1]] (And.intro (lenm Leg.enc a0.Legs) (And.intro h6 (And.intro (gi_map Leg.enc h8) (And.intro (spec_l4Index_ok a1 v7.From v9 h10) (And.intro (gi_map Leg.enc h12) (And.intro (spec_l4Index_ok a1 v11.To v13 h14) (And.intro (gi_map encI h16) (And.intro h17 (And.intro (gi_map encI h19) (And.intro (spec_l4Ready_ok a0 v18 (v9 == a3) v20 h21) (And.intro (spec_l3Next_ok a0 s4 v20 v22 h23) (And.intro h24 (And.intro (spec_l3Ends_ok a0 (Trip.mk s4 v22) v25 h26) (And.intro (gi_lt encI h28) (And.intro ((gi_map encI h28).2) (And.intro h29 (And.intro (gi_lt encI h31) (And.intro (And.intro (gi_map encI h31).2 (set_map encI s3 (Int.toNat v13) v25)) True.intro)))))))))))))))))) (by kernel_rfl) (li (Sf := spec_l4Round_L1_S a0 a1 a2 a3) (M := Mk (spec_l4Round_L1 a0 a1 a2 a3) (spec_l4Round_L1_k) r) (k := [.blk 0, .code (cAt Try.f95 [1, 1, 1])]) (Nat.lt_succ_self m1) hK1)
        · obtain ⟨v32, h33, hM⟩ := bind_some hM
          rcases cond_cases hM with ⟨h34, hM⟩ | ⟨h34, hM⟩
          · obtain ⟨v35, h36, hM⟩ := bind_some hM
            have hE : some (Ctl.next (List.set s3 (Int.toNat v13) v25, w64 (s4 + 1))) = some c1 := hM
            have hE := Option.some.inj hE
            subst hE
            exact pc R 9999 [.ln (a0.Legs.length), .as 21 true, .ix (Leg.enc v7), .call false [] (.o (.c (.v (.int .i64 v9)))) [] [], .ix (Leg.enc v11), .call false [] (.o (.c (.v (.int .i64 v13)))) [] [], .ix (encI v15), .as 44 false, .ix (encI v18), .call false [] (.o (.c (.v (.int .i64 v20)))) [] [], .call false [] (.o (.c (.v (.int .i64 v22)))) [] [], .as 58 false, .call false [] (.o (.c (.v (.int .i64 v25)))) [] [], .ix (encI v27), .as 69 false, .ix (encI v32), .as 76 true, .ix (encI v35), .nm ((List.set s3 (Int.toNat v13) v25).map encI)] [.keep [1, 2, 3, 4, 9, 10] [0, 1]] (And.intro (lenm Leg.enc a0.Legs) (And.intro h6 (And.intro (gi_map Leg.enc h8) (And.intro (spec_l4Index_ok a1 v7.From v9 h10) (And.intro (gi_map Leg.enc h12) (And.intro (spec_l4Index_ok a1 v11.To v13 h14) (And.intro (gi_map encI h16) (And.intro h17 (And.intro (gi_map encI h19) (And.intro (spec_l4Ready_ok a0 v18 (v9 == a3) v20 h21) (And.intro (spec_l3Next_ok a0 s4 v20 v22 h23) (And.intro h24 (And.intro (spec_l3Ends_ok a0 (Trip.mk s4 v22) v25 h26) (And.intro (gi_lt encI h28) (And.intro ((gi_map encI h28).2) (And.intro h29 (And.intro (gi_lt encI h33) (And.intro ((gi_map encI h33).2) (And.intro h34 (And.intro (gi_lt encI h36) (And.intro (And.intro (gi_map encI h36).2 (set_map encI s3 (Int.toNat v13) v25)) True.intro))))))))))))))))))))) (by kernel_rfl) (li (Sf := spec_l4Round_L1_S a0 a1 a2 a3) (M := Mk (spec_l4Round_L1 a0 a1 a2 a3) (spec_l4Round_L1_k) r) (k := [.blk 0, .code (cAt Try.f95 [1, 1, 1])]) (Nat.lt_succ_self m1) hK1)
          · have hE : some (Ctl.next (s3, w64 (s4 + 1))) = some c1 := hM
            have hE := Option.some.inj hE
            subst hE
            exact pc R 9999 [.ln (a0.Legs.length), .as 21 true, .ix (Leg.enc v7), .call false [] (.o (.c (.v (.int .i64 v9)))) [] [], .ix (Leg.enc v11), .call false [] (.o (.c (.v (.int .i64 v13)))) [] [], .ix (encI v15), .as 44 false, .ix (encI v18), .call false [] (.o (.c (.v (.int .i64 v20)))) [] [], .call false [] (.o (.c (.v (.int .i64 v22)))) [] [], .as 58 false, .call false [] (.o (.c (.v (.int .i64 v25)))) [] [], .ix (encI v27), .as 69 false, .ix (encI v32), .as 76 false] [.keep [1, 2, 3, 4, 9, 10] [0, 1]] (And.intro (lenm Leg.enc a0.Legs) (And.intro h6 (And.intro (gi_map Leg.enc h8) (And.intro (spec_l4Index_ok a1 v7.From v9 h10) (And.intro (gi_map Leg.enc h12) (And.intro (spec_l4Index_ok a1 v11.To v13 h14) (And.intro (gi_map encI h16) (And.intro h17 (And.intro (gi_map encI h19) (And.intro (spec_l4Ready_ok a0 v18 (v9 == a3) v20 h21) (And.intro (spec_l3Next_ok a0 s4 v20 v22 h23) (And.intro h24 (And.intro (spec_l3Ends_ok a0 (Trip.mk s4 v22) v25 h26) (And.intro (gi_lt encI h28) (And.intro ((gi_map encI h28).2) (And.intro h29 (And.intro (gi_lt encI h33) (And.intro ((gi_map encI h33).2) (And.intro h34 True.intro))))))))))))))))))) (by kernel_rfl) (li (Sf := spec_l4Round_L1_S a0 a1 a2 a3) (M := Mk (spec_l4Round_L1 a0 a1 a2 a3) (spec_l4Round_L1_k) r) (k := [.blk 0, .code (cAt Try.f95 [1, 1, 1])]) (Nat.lt_succ_self m1) hK1)
  · have hE : some (Ctl.brk s3) = some c1 := hM
    have hE := Option.some.inj hE
    subst hE
    exact pc R 5 [.ln (a0.Legs.length), .as 21 false] [.keep [9] [1]] (And.intro (lenm Leg.enc a0.Legs) (And.intro h6 True.intro)) (by kernel_rfl) (K1 s3 hK1)

-- loop.example/g03014/spec.BestArrivals
def spec_BestArrivals_L1_b (a0 : Network) (a3 : Int) (v1 : (List ByteArray)) (v3 : Int) (s13 : (List Int)) (s14 : Int) : Option (Ctl ((List Int) × Int) (List Int) (List Int)) :=
  bif (decide (s14 < a3)) then
  bif (decide (s14 < (v1.length : Int))) then
  (spec_l4Round a0 v1 s13 v3).bind fun v18 =>
  some (.next (v18, w64 (s14 + 1)))
  else
  some (.brk s13)
  else
  some (.brk s13)
def spec_BestArrivals_L1 (a0 : Network) (a3 : Int) (v1 : (List ByteArray)) (v3 : Int) (s : (List Int) × Int) : Option (Ctl ((List Int) × Int) (List Int) (List Int)) := spec_BestArrivals_L1_b a0 a3 v1 v3 s.1 s.2
def spec_BestArrivals_L1_s (a0 : Network) (a3 : Int) (v1 : (List ByteArray)) (v3 : Int) (s13 : (List Int)) (s14 : Int) : St := ⟨[(3, .o (.c (.v (.int .i64 a3)))), (4, .o (.c (.ptr 0 0))), (9, .o (.c (.sl 1))), (10, .o (.c (.v (.int .i64 v3)))), (11, .o (.c (.sl 6))), (12, .o (.c (.v (.int .i64 s14))))], [(0, .box 32 [.rs 6 (a0.Legs.map Leg.enc), .rs 1 (a0.Off.map encI), .v (.int .i64 a0.Change)]), (1, .row 9 1 (v1.map encS)), (6, .row 3 1 (s13.map encI))]⟩
def spec_BestArrivals_L1_S (a0 : Network) (a3 : Int) (v1 : (List ByteArray)) (v3 : Int) (s : (List Int) × Int) : St := spec_BestArrivals_L1_s a0 a3 v1 v3 s.1 s.2
def spec_BestArrivals_L1_a (s15 : (List Int)) : Option (List Int) :=
  some s15
def spec_BestArrivals_L1_k (x : ((List Int)) ⊕ ((List Int))) : Option (List Int) := match x with
  | .inl t => spec_BestArrivals_L1_a t
  | .inr y => some y
def spec_BestArrivals (a0 : Network) (a1 : ByteArray) (a2 : Int) (a3 : Int) : Option (List Int) :=
  (spec_PlacesOf a0).bind fun v1 =>
  (spec_l4Index v1 a1).bind fun v3 =>
  (spec_IsNetwork a0).bind fun v5 =>
  bif (!v5) then
  some ([] : List Int)
  else
  bif (decide (v3 < 0)) then
  some ([] : List Int)
  else
  bif (decide (a2 > 100000)) then
  some ([] : List Int)
  else
  bif (decide (a3 < 0)) then
  some ([] : List Int)
  else
  (spec_l4First v1 v3 a2).bind fun v11 =>
  (loopM (spec_BestArrivals_L1 a0 a3 v1 v3) big (v11, 0)).bind (spec_BestArrivals_L1_k)
theorem spec_BestArrivals_ok (a0 : Network) (a1 : ByteArray) (a2 : Int) (a3 : Int) (r : (List Int)) (hM : spec_BestArrivals a0 a1 a2 a3 = some r) :
    Con Try.prog 44 [.agg [.rs 6 (a0.Legs.map Leg.enc), .rs 1 (a0.Off.map encI), .v (.int .i64 a0.Change)], .c (.v (.string a1)), .c (.v (.int .i64 a2)), .c (.v (.int .i64 a3))] [] (.o (.c (.sl 1000))) [] [(1000, .row 3 1 (r.map encI))] := by
  unfold spec_BestArrivals at hM
  refine cn (N := 55) (pids := []) Try_mixed Try.func44 (by kernel_rfl) (by kernel_rfl) (by kernel_rfl) rfl fun ρ g w R => ?_
  obtain ⟨v1, h2, hM⟩ := bind_some hM
  obtain ⟨v3, h4, hM⟩ := bind_some hM
  obtain ⟨v5, h6, hM⟩ := bind_some hM
  rcases cond_cases hM with ⟨h7, hM⟩ | ⟨h7, hM⟩
  · have hE : some ([] : List Int) = some r := hM
    have hE := Option.some.inj hE
    subst hE
    exact pr R 9999 [.new 0, .call false [] (.o (.c (.sl 1))) [] [(1, .row 9 1 (v1.map encS))], .call false [] (.o (.c (.v (.int .i64 v3)))) [] [], .call false [] (.o (.c (.v (.bool v5)))) [] [], .as 21 true, .new 2] [.sw 2 1000] [] [1000] (And.intro (And.intro (con_sw 1000 1 (spec_PlacesOf_ok a0 v1 h2)) (rfl : ([] : List Nat) = [])) (And.intro (spec_l4Index_ok v1 a1 v3 h4) (And.intro (spec_IsNetwork_ok a0 v5 h6) (And.intro h7 True.intro)))) (by kernel_rfl)
  · rcases cond_cases hM with ⟨h8, hM⟩ | ⟨h8, hM⟩
    · have hE : some ([] : List Int) = some r := hM
      have hE := Option.some.inj hE
      subst hE
      exact pr R 9999 [.new 0, .call false [] (.o (.c (.sl 1))) [] [(1, .row 9 1 (v1.map encS))], .call false [] (.o (.c (.v (.int .i64 v3)))) [] [], .call false [] (.o (.c (.v (.bool v5)))) [] [], .as 21 false, .as 25 true, .new 3] [.sw 3 1000] [] [1000] (And.intro (And.intro (con_sw 1000 1 (spec_PlacesOf_ok a0 v1 h2)) (rfl : ([] : List Nat) = [])) (And.intro (spec_l4Index_ok v1 a1 v3 h4) (And.intro (spec_IsNetwork_ok a0 v5 h6) (And.intro h7 (And.intro h8 True.intro))))) (by kernel_rfl)
    · rcases cond_cases hM with ⟨h9, hM⟩ | ⟨h9, hM⟩
      · have hE : some ([] : List Int) = some r := hM
        have hE := Option.some.inj hE
        subst hE
        exact pr R 9999 [.new 0, .call false [] (.o (.c (.sl 1))) [] [(1, .row 9 1 (v1.map encS))], .call false [] (.o (.c (.v (.int .i64 v3)))) [] [], .call false [] (.o (.c (.v (.bool v5)))) [] [], .as 21 false, .as 25 false, .as 29 true, .new 4] [.sw 4 1000] [] [1000] (And.intro (And.intro (con_sw 1000 1 (spec_PlacesOf_ok a0 v1 h2)) (rfl : ([] : List Nat) = [])) (And.intro (spec_l4Index_ok v1 a1 v3 h4) (And.intro (spec_IsNetwork_ok a0 v5 h6) (And.intro h7 (And.intro h8 (And.intro h9 True.intro)))))) (by kernel_rfl)
      · rcases cond_cases hM with ⟨h10, hM⟩ | ⟨h10, hM⟩
        · have hE : some ([] : List Int) = some r := hM
          have hE := Option.some.inj hE
          subst hE
          exact pr R 9999 [.new 0, .call false [] (.o (.c (.sl 1))) [] [(1, .row 9 1 (v1.map encS))], .call false [] (.o (.c (.v (.int .i64 v3)))) [] [], .call false [] (.o (.c (.v (.bool v5)))) [] [], .as 21 false, .as 25 false, .as 29 false, .as 32 true, .new 5] [.sw 5 1000] [] [1000] (And.intro (And.intro (con_sw 1000 1 (spec_PlacesOf_ok a0 v1 h2)) (rfl : ([] : List Nat) = [])) (And.intro (spec_l4Index_ok v1 a1 v3 h4) (And.intro (spec_IsNetwork_ok a0 v5 h6) (And.intro h7 (And.intro h8 (And.intro h9 (And.intro h10 True.intro))))))) (by kernel_rfl)
        · obtain ⟨v11, h12, hM⟩ := bind_some hM
          have K1 : ∀ (s15 : (List Int)), spec_BestArrivals_L1_a s15 = some r → Gr R [.code (cAt Try.f44 [1, 1, 1, 1, 1, 1])] (⟨[(11, .o (.c (.sl 6)))], [(6, .row 3 1 (s15.map encI))]⟩) := by
            intro s15 hM
            unfold spec_BestArrivals_L1_a at hM
            have hE : some s15 = some r := hM
            have hE := Option.some.inj hE
            subst hE
            exact pr R 9999 [] [.sw 6 1000] [] [1000] True.intro (by kernel_rfl)
          refine pc R 9999 [.new 0, .call false [] (.o (.c (.sl 1))) [] [(1, .row 9 1 (v1.map encS))], .call false [] (.o (.c (.v (.int .i64 v3)))) [] [], .call false [] (.o (.c (.v (.bool v5)))) [] [], .as 21 false, .as 25 false, .as 29 false, .as 32 false, .call false [] (.o (.c (.sl 6))) [] [(6, .row 3 1 (v11.map encI))]] [.keep [3, 4, 9, 10, 11, 12] [0, 1, 6]] (k' := [.code (.loop (cAt Try.f44 [1, 1, 1, 1, 1, 0, 1, 0, 0])), .blk 0, .code (cAt Try.f44 [1, 1, 1, 1, 1, 1])]) (S' := spec_BestArrivals_L1_S a0 a3 v1 v3 (v11, 0)) (And.intro (And.intro (con_sw 1000 1 (spec_PlacesOf_ok a0 v1 h2)) (rfl : ([] : List Nat) = [])) (And.intro (spec_l4Index_ok v1 a1 v3 h4) (And.intro (spec_IsNetwork_ok a0 v5 h6) (And.intro h7 (And.intro h8 (And.intro h9 (And.intro h10 (And.intro (And.intro (con_sw 1000 6 (spec_l4First_ok v1 v3 a2 v11 h12)) (rfl : ([] : List Nat) = [])) True.intro)))))))) (by kernel_rfl) ?_
          refine lq (spec_BestArrivals_L1_S a0 a3 v1 v3) (body := spec_BestArrivals_L1 a0 a3 v1 v3) (k := spec_BestArrivals_L1_k) hM fun m1 s c1 hM hK1 => ?_
          obtain ⟨s13, s14⟩ := s
          have hM : spec_BestArrivals_L1_b a0 a3 v1 v3 s13 s14 = some c1 := hM
          unfold spec_BestArrivals_L1_b at hM
          rcases cond_cases hM with ⟨h16, hM⟩ | ⟨h16, hM⟩
          · rcases cond_cases hM with ⟨h17, hM⟩ | ⟨h17, hM⟩
            · obtain ⟨v18, h19, hM⟩ := bind_some hM
              have hE : some (Ctl.next (v18, w64 (s14 + 1))) = some c1 := hM
              have hE := Option.some.inj hE
              subst hE
              exact pc R 9999 [.as 41 true, .ln (v1.length), .as 46 true, .call false [] (.o (.c (.sl 7))) [] [(7, .row 3 1 (v18.map encI))]] [.sw 7 6, .keep [3, 4, 9, 10, 11, 12] [0, 1, 6]] (And.intro h16 (And.intro (lenm encS v1) (And.intro h17 (And.intro (And.intro (con_sw 1000 7 (spec_l4Round_ok a0 v1 s13 v3 v18 h19)) (rfl : ([] : List Nat) = [])) True.intro)))) (by kernel_rfl) (li (Sf := spec_BestArrivals_L1_S a0 a3 v1 v3) (M := Mk (spec_BestArrivals_L1 a0 a3 v1 v3) (spec_BestArrivals_L1_k) r) (k := [.blk 0, .code (cAt Try.f44 [1, 1, 1, 1, 1, 1])]) (Nat.lt_succ_self m1) hK1)
            · have hE : some (Ctl.brk s13) = some c1 := hM
              have hE := Option.some.inj hE
              subst hE
              exact pc R 5 [.as 41 true, .ln (v1.length), .as 46 false] [.keep [11] [6]] (And.intro h16 (And.intro (lenm encS v1) (And.intro h17 True.intro))) (by kernel_rfl) (K1 s13 hK1)
          · have hE : some (Ctl.brk s13) = some c1 := hM
            have hE := Option.some.inj hE
            subst hE
            exact pc R 5 [.as 41 false] [.keep [11] [6]] (And.intro h16 True.intro) (by kernel_rfl) (K1 s13 hK1)

-- loop.example/g03014/impl.nextOf
def impl_nextOf (a0 : Network) : Option (Network) :=
  some a0
theorem impl_nextOf_ok (a0 : Network) (r : (Network)) (hM : impl_nextOf a0 = some r) :
    Con Try.prog 65 [.agg [.rs 6 (a0.Legs.map Leg.enc), .rs 1 (a0.Off.map encI), .v (.int .i64 a0.Change)]] [] (.o (.c (.fn 105 [1000]))) [] [(1000, .box 32 [.rs 6 (r.Legs.map Leg.enc), .rs 1 (r.Off.map encI), .v (.int .i64 r.Change)])] := by
  unfold impl_nextOf at hM
  refine cn (N := 4) (pids := []) Try_mixed Try.func65 (by kernel_rfl) (by kernel_rfl) (by kernel_rfl) rfl fun ρ g w R => ?_
  have hE : some a0 = some r := hM
  have hE := Option.some.inj hE
  subst hE
  exact pr R 9999 [.new 0] [.sw 0 1000] [] [1000] True.intro (by kernel_rfl)

-- loop.example/g03014/impl.readyAt
def impl_readyAt (a0 : Network) (a1 : Int) (a2 : Bool) : Option Int :=
  bif a2 then
  some a1
  else
  some (w64 (a1 + a0.Change))
theorem impl_readyAt_ok (a0 : Network) (a1 : Int) (a2 : Bool) (r : Int) (hM : impl_readyAt a0 a1 a2 = some r) :
    Con Try.prog 124 [.agg [.rs 6 (a0.Legs.map Leg.enc), .rs 1 (a0.Off.map encI), .v (.int .i64 a0.Change)], .c (.v (.int .i64 a1)), .c (.v (.bool a2))] [] (.o (.c (.v (.int .i64 r)))) [] [] := by
  unfold impl_readyAt at hM
  refine cn (N := 13) (pids := []) Try_mixed Try.func124 (by kernel_rfl) (by kernel_rfl) (by kernel_rfl) rfl fun ρ g w R => ?_
  rcases cond_cases hM with ⟨h1, hM⟩ | ⟨h1, hM⟩
  · have hE : some a1 = some r := hM
    have hE := Option.some.inj hE
    subst hE
    exact pr R 9999 [.new 0, .as 7 true] [] [] [] (And.intro h1 True.intro) (by kernel_rfl)
  · have hE : some (w64 (a1 + a0.Change)) = some r := hM
    have hE := Option.some.inj hE
    subst hE
    exact pr R 9999 [.new 0, .as 7 false] [] [] [] (And.intro h1 True.intro) (by kernel_rfl)

-- loop.example/g03014/impl.next
def impl_next_L1_b (a0 : Network) (a1 : Int) (a2 : Int) (s1 : Int) : Option (Ctl Int Unit (Trip × Bool)) :=
  bif (decide (s1 ≤ 60)) then
  (impl_runs a0 a1 s1).bind fun v3 =>
  bif v3 then
  (impl_starts a0 (Trip.mk ((Trip.mk a1 s1).Leg) ((Trip.mk a1 s1).Day))).bind fun v6 =>
  bif (decide (v6 ≥ a2)) then
  some (.ret ((Trip.mk ((Trip.mk ((Trip.mk a1 s1).Leg) ((Trip.mk a1 s1).Day)).Leg) ((Trip.mk ((Trip.mk a1 s1).Leg) ((Trip.mk a1 s1).Day)).Day)), true))
  else
  some (.next (w64 (s1 + 1)))
  else
  some (.next (w64 (s1 + 1)))
  else
  some (.brk ())
def impl_next_L1 (a0 : Network) (a1 : Int) (a2 : Int) (s : Int) : Option (Ctl Int Unit (Trip × Bool)) := impl_next_L1_b a0 a1 a2 s
def impl_next_L1_s (a0 : Network) (a1 : Int) (a2 : Int) (s1 : Int) : St := ⟨[(1, .o (.c (.v (.int .i64 a1)))), (2, .o (.c (.v (.int .i64 a2)))), (3, .o (.c (.ptr 0 0))), (6, .o (.c (.ptr 1 0))), (8, .o (.c (.v (.int .i64 s1))))], [(0, .box 32 [.rs 6 (a0.Legs.map Leg.enc), .rs 1 (a0.Off.map encI), .v (.int .i64 a0.Change)]), (1, .box 74 [.v (.int .i64 0), .v (.int .i64 0)])]⟩
def impl_next_L1_S (a0 : Network) (a1 : Int) (a2 : Int) (s : Int) : St := impl_next_L1_s a0 a1 a2 s
def impl_next_L1_a : Option (Trip × Bool) :=
  some ((Trip.mk ((Trip.mk 0 0).Leg) ((Trip.mk 0 0).Day)), false)
def impl_next_L1_k (x : (Unit) ⊕ (Trip × Bool)) : Option (Trip × Bool) := match x with
  | .inl t => impl_next_L1_a
  | .inr y => some y
def impl_next (a0 : Network) (a1 : Int) (a2 : Int) : Option (Trip × Bool) :=
  (loopM (impl_next_L1 a0 a1 a2) big 0).bind (impl_next_L1_k)
theorem impl_next_ok (a0 : Network) (a1 : Int) (a2 : Int) (r : Trip × Bool) (hM : impl_next a0 a1 a2 = some r) :
    Con Try.prog 106 [.agg [.rs 6 (a0.Legs.map Leg.enc), .rs 1 (a0.Off.map encI), .v (.int .i64 a0.Change)], .c (.v (.int .i64 a1)), .c (.v (.int .i64 a2))] [] (.tup [.c (.v (.agg (Trip.enc r.1).toArray)), .c (.v (.bool r.2))]) [] [] := by
  unfold impl_next at hM
  refine cn (N := 30) (pids := []) Try_mixed Try.func106 (by kernel_rfl) (by kernel_rfl) (by kernel_rfl) rfl fun ρ g w R => ?_
  have K1 : ∀ (_ : Unit), impl_next_L1_a = some r → Gr R [.code (cAt Try.f106 [1, 1])] (⟨[(6, .o (.c (.ptr 1 0)))], [(1, .box 74 [.v (.int .i64 0), .v (.int .i64 0)])]⟩) := by
    intro _ hM
    unfold impl_next_L1_a at hM
    have hE : some ((Trip.mk ((Trip.mk 0 0).Leg) ((Trip.mk 0 0).Day)), false) = some r := hM
    have hE := Option.some.inj hE
    subst hE
    exact pr R 9999 [] [] [] [] True.intro (by kernel_rfl)
  refine pc R 9999 [.new 0, .new 1] [.keep [1, 2, 3, 6, 8] [0, 1]] (k' := [.code (.loop (cAt Try.f106 [1, 0, 1, 0, 0])), .blk 0, .code (cAt Try.f106 [1, 1])]) (S' := impl_next_L1_S a0 a1 a2 0) True.intro (by kernel_rfl) ?_
  refine lq (impl_next_L1_S a0 a1 a2) (body := impl_next_L1 a0 a1 a2) (k := impl_next_L1_k) hM fun m1 s c1 hM hK1 => ?_
  obtain ⟨s1, hs⟩ : ∃ z, z = s := ⟨_, rfl⟩
  subst hs
  have hM : impl_next_L1_b a0 a1 a2 s1 = some c1 := hM
  unfold impl_next_L1_b at hM
  rcases cond_cases hM with ⟨h2, hM⟩ | ⟨h2, hM⟩
  · obtain ⟨v3, h4, hM⟩ := bind_some hM
    rcases cond_cases hM with ⟨h5, hM⟩ | ⟨h5, hM⟩
    · obtain ⟨v6, h7, hM⟩ := bind_some hM
      rcases cond_cases hM with ⟨h8, hM⟩ | ⟨h8, hM⟩
      · have hE : some (Ctl.ret ((Trip.mk ((Trip.mk ((Trip.mk a1 s1).Leg) ((Trip.mk a1 s1).Day)).Leg) ((Trip.mk ((Trip.mk a1 s1).Leg) ((Trip.mk a1 s1).Day)).Day)), true)) = some c1 := hM
        have hE := Option.some.inj hE
        subst hE
        have hE : some ((Trip.mk ((Trip.mk ((Trip.mk a1 s1).Leg) ((Trip.mk a1 s1).Day)).Leg) ((Trip.mk ((Trip.mk a1 s1).Leg) ((Trip.mk a1 s1).Day)).Day)), true) = some r := hK1
        have hE := Option.some.inj hE
        subst hE
        exact pr R 9999 [.as 11 true, .new 2, .call false [] (.o (.c (.v (.bool v3)))) [] [], .as 21 true, .call false [] (.o (.c (.v (.int .i64 v6)))) [] [], .as 27 true] [] [] [] (And.intro h2 (And.intro (impl_runs_ok a0 a1 s1 v3 h4) (And.intro h5 (And.intro (impl_starts_ok a0 (Trip.mk ((Trip.mk a1 s1).Leg) ((Trip.mk a1 s1).Day)) v6 h7) (And.intro h8 True.intro))))) (by kernel_rfl)
      · have hE : some (Ctl.next (w64 (s1 + 1))) = some c1 := hM
        have hE := Option.some.inj hE
        subst hE
        exact pc R 9999 [.as 11 true, .new 2, .call false [] (.o (.c (.v (.bool v3)))) [] [], .as 21 true, .call false [] (.o (.c (.v (.int .i64 v6)))) [] [], .as 27 false] [.keep [1, 2, 3, 6, 8] [0, 1]] (And.intro h2 (And.intro (impl_runs_ok a0 a1 s1 v3 h4) (And.intro h5 (And.intro (impl_starts_ok a0 (Trip.mk ((Trip.mk a1 s1).Leg) ((Trip.mk a1 s1).Day)) v6 h7) (And.intro h8 True.intro))))) (by kernel_rfl) (li (Sf := impl_next_L1_S a0 a1 a2) (M := Mk (impl_next_L1 a0 a1 a2) (impl_next_L1_k) r) (k := [.blk 0, .code (cAt Try.f106 [1, 1])]) (Nat.lt_succ_self m1) hK1)
    · have hE : some (Ctl.next (w64 (s1 + 1))) = some c1 := hM
      have hE := Option.some.inj hE
      subst hE
      exact pc R 9999 [.as 11 true, .new 2, .call false [] (.o (.c (.v (.bool v3)))) [] [], .as 21 false] [.keep [1, 2, 3, 6, 8] [0, 1]] (And.intro h2 (And.intro (impl_runs_ok a0 a1 s1 v3 h4) (And.intro h5 True.intro))) (by kernel_rfl) (li (Sf := impl_next_L1_S a0 a1 a2) (M := Mk (impl_next_L1 a0 a1 a2) (impl_next_L1_k) r) (k := [.blk 0, .code (cAt Try.f106 [1, 1])]) (Nat.lt_succ_self m1) hK1)
  · have hE : some (Ctl.brk ()) = some c1 := hM
    have hE := Option.some.inj hE
    subst hE
    exact pc R 5 [.as 11 false] [.keep [6] [1]] (And.intro h2 True.intro) (by kernel_rfl) (K1 () hK1)

-- loop.example/g03014/impl.nextOf$1
def impl_nextOf_c1 (a0 : Int) (a1 : Int) (a2 : Network) : Option (Trip × Bool) :=
  (impl_next a2 a0 a1).bind fun v1 =>
  some (v1.1, v1.2)
theorem impl_nextOf_c1_ok (a0 : Int) (a1 : Int) (a2 : Network) (r : Trip × Bool) (hM : impl_nextOf_c1 a0 a1 a2 = some r) :
    Con Try.prog 105 [.c (.v (.int .i64 a0)), .c (.v (.int .i64 a1)), .c (.ptr 902 0)] [(902, .box 32 [.rs 6 (a2.Legs.map Leg.enc), .rs 1 (a2.Off.map encI), .v (.int .i64 a2.Change)])] (.tup [.c (.v (.agg (Trip.enc r.1).toArray)), .c (.v (.bool r.2))]) [(902, .box 32 [.rs 6 (a2.Legs.map Leg.enc), .rs 1 (a2.Off.map encI), .v (.int .i64 a2.Change)])] [] := by
  unfold impl_nextOf_c1 at hM
  refine cn (N := 18) (pids := [902]) Try_mixed Try.func105 (by kernel_rfl) (by kernel_rfl) (by kernel_rfl) rfl fun ρ g w R => ?_
  obtain ⟨v1, h2, hM⟩ := bind_some hM
  have hE : some (v1.1, v1.2) = some r := hM
  have hE := Option.some.inj hE
  subst hE
  exact pr R 9999 [.new 0, .call false [] (.tup [.c (.v (.agg (Trip.enc v1.1).toArray)), .c (.v (.bool v1.2))]) [] [], .new 1] [] [902] [] (And.intro (impl_next_ok a2 a0 a1 v1 h2) True.intro) (by kernel_rfl)
end Go.Sx
