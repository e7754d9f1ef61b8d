/- The functions of the program as plain Lean, and that each runs so (printed by wip/gen). -/
import Derived.Test.YtanfbicgojbnkaaDoorSxR
import Derived.Test.YtanfbicgojbnkaaDoorMfQ
import Derived.Laws.StructEq
import Derived.Test.YtanfbicgojbnkaaDoorProg
namespace Go.Sx
open Go.Proofs
set_option linter.unusedVariables false
set_option maxRecDepth 100000
theorem Tryd_mixed : Tryd.prog.follows .mixedOrders = true := by kernel_rfl
structure Pair where
  Id : Int
  In : Int
  deriving DecidableEq, Inhabited
def Pair.enc (x : Pair) : List Value := [.int .i64 x.Id, .int .i64 x.In]
structure Thing where
  Id : Int
  Own : Int
  Room : Int
  In : Int
  Box : Bool
  Sealed : Bool
  deriving DecidableEq, Inhabited
def Thing.enc (x : Thing) : List Value := [.int .i64 x.Id, .int .i64 x.Own, .int .i64 x.Room, .int .i64 x.In, .bool x.Box, .bool x.Sealed]
structure manifestReader where
  s : ByteArray
  at_ : Int
  out : (List Pair)
  deriving DecidableEq, Inhabited
structure l1Cur where
  b : (List Int)
  i : Int
  h : Int
  deriving DecidableEq, Inhabited


-- loop.example/g03014/laws.big
def laws_big (a0 : (List Int)) : Option Bool :=
  some (decide ((a0.length : Int) > 4096))
theorem laws_big_ok (a0 : (List Int)) (r : Bool) (hM : laws_big a0 = some r) :
    Con Tryd.prog 6 [.c (.rs 1 (a0.map encU8))] [] (.o (.c (.v (.bool r)))) [] [] := by
  unfold laws_big at hM
  refine cn (N := 6) (pids := []) Tryd_mixed Tryd.func6 (by kernel_rfl) (by kernel_rfl) (by kernel_rfl) rfl fun ρ g w R => ?_
  have hE : some (decide ((a0.length : Int) > 4096)) = some r := hM
  have hE := Option.some.inj hE
  subst hE
  exact pr R 9999 [.ln (a0.length)] [] [] [] (And.intro (lenm encU8 a0) True.intro) (by kernel_rfl)

-- loop.example/g03014/spec.l1New
def spec_l1New_L1_b (a0 : (List Int)) (s1 : Int) (s2 : Int) : Option (Ctl (Int × Int) Int l1Cur) :=
  bif (decide (s2 < (a0.length : Int))) then
  bif (decide (s2 < 4000)) then
  (gi a0 s2).bind fun v6 =>
  some (.next (w64 ((BitVec.ofInt 64 (w64 ((w64 ((w64 (s1 * 167)) + (w64 v6))) + 29)) &&& BitVec.ofInt 64 1073741823).toNat), w64 (s2 + 1)))
  else
  some (.brk s1)
  else
  some (.brk s1)
def spec_l1New_L1 (a0 : (List Int)) (s : Int × Int) : Option (Ctl (Int × Int) Int l1Cur) := spec_l1New_L1_b a0 s.1 s.2
def spec_l1New_L1_s (a0 : (List Int)) (s1 : Int) (s2 : Int) : St := ⟨[(0, .o (.c (.rs 1 (a0.map encU8)))), (3, .o (.c (.v (.int .i64 s1)))), (4, .o (.c (.v (.int .i64 s2))))], []⟩
def spec_l1New_L1_S (a0 : (List Int)) (s : Int × Int) : St := spec_l1New_L1_s a0 s.1 s.2
def spec_l1New_L1_a (a0 : (List Int)) (s3 : Int) : Option l1Cur :=
  some (l1Cur.mk a0 0 s3)
def spec_l1New_L1_k (a0 : (List Int)) (x : (Int) ⊕ (l1Cur)) : Option l1Cur := match x with
  | .inl t => spec_l1New_L1_a a0 t
  | .inr y => some y
def spec_l1New (a0 : (List Int)) : Option l1Cur :=
  (loopM (spec_l1New_L1 a0) big (w64 (744201 + (w64 (3 * (a0.length : Int)))), 0)).bind (spec_l1New_L1_k a0)
theorem spec_l1New_ok (a0 : (List Int)) (r : l1Cur) (hM : spec_l1New a0 = some r) :
    Con Tryd.prog 36 [.c (.rs 1 (a0.map encU8))] [] (.o (.c (.ptr 1000 0))) [] [(1000, .box 66 [.rs 1 (r.b.map encU8), .v (.int .i64 r.i), .v (.int .i64 r.h)])] := by
  unfold spec_l1New at hM
  refine cn (N := 33) (pids := []) Tryd_mixed Tryd.func36 (by kernel_rfl) (by kernel_rfl) (by kernel_rfl) rfl fun ρ g w R => ?_
  have K1 : ∀ (s3 : Int), spec_l1New_L1_a a0 s3 = some r → Gr R [.code (cAt Tryd.f36 [1, 1, 1])] (⟨[(0, .o (.c (.rs 1 (a0.map encU8)))), (3, .o (.c (.v (.int .i64 s3))))], []⟩) := by
    intro s3 hM
    unfold spec_l1New_L1_a at hM
    have hE : some (l1Cur.mk a0 0 s3) = some r := hM
    have hE := Option.some.inj hE
    subst hE
    exact pr R 9999 [.new 0] [.sw 0 1000] [] [1000] True.intro (by kernel_rfl)
  refine pc R 9999 [.ln (a0.length)] [.keep [0, 3, 4] []] (k' := [.code (.loop (cAt Tryd.f36 [1, 1, 0, 1, 0, 0])), .blk 0, .code (cAt Tryd.f36 [1, 1, 1])]) (S' := spec_l1New_L1_S a0 (w64 (744201 + (w64 (3 * (a0.length : Int)))), 0)) (And.intro (lenm encU8 a0) True.intro) (by kernel_rfl) ?_
  refine lq (spec_l1New_L1_S a0) (body := spec_l1New_L1 a0) (k := spec_l1New_L1_k a0) hM fun m1 s c1 hM hK1 => ?_
  obtain ⟨s1, s2⟩ := s
  have hM : spec_l1New_L1_b a0 s1 s2 = some c1 := hM
  unfold spec_l1New_L1_b at hM
  rcases cond_cases hM with ⟨h4, hM⟩ | ⟨h4, hM⟩
  · rcases cond_cases hM with ⟨h5, hM⟩ | ⟨h5, hM⟩
    · obtain ⟨v6, h7, hM⟩ := bind_some hM
      have hE : some (Ctl.next (w64 ((BitVec.ofInt 64 (w64 ((w64 ((w64 (s1 * 167)) + (w64 v6))) + 29)) &&& BitVec.ofInt 64 1073741823).toNat), w64 (s2 + 1))) = some c1 := hM
      have hE := Option.some.inj hE
      subst hE
      exact pc R 9999 [.ln (a0.length), .as 13 true, .as 16 true, .ix (encU8 v6)] [.keep [0, 3, 4] []] (And.intro (lenm encU8 a0) (And.intro h4 (And.intro h5 (And.intro (gi_map encU8 h7) True.intro)))) (by kernel_rfl) (li (Sf := spec_l1New_L1_S a0) (M := Mk (spec_l1New_L1 a0) (spec_l1New_L1_k a0) r) (k := [.blk 0, .code (cAt Tryd.f36 [1, 1, 1])]) (Nat.lt_succ_self m1) hK1)
    · have hE : some (Ctl.brk s1) = some c1 := hM
      have hE := Option.some.inj hE
      subst hE
      exact pc R 5 [.ln (a0.length), .as 13 true, .as 16 false] [.keep [0, 3] []] (And.intro (lenm encU8 a0) (And.intro h4 (And.intro h5 True.intro))) (by kernel_rfl) (K1 s1 hK1)
  · have hE : some (Ctl.brk s1) = some c1 := hM
    have hE := Option.some.inj hE
    subst hE
    exact pc R 5 [.ln (a0.length), .as 13 false] [.keep [0, 3] []] (And.intro (lenm encU8 a0) (And.intro h4 True.intro)) (by kernel_rfl) (K1 s1 hK1)

-- loop.example/g03014/spec.l1Byte
def spec_l1Byte (a0 : l1Cur) : Option (Int × l1Cur) :=
  bif (decide (a0.i < (a0.b.length : Int))) then
  (gi a0.b a0.i).bind fun v2 =>
  some (w64 ((BitVec.ofInt 64 (w64 ((w64 ((BitVec.ofInt 64 (w64 ((BitVec.ofInt 64 (Int.fdiv (w64 ((w64 (a0.h * 6364136223846793005)) + 1442695040888963407)) (2 ^ 35)) ^^^ BitVec.ofInt 64 (Int.fdiv (w64 ((w64 (a0.h * 6364136223846793005)) + 1442695040888963407)) (2 ^ 45))).toNat)) &&& BitVec.ofInt 64 255).toNat)) + (w64 v2))) &&& BitVec.ofInt 64 255).toNat), (l1Cur.mk a0.b (w64 (a0.i + 1)) (w64 ((w64 (a0.h * 6364136223846793005)) + 1442695040888963407))))
  else
  some (w64 ((BitVec.ofInt 64 (w64 ((BitVec.ofInt 64 (Int.fdiv (w64 ((w64 (a0.h * 6364136223846793005)) + 1442695040888963407)) (2 ^ 35)) ^^^ BitVec.ofInt 64 (Int.fdiv (w64 ((w64 (a0.h * 6364136223846793005)) + 1442695040888963407)) (2 ^ 45))).toNat)) &&& BitVec.ofInt 64 255).toNat), (l1Cur.mk a0.b a0.i (w64 ((w64 (a0.h * 6364136223846793005)) + 1442695040888963407))))
theorem spec_l1Byte_ok (a0 : l1Cur) (r : Int × l1Cur) (hM : spec_l1Byte a0 = some r) :
    Con Tryd.prog 58 [.c (.ptr 900 0)] [(900, .box 66 [.rs 1 (a0.b.map encU8), .v (.int .i64 a0.i), .v (.int .i64 a0.h)])] (.o (.c (.v (.int .i64 r.1)))) [(900, .box 66 [.rs 1 (r.2.b.map encU8), .v (.int .i64 r.2.i), .v (.int .i64 r.2.h)])] [] := by
  unfold spec_l1Byte at hM
  refine cn (N := 58) (pids := [900]) Tryd_mixed Tryd.func58 (by kernel_rfl) (by kernel_rfl) (by kernel_rfl) rfl fun ρ g w R => ?_
  rcases cond_cases hM with ⟨h1, hM⟩ | ⟨h1, hM⟩
  · obtain ⟨v2, h3, hM⟩ := bind_some hM
    have hE : some (w64 ((BitVec.ofInt 64 (w64 ((w64 ((BitVec.ofInt 64 (w64 ((BitVec.ofInt 64 (Int.fdiv (w64 ((w64 (a0.h * 6364136223846793005)) + 1442695040888963407)) (2 ^ 35)) ^^^ BitVec.ofInt 64 (Int.fdiv (w64 ((w64 (a0.h * 6364136223846793005)) + 1442695040888963407)) (2 ^ 45))).toNat)) &&& BitVec.ofInt 64 255).toNat)) + (w64 v2))) &&& BitVec.ofInt 64 255).toNat), (l1Cur.mk a0.b (w64 (a0.i + 1)) (w64 ((w64 (a0.h * 6364136223846793005)) + 1442695040888963407)))) = some r := hM
    have hE := Option.some.inj hE
    subst hE
    exact pr R 9999 [.ln (a0.b.length), .as 34 true, .ix (encU8 v2)] [] [900] [] (And.intro (lenm encU8 a0.b) (And.intro h1 (And.intro (gi_map encU8 h3) True.intro))) (by kernel_rfl)
  · have hE : some (w64 ((BitVec.ofInt 64 (w64 ((BitVec.ofInt 64 (Int.fdiv (w64 ((w64 (a0.h * 6364136223846793005)) + 1442695040888963407)) (2 ^ 35)) ^^^ BitVec.ofInt 64 (Int.fdiv (w64 ((w64 (a0.h * 6364136223846793005)) + 1442695040888963407)) (2 ^ 45))).toNat)) &&& BitVec.ofInt 64 255).toNat), (l1Cur.mk a0.b a0.i (w64 ((w64 (a0.h * 6364136223846793005)) + 1442695040888963407)))) = some r := hM
    have hE := Option.some.inj hE
    subst hE
    exact pr R 9999 [.ln (a0.b.length), .as 34 false] [] [900] [] (And.intro (lenm encU8 a0.b) (And.intro h1 True.intro)) (by kernel_rfl)

-- loop.example/g03014/spec.l1Below
def spec_l1Below (a0 : l1Cur) (a1 : Int) : Option (Int × l1Cur) :=
  bif (decide (a1 ≤ 0)) then
  some (0, a0)
  else
  bif (decide (a1 ≤ 256)) then
  (spec_l1Byte a0).bind fun v3 =>
  (rM v3.1 a1).bind fun v5 =>
  some (v5, v3.2)
  else
  (spec_l1Byte a0).bind fun v7 =>
  (spec_l1Byte v7.2).bind fun v9 =>
  (spec_l1Byte v9.2).bind fun v11 =>
  (rM (w64 ((w64 ((w64 (v7.1 * 65536)) + (w64 (v9.1 * 256)))) + v11.1)) a1).bind fun v13 =>
  some (v13, v11.2)
theorem spec_l1Below_ok (a0 : l1Cur) (a1 : Int) (r : Int × l1Cur) (hM : spec_l1Below a0 a1 = some r) :
    Con Tryd.prog 48 [.c (.ptr 900 0), .c (.v (.int .i64 a1))] [(900, .box 66 [.rs 1 (a0.b.map encU8), .v (.int .i64 a0.i), .v (.int .i64 a0.h)])] (.o (.c (.v (.int .i64 r.1)))) [(900, .box 66 [.rs 1 (r.2.b.map encU8), .v (.int .i64 r.2.i), .v (.int .i64 r.2.h)])] [] := by
  unfold spec_l1Below at hM
  refine cn (N := 31) (pids := [900]) Tryd_mixed Tryd.func48 (by kernel_rfl) (by kernel_rfl) (by kernel_rfl) rfl fun ρ g w R => ?_
  rcases cond_cases hM with ⟨h1, hM⟩ | ⟨h1, hM⟩
  · have hE : some (0, a0) = some r := hM
    have hE := Option.some.inj hE
    subst hE
    exact pr R 9999 [.as 9 true] [] [900] [] (And.intro h1 True.intro) (by kernel_rfl)
  · rcases cond_cases hM with ⟨h2, hM⟩ | ⟨h2, hM⟩
    · obtain ⟨v3, h4, hM⟩ := bind_some hM
      obtain ⟨v5, h6, hM⟩ := bind_some hM
      have hE : some (v5, v3.2) = some r := hM
      have hE := Option.some.inj hE
      subst hE
      exact pr R 9999 [.as 9 false, .as 11 true, .call true [900] (.o (.c (.v (.int .i64 v3.1)))) [(900, .box 66 [.rs 1 (v3.2.b.map encU8), .v (.int .i64 v3.2.i), .v (.int .i64 v3.2.h)])] [], .run 15 (.int .i64 v5)] [] [900] [] (And.intro h1 (And.intro h2 (And.intro (And.intro (con_sw 900 900 (spec_l1Byte_ok a0 v3 h4)) (rfl : ([900] : List Nat) = [900])) (And.intro (rM_run (P := Tryd.prog) (t := 3) (x := .tmp 0) (y := .tmp 0) h6) True.intro)))) (by kernel_rfl)
    · obtain ⟨v7, h8, hM⟩ := bind_some hM
      obtain ⟨v9, h10, hM⟩ := bind_some hM
      obtain ⟨v11, h12, hM⟩ := bind_some hM
      obtain ⟨v13, h14, hM⟩ := bind_some hM
      have hE : some (v13, v11.2) = some r := hM
      have hE := Option.some.inj hE
      subst hE
      exact pr R 9999 [.as 9 false, .as 11 false, .call true [900] (.o (.c (.v (.int .i64 v7.1)))) [(900, .box 66 [.rs 1 (v7.2.b.map encU8), .v (.int .i64 v7.2.i), .v (.int .i64 v7.2.h)])] [], .call true [900] (.o (.c (.v (.int .i64 v9.1)))) [(900, .box 66 [.rs 1 (v9.2.b.map encU8), .v (.int .i64 v9.2.i), .v (.int .i64 v9.2.h)])] [], .call true [900] (.o (.c (.v (.int .i64 v11.1)))) [(900, .box 66 [.rs 1 (v11.2.b.map encU8), .v (.int .i64 v11.2.i), .v (.int .i64 v11.2.h)])] [], .run 30 (.int .i64 v13)] [] [900] [] (And.intro h1 (And.intro h2 (And.intro (And.intro (con_sw 900 900 (spec_l1Byte_ok a0 v7 h8)) (rfl : ([900] : List Nat) = [900])) (And.intro (And.intro (con_sw 900 900 (spec_l1Byte_ok v7.2 v9 h10)) (rfl : ([900] : List Nat) = [900])) (And.intro (And.intro (con_sw 900 900 (spec_l1Byte_ok v9.2 v11 h12)) (rfl : ([900] : List Nat) = [900])) (And.intro (rM_run (P := Tryd.prog) (t := 3) (x := .tmp 0) (y := .tmp 0) h14) True.intro)))))) (by kernel_rfl)

-- loop.example/g03014/spec.l1Once
def spec_l1Once (a0 : l1Cur) (a1 : Int) : Option (Bool × l1Cur) :=
  (spec_l1Below a0 a1).bind fun v1 =>
  some (v1.1 == 0, v1.2)
theorem spec_l1Once_ok (a0 : l1Cur) (a1 : Int) (r : Bool × l1Cur) (hM : spec_l1Once a0 a1 = some r) :
    Con Tryd.prog 50 [.c (.ptr 900 0), .c (.v (.int .i64 a1))] [(900, .box 66 [.rs 1 (a0.b.map encU8), .v (.int .i64 a0.i), .v (.int .i64 a0.h)])] (.o (.c (.v (.bool r.1)))) [(900, .box 66 [.rs 1 (r.2.b.map encU8), .v (.int .i64 r.2.i), .v (.int .i64 r.2.h)])] [] := by
  unfold spec_l1Once at hM
  refine cn (N := 9) (pids := [900]) Tryd_mixed Tryd.func50 (by kernel_rfl) (by kernel_rfl) (by kernel_rfl) rfl fun ρ g w R => ?_
  obtain ⟨v1, h2, hM⟩ := bind_some hM
  have hE : some (v1.1 == 0, v1.2) = some r := hM
  have hE := Option.some.inj hE
  subst hE
  exact pr R 9999 [.call true [900] (.o (.c (.v (.int .i64 v1.1)))) [(900, .box 66 [.rs 1 (v1.2.b.map encU8), .v (.int .i64 v1.2.i), .v (.int .i64 v1.2.h)])] []] [] [900] [] (And.intro (And.intro (con_sw 900 900 (spec_l1Below_ok a0 a1 v1 h2)) (rfl : ([900] : List Nat) = [900])) True.intro) (by kernel_rfl)

-- loop.example/g03014/spec.l1Int
def spec_l1Int (a0 : l1Cur) (a1 : (List Int)) : Option (Int × l1Cur) :=
  (spec_l1Below a0 (a1.length : Int)).bind fun v1 =>
  (gi a1 v1.1).bind fun v3 =>
  some (v3, v1.2)
theorem spec_l1Int_ok (a0 : l1Cur) (a1 : (List Int)) (r : Int × l1Cur) (hM : spec_l1Int a0 a1 = some r) :
    Con Tryd.prog 49 [.c (.ptr 900 0), .c (.sl 901)] [(900, .box 66 [.rs 1 (a0.b.map encU8), .v (.int .i64 a0.i), .v (.int .i64 a0.h)]), (901, .row 3 1 (a1.map encI))] (.o (.c (.v (.int .i64 r.1)))) [(900, .box 66 [.rs 1 (r.2.b.map encU8), .v (.int .i64 r.2.i), .v (.int .i64 r.2.h)]), (901, .row 3 1 (a1.map encI))] [] := by
  unfold spec_l1Int at hM
  refine cn (N := 12) (pids := [900, 901]) Tryd_mixed Tryd.func49 (by kernel_rfl) (by kernel_rfl) (by kernel_rfl) rfl fun ρ g w R => ?_
  obtain ⟨v1, h2, hM⟩ := bind_some hM
  obtain ⟨v3, h4, hM⟩ := bind_some hM
  have hE : some (v3, v1.2) = some r := hM
  have hE := Option.some.inj hE
  subst hE
  exact pr R 9999 [.ln (a1.length), .call true [900] (.o (.c (.v (.int .i64 v1.1)))) [(900, .box 66 [.rs 1 (v1.2.b.map encU8), .v (.int .i64 v1.2.i), .v (.int .i64 v1.2.h)])] [], .ix (encI v3)] [] [900, 901] [] (And.intro (lenm encI a1) (And.intro (And.intro (con_sw 900 900 (spec_l1Below_ok a0 (a1.length : Int) v1 h2)) (rfl : ([900] : List Nat) = [900])) (And.intro (gi_lt encI h4) (And.intro ((gi_map encI h4).2) True.intro)))) (by kernel_rfl)

-- loop.example/g03014/spec.l5Id
def spec_l5Id (a0 : l1Cur) (a1 : (List Thing)) : Option (Int × l1Cur) :=
  bif ((a1.length : Int) == 0) then
  (spec_l1Int a0 ([0, (-1), 9999, 10000] : List Int)).bind fun v2 =>
  some v2
  else
  (spec_l1Once a0 12).bind fun v4 =>
  bif v4.1 then
  (spec_l1Int v4.2 ([0, (-1), 9999, 10000] : List Int)).bind fun v7 =>
  some v7
  else
  (spec_l1Below v4.2 (a1.length : Int)).bind fun v9 =>
  (gi a1 v9.1).bind fun v11 =>
  some (v11.Id, v9.2)
theorem spec_l5Id_ok (a0 : l1Cur) (a1 : (List Thing)) (r : Int × l1Cur) (hM : spec_l5Id a0 a1 = some r) :
    Con Tryd.prog 38 [.c (.ptr 900 0), .c (.sl 901)] [(900, .box 66 [.rs 1 (a0.b.map encU8), .v (.int .i64 a0.i), .v (.int .i64 a0.h)]), (901, .row 37 6 (a1.map Thing.enc))] (.o (.c (.v (.int .i64 r.1)))) [(900, .box 66 [.rs 1 (r.2.b.map encU8), .v (.int .i64 r.2.i), .v (.int .i64 r.2.h)]), (901, .row 37 6 (a1.map Thing.enc))] [] := by
  unfold spec_l5Id at hM
  refine cn (N := 23) (pids := [900, 901]) Tryd_mixed Tryd.func38 (by kernel_rfl) (by kernel_rfl) (by kernel_rfl) rfl fun ρ g w R => ?_
  rcases cond_cases hM with ⟨h1, hM⟩ | ⟨h1, hM⟩
  · obtain ⟨v2, h3, hM⟩ := bind_some hM
    have hE : some v2 = some r := hM
    have hE := Option.some.inj hE
    subst hE
    exact pr R 9999 [.ln (a1.length), .as 8 true, .new 0, .ad (.keep [0, 1, 4, 5, 6, 7, 8, 9, 10, 11, 12, 13] [900, 0, 901]), .call true [900, 0] (.o (.c (.v (.int .i64 v2.1)))) [(900, .box 66 [.rs 1 (v2.2.b.map encU8), .v (.int .i64 v2.2.i), .v (.int .i64 v2.2.h)]), (0, .row 3 1 (([0, (-1), 9999, 10000] : List Int).map encI))] []] [] [900, 901] [] (And.intro (lenm Thing.enc a1) (And.intro h1 (And.intro (And.intro (con_sw 901 0 (con_sw 900 900 (spec_l1Int_ok a0 ([0, (-1), 9999, 10000] : List Int) v2 h3))) (rfl : ([900, 0] : List Nat) = [900, 0])) True.intro))) (by kernel_rfl)
  · obtain ⟨v4, h5, hM⟩ := bind_some hM
    rcases cond_cases hM with ⟨h6, hM⟩ | ⟨h6, hM⟩
    · obtain ⟨v7, h8, hM⟩ := bind_some hM
      have hE : some v7 = some r := hM
      have hE := Option.some.inj hE
      subst hE
      exact pr R 9999 [.ln (a1.length), .as 8 false, .call true [900] (.o (.c (.v (.bool v4.1)))) [(900, .box 66 [.rs 1 (v4.2.b.map encU8), .v (.int .i64 v4.2.i), .v (.int .i64 v4.2.h)])] [], .as 11 true, .new 1, .ad (.keep [0, 1, 4, 5, 6, 7, 8, 9, 10, 11, 12, 13] [900, 1, 901]), .call true [900, 1] (.o (.c (.v (.int .i64 v7.1)))) [(900, .box 66 [.rs 1 (v7.2.b.map encU8), .v (.int .i64 v7.2.i), .v (.int .i64 v7.2.h)]), (1, .row 3 1 (([0, (-1), 9999, 10000] : List Int).map encI))] []] [] [900, 901] [] (And.intro (lenm Thing.enc a1) (And.intro h1 (And.intro (And.intro (con_sw 900 900 (spec_l1Once_ok a0 12 v4 h5)) (rfl : ([900] : List Nat) = [900])) (And.intro h6 (And.intro (And.intro (con_sw 901 1 (con_sw 900 900 (spec_l1Int_ok v4.2 ([0, (-1), 9999, 10000] : List Int) v7 h8))) (rfl : ([900, 1] : List Nat) = [900, 1])) True.intro))))) (by kernel_rfl)
    · obtain ⟨v9, h10, hM⟩ := bind_some hM
      obtain ⟨v11, h12, hM⟩ := bind_some hM
      have hE : some (v11.Id, v9.2) = some r := hM
      have hE := Option.some.inj hE
      subst hE
      exact pr R 9999 [.ln (a1.length), .as 8 false, .call true [900] (.o (.c (.v (.bool v4.1)))) [(900, .box 66 [.rs 1 (v4.2.b.map encU8), .v (.int .i64 v4.2.i), .v (.int .i64 v4.2.h)])] [], .as 11 false, .ln (a1.length), .call true [900] (.o (.c (.v (.int .i64 v9.1)))) [(900, .box 66 [.rs 1 (v9.2.b.map encU8), .v (.int .i64 v9.2.i), .v (.int .i64 v9.2.h)])] [], .ix (Thing.enc v11)] [] [900, 901] [] (And.intro (lenm Thing.enc a1) (And.intro h1 (And.intro (And.intro (con_sw 900 900 (spec_l1Once_ok a0 12 v4 h5)) (rfl : ([900] : List Nat) = [900])) (And.intro h6 (And.intro (lenm Thing.enc a1) (And.intro (And.intro (con_sw 900 900 (spec_l1Below_ok v4.2 (a1.length : Int) v9 h10)) (rfl : ([900] : List Nat) = [900])) (And.intro (gi_lt Thing.enc h12) (And.intro ((gi_map Thing.enc h12).2) True.intro)))))))) (by kernel_rfl)

-- loop.example/g03014/spec.l5Copy
def spec_l5Copy (a0 : (List Thing)) : Option (List Thing) :=
  (ap 40 ([] : List Thing) a0).bind fun v1 =>
  some v1
theorem spec_l5Copy_ok (a0 : (List Thing)) (r : (List Thing)) (hM : spec_l5Copy a0 = some r) :
    Con Tryd.prog 62 [.c (.rs 6 (a0.map Thing.enc))] [] (.o (.c (.sl 1000))) [] [(1000, .row 37 6 (r.map Thing.enc))] := by
  unfold spec_l5Copy at hM
  refine cn (N := 6) (pids := []) Tryd_mixed Tryd.func62 (by kernel_rfl) (by kernel_rfl) (by kernel_rfl) rfl fun ρ g w R => ?_
  obtain ⟨v1, h2, hM⟩ := bind_some hM
  have hE : some v1 = some r := hM
  have hE := Option.some.inj hE
  subst hE
  exact pr R 9999 [.new 0, .new 1, .nm (v1.map Thing.enc)] [.sw 1 1000] [] [1000] (And.intro (ap_ok Thing.enc h2) True.intro) (by kernel_rfl)

-- loop.example/g03014/spec.FindThing
def spec_FindThing_L1_b (a0 : (List Thing)) (a1 : Int) (s1 : Int) : Option (Ctl Int Unit Int) :=
  bif (decide (s1 < (a0.length : Int))) then
  (gi a0 s1).bind fun v3 =>
  bif (v3.Id == a1) then
  some (.ret s1)
  else
  some (.next (w64 (s1 + 1)))
  else
  some (.brk ())
def spec_FindThing_L1 (a0 : (List Thing)) (a1 : Int) (s : Int) : Option (Ctl Int Unit Int) := spec_FindThing_L1_b a0 a1 s
def spec_FindThing_L1_s (a0 : (List Thing)) (a1 : Int) (s1 : Int) : St := ⟨[(0, .o (.c (.rs 6 (a0.map Thing.enc)))), (1, .o (.c (.v (.int .i64 a1)))), (5, .o (.c (.v (.int .i64 s1))))], []⟩
def spec_FindThing_L1_S (a0 : (List Thing)) (a1 : Int) (s : Int) : St := spec_FindThing_L1_s a0 a1 s
def spec_FindThing_L1_a : Option Int :=
  some (-1)
def spec_FindThing_L1_k (x : (Unit) ⊕ (Int)) : Option Int := match x with
  | .inl t => spec_FindThing_L1_a
  | .inr y => some y
def spec_FindThing (a0 : (List Thing)) (a1 : Int) : Option Int :=
  (loopM (spec_FindThing_L1 a0 a1) big 0).bind (spec_FindThing_L1_k)
theorem spec_FindThing_ok (a0 : (List Thing)) (a1 : Int) (r : Int) (hM : spec_FindThing a0 a1 = some r) :
    Con Tryd.prog 26 [.c (.rs 6 (a0.map Thing.enc)), .c (.v (.int .i64 a1))] [] (.o (.c (.v (.int .i64 r)))) [] [] := by
  unfold spec_FindThing at hM
  refine cn (N := 20) (pids := []) Tryd_mixed Tryd.func26 (by kernel_rfl) (by kernel_rfl) (by kernel_rfl) rfl fun ρ g w R => ?_
  have K1 : ∀ (_ : Unit), spec_FindThing_L1_a = some r → Gr R [.code (cAt Tryd.f26 [1, 1])] (⟨[], []⟩) := by
    intro _ hM
    unfold spec_FindThing_L1_a at hM
    have hE : some (-1) = some r := hM
    have hE := Option.some.inj hE
    subst hE
    exact pr R 9999 [] [] [] [] True.intro (by kernel_rfl)
  refine pc R 9999 [] [.keep [0, 1, 5] []] (k' := [.code (.loop (cAt Tryd.f26 [1, 0, 1, 0, 0])), .blk 0, .code (cAt Tryd.f26 [1, 1])]) (S' := spec_FindThing_L1_S a0 a1 0) True.intro (by kernel_rfl) ?_
  refine lq (spec_FindThing_L1_S a0 a1) (body := spec_FindThing_L1 a0 a1) (k := spec_FindThing_L1_k) hM fun m1 s c1 hM hK1 => ?_
  obtain ⟨s1, hs⟩ : ∃ z, z = s := ⟨_, rfl⟩
  subst hs
  have hM : spec_FindThing_L1_b a0 a1 s1 = some c1 := hM
  unfold spec_FindThing_L1_b at hM
  rcases cond_cases hM with ⟨h2, hM⟩ | ⟨h2, hM⟩
  · obtain ⟨v3, h4, hM⟩ := bind_some hM
    rcases cond_cases hM with ⟨h5, hM⟩ | ⟨h5, hM⟩
    · have hE : some (Ctl.ret s1) = some c1 := hM
      have hE := Option.some.inj hE
      subst hE
      have hE : some s1 = some r := hK1
      have hE := Option.some.inj hE
      subst hE
      exact pr R 9999 [.ln (a0.length), .as 9 true, .ix (Thing.enc v3), .as 18 true] [] [] [] (And.intro (lenm Thing.enc a0) (And.intro h2 (And.intro (gi_map Thing.enc h4) (And.intro h5 True.intro)))) (by kernel_rfl)
    · have hE : some (Ctl.next (w64 (s1 + 1))) = some c1 := hM
      have hE := Option.some.inj hE
      subst hE
      exact pc R 9999 [.ln (a0.length), .as 9 true, .ix (Thing.enc v3), .as 18 false] [.keep [0, 1, 5] []] (And.intro (lenm Thing.enc a0) (And.intro h2 (And.intro (gi_map Thing.enc h4) (And.intro h5 True.intro)))) (by kernel_rfl) (li (Sf := spec_FindThing_L1_S a0 a1) (M := Mk (spec_FindThing_L1 a0 a1) (spec_FindThing_L1_k) r) (k := [.blk 0, .code (cAt Tryd.f26 [1, 1])]) (Nat.lt_succ_self m1) hK1)
  · have hE : some (Ctl.brk ()) = some c1 := hM
    have hE := Option.some.inj hE
    subst hE
    exact pc R 5 [.ln (a0.length), .as 9 false] [.keep [] []] (And.intro (lenm Thing.enc a0) (And.intro h2 True.intro)) (by kernel_rfl) (K1 () hK1)

-- loop.example/g03014/spec.l1In
def spec_l1In (a0 : Int) (a1 : Int) (a2 : Int) : Option Bool :=
  bif (decide (a0 ≥ a1)) then
  some (decide (a0 ≤ a2))
  else
  some false
theorem spec_l1In_ok (a0 : Int) (a1 : Int) (a2 : Int) (r : Bool) (hM : spec_l1In a0 a1 a2 = some r) :
    Con Tryd.prog 33 [.c (.v (.int .i64 a0)), .c (.v (.int .i64 a1)), .c (.v (.int .i64 a2))] [] (.o (.c (.v (.bool r)))) [] [] := by
  unfold spec_l1In at hM
  refine cn (N := 15) (pids := []) Tryd_mixed Tryd.func33 (by kernel_rfl) (by kernel_rfl) (by kernel_rfl) rfl fun ρ g w R => ?_
  rcases cond_cases hM with ⟨h1, hM⟩ | ⟨h1, hM⟩
  · have hE : some (decide (a0 ≤ a2)) = some r := hM
    have hE := Option.some.inj hE
    subst hE
    exact pr R 9999 [.as 10 true] [] [] [] (And.intro h1 True.intro) (by kernel_rfl)
  · have hE : some false = some r := hM
    have hE := Option.some.inj hE
    subst hE
    exact pr R 9999 [.as 10 false] [] [] [] (And.intro h1 True.intro) (by kernel_rfl)

-- loop.example/g03014/spec.l5One
def spec_l5One (a0 : (List Thing)) (a1 : Int) : Option Bool :=
  (gi a0 a1).bind fun v1 =>
  (spec_l1In v1.Id 1 9999).bind fun v3 =>
  bif (!v3) then
  some false
  else
  bif (decide (a1 > 0)) then
  (gi a0 (w64 (a1 - 1))).bind fun v7 =>
  bif (decide (v7.Id ≥ v1.Id)) then
  some false
  else
  (spec_l1In v1.Own 1 30000).bind fun v10 =>
  bif (!v10) then
  some false
  else
  bif v1.Box then
  (spec_l1In v1.Room 1 1000000).bind fun v14 =>
  bif (!v14) then
  some false
  else
  bif (!v1.Box) then
  bif (v1.Room != 0) then
  some false
  else
  bif v1.Sealed then
  some false
  else
  (spec_FindThing a0 v1.In).bind fun v20 =>
  bif (v1.In == 0) then
  some true
  else
  bif (decide (v20 ≥ 0)) then
  (gi a0 v20).bind fun v24 =>
  some v24.Box
  else
  some false
  else
  (spec_FindThing a0 v1.In).bind fun v26 =>
  bif (v1.In == 0) then
  some true
  else
  bif (decide (v26 ≥ 0)) then
  (gi a0 v26).bind fun v30 =>
  some v30.Box
  else
  some false
  else
  bif (!v1.Box) then
  bif (v1.Room != 0) then
  some false
  else
  bif v1.Sealed then
  some false
  else
  (spec_FindThing a0 v1.In).bind fun v35 =>
  bif (v1.In == 0) then
  some true
  else
  bif (decide (v35 ≥ 0)) then
  (gi a0 v35).bind fun v39 =>
  some v39.Box
  else
  some false
  else
  (spec_FindThing a0 v1.In).bind fun v41 =>
  bif (v1.In == 0) then
  some true
  else
  bif (decide (v41 ≥ 0)) then
  (gi a0 v41).bind fun v45 =>
  some v45.Box
  else
  some false
  else
  (spec_l1In v1.Own 1 30000).bind fun v47 =>
  bif (!v47) then
  some false
  else
  bif v1.Box then
  (spec_l1In v1.Room 1 1000000).bind fun v51 =>
  bif (!v51) then
  some false
  else
  bif (!v1.Box) then
  bif (v1.Room != 0) then
  some false
  else
  bif v1.Sealed then
  some false
  else
  (spec_FindThing a0 v1.In).bind fun v57 =>
  bif (v1.In == 0) then
  some true
  else
  bif (decide (v57 ≥ 0)) then
  (gi a0 v57).bind fun v61 =>
  some v61.Box
  else
  some false
  else
  (spec_FindThing a0 v1.In).bind fun v63 =>
  bif (v1.In == 0) then
  some true
  else
  bif (decide (v63 ≥ 0)) then
  (gi a0 v63).bind fun v67 =>
  some v67.Box
  else
  some false
  else
  bif (!v1.Box) then
  bif (v1.Room != 0) then
  some false
  else
  bif v1.Sealed then
  some false
  else
  (spec_FindThing a0 v1.In).bind fun v72 =>
  bif (v1.In == 0) then
  some true
  else
  bif (decide (v72 ≥ 0)) then
  (gi a0 v72).bind fun v76 =>
  some v76.Box
  else
  some false
  else
  (spec_FindThing a0 v1.In).bind fun v78 =>
  bif (v1.In == 0) then
  some true
  else
  bif (decide (v78 ≥ 0)) then
  (gi a0 v78).bind fun v82 =>
  some v82.Box
  else
  some false
theorem spec_l5One_ok (a0 : (List Thing)) (a1 : Int) (r : Bool) (hM : spec_l5One a0 a1 = some r) :
    Con Tryd.prog 41 [.c (.rs 6 (a0.map Thing.enc)), .c (.v (.int .i64 a1))] [] (.o (.c (.v (.bool r)))) [] [] := by
  unfold spec_l5One at hM
  refine cn (N := 76) (pids := []) Tryd_mixed Tryd.func41 (by kernel_rfl) (by kernel_rfl) (by kernel_rfl) rfl fun ρ g w R => ?_
  obtain ⟨v1, h2, hM⟩ := bind_some hM
  obtain ⟨v3, h4, hM⟩ := bind_some hM
  rcases cond_cases hM with ⟨h5, hM⟩ | ⟨h5, hM⟩
  · have hE : some false = some r := hM
    have hE := Option.some.inj hE
    subst hE
    exact pr R 9999 [.ix (Thing.enc v1), .new 0, .call false [] (.o (.c (.v (.bool v3)))) [] [], .as 15 true] [] [] [] (And.intro (gi_map Thing.enc h2) (And.intro (spec_l1In_ok v1.Id 1 9999 v3 h4) (And.intro h5 True.intro))) (by kernel_rfl)
  · rcases cond_cases hM with ⟨h6, hM⟩ | ⟨h6, hM⟩
    · obtain ⟨v7, h8, hM⟩ := bind_some hM
      rcases cond_cases hM with ⟨h9, hM⟩ | ⟨h9, hM⟩
      · have hE : some false = some r := hM
        have hE := Option.some.inj hE
        subst hE
        exact pr R 9999 [.ix (Thing.enc v1), .new 0, .call false [] (.o (.c (.v (.bool v3)))) [] [], .as 15 false, .as 18 true, .ix (Thing.enc v7), .as 30 true] [] [] [] (And.intro (gi_map Thing.enc h2) (And.intro (spec_l1In_ok v1.Id 1 9999 v3 h4) (And.intro h5 (And.intro h6 (And.intro (gi_map Thing.enc h8) (And.intro h9 True.intro)))))) (by kernel_rfl)
      · obtain ⟨v10, h11, hM⟩ := bind_some hM
        rcases cond_cases hM with ⟨h12, hM⟩ | ⟨h12, hM⟩
        · have hE : some false = some r := hM
          have hE := Option.some.inj hE
          subst hE
          exact pr R 9999 [.ix (Thing.enc v1), .new 0, .call false [] (.o (.c (.v (.bool v3)))) [] [], .as 15 false, .as 18 true, .ix (Thing.enc v7), .as 30 false, .call false [] (.o (.c (.v (.bool v10)))) [] [], .as 35 true] [] [] [] (And.intro (gi_map Thing.enc h2) (And.intro (spec_l1In_ok v1.Id 1 9999 v3 h4) (And.intro h5 (And.intro h6 (And.intro (gi_map Thing.enc h8) (And.intro h9 (And.intro (spec_l1In_ok v1.Own 1 30000 v10 h11) (And.intro h12 True.intro)))))))) (by kernel_rfl)
        · rcases cond_cases hM with ⟨h13, hM⟩ | ⟨h13, hM⟩
          · obtain ⟨v14, h15, hM⟩ := bind_some hM
            rcases cond_cases hM with ⟨h16, hM⟩ | ⟨h16, hM⟩
            · have hE : some false = some r := hM
              have hE := Option.some.inj hE
              subst hE
              exact pr R 9999 [.ix (Thing.enc v1), .new 0, .call false [] (.o (.c (.v (.bool v3)))) [] [], .as 15 false, .as 18 true, .ix (Thing.enc v7), .as 30 false, .call false [] (.o (.c (.v (.bool v10)))) [] [], .as 35 false, .as 38 true, .call false [] (.o (.c (.v (.bool v14)))) [] [], .as 44 true] [] [] [] (And.intro (gi_map Thing.enc h2) (And.intro (spec_l1In_ok v1.Id 1 9999 v3 h4) (And.intro h5 (And.intro h6 (And.intro (gi_map Thing.enc h8) (And.intro h9 (And.intro (spec_l1In_ok v1.Own 1 30000 v10 h11) (And.intro h12 (And.intro h13 (And.intro (spec_l1In_ok v1.Room 1 1000000 v14 h15) (And.intro h16 True.intro))))))))))) (by kernel_rfl)
            · rcases cond_cases hM with ⟨h17, hM⟩ | ⟨h17, hM⟩
              · rcases cond_cases hM with ⟨h18, hM⟩ | ⟨h18, hM⟩
                · have hE : some false = some r := hM
                  have hE := Option.some.inj hE
                  subst hE
                  exact pr R 9999 [.ix (Thing.enc v1), .new 0, .call false [] (.o (.c (.v (.bool v3)))) [] [], .as 15 false, .as 18 true, .ix (Thing.enc v7), .as 30 false, .call false [] (.o (.c (.v (.bool v10)))) [] [], .as 35 false, .as 38 true, .call false [] (.o (.c (.v (.bool v14)))) [] [], .as 44 false, .as 48 true, .as 52 true] [] [] [] (And.intro (gi_map Thing.enc h2) (And.intro (spec_l1In_ok v1.Id 1 9999 v3 h4) (And.intro h5 (And.intro h6 (And.intro (gi_map Thing.enc h8) (And.intro h9 (And.intro (spec_l1In_ok v1.Own 1 30000 v10 h11) (And.intro h12 (And.intro h13 (And.intro (spec_l1In_ok v1.Room 1 1000000 v14 h15) (And.intro h16 (And.intro h17 (And.intro h18 True.intro))))))))))))) (by kernel_rfl)
                · rcases cond_cases hM with ⟨h19, hM⟩ | ⟨h19, hM⟩
                  · have hE : some false = some r := hM
                    have hE := Option.some.inj hE
                    subst hE
                    exact pr R 9999 [.ix (Thing.enc v1), .new 0, .call false [] (.o (.c (.v (.bool v3)))) [] [], .as 15 false, .as 18 true, .ix (Thing.enc v7), .as 30 false, .call false [] (.o (.c (.v (.bool v10)))) [] [], .as 35 false, .as 38 true, .call false [] (.o (.c (.v (.bool v14)))) [] [], .as 44 false, .as 48 true, .as 52 false, .as 57 true] [] [] [] (And.intro (gi_map Thing.enc h2) (And.intro (spec_l1In_ok v1.Id 1 9999 v3 h4) (And.intro h5 (And.intro h6 (And.intro (gi_map Thing.enc h8) (And.intro h9 (And.intro (spec_l1In_ok v1.Own 1 30000 v10 h11) (And.intro h12 (And.intro h13 (And.intro (spec_l1In_ok v1.Room 1 1000000 v14 h15) (And.intro h16 (And.intro h17 (And.intro h18 (And.intro h19 True.intro)))))))))))))) (by kernel_rfl)
                  · obtain ⟨v20, h21, hM⟩ := bind_some hM
                    rcases cond_cases hM with ⟨h22, hM⟩ | ⟨h22, hM⟩
                    · have hE : some true = some r := hM
                      have hE := Option.some.inj hE
                      subst hE
                      exact pr R 9999 [.ix (Thing.enc v1), .new 0, .call false [] (.o (.c (.v (.bool v3)))) [] [], .as 15 false, .as 18 true, .ix (Thing.enc v7), .as 30 false, .call false [] (.o (.c (.v (.bool v10)))) [] [], .as 35 false, .as 38 true, .call false [] (.o (.c (.v (.bool v14)))) [] [], .as 44 false, .as 48 true, .as 52 false, .as 57 false, .call false [] (.o (.c (.v (.int .i64 v20)))) [] [], .as 65 true] [] [] [] (And.intro (gi_map Thing.enc h2) (And.intro (spec_l1In_ok v1.Id 1 9999 v3 h4) (And.intro h5 (And.intro h6 (And.intro (gi_map Thing.enc h8) (And.intro h9 (And.intro (spec_l1In_ok v1.Own 1 30000 v10 h11) (And.intro h12 (And.intro h13 (And.intro (spec_l1In_ok v1.Room 1 1000000 v14 h15) (And.intro h16 (And.intro h17 (And.intro h18 (And.intro h19 (And.intro (spec_FindThing_ok a0 v1.In v20 h21) (And.intro h22 True.intro)))))))))))))))) (by kernel_rfl)
                    · rcases cond_cases hM with ⟨h23, hM⟩ | ⟨h23, hM⟩
                      · obtain ⟨v24, h25, hM⟩ := bind_some hM
                        have hE : some v24.Box = some r := hM
                        have hE := Option.some.inj hE
                        subst hE
                        exact pr R 9999 [.ix (Thing.enc v1), .new 0, .call false [] (.o (.c (.v (.bool v3)))) [] [], .as 15 false, .as 18 true, .ix (Thing.enc v7), .as 30 false, .call false [] (.o (.c (.v (.bool v10)))) [] [], .as 35 false, .as 38 true, .call false [] (.o (.c (.v (.bool v14)))) [] [], .as 44 false, .as 48 true, .as 52 false, .as 57 false, .call false [] (.o (.c (.v (.int .i64 v20)))) [] [], .as 65 false, .as 68 true, .ix (Thing.enc v24)] [] [] [] (And.intro (gi_map Thing.enc h2) (And.intro (spec_l1In_ok v1.Id 1 9999 v3 h4) (And.intro h5 (And.intro h6 (And.intro (gi_map Thing.enc h8) (And.intro h9 (And.intro (spec_l1In_ok v1.Own 1 30000 v10 h11) (And.intro h12 (And.intro h13 (And.intro (spec_l1In_ok v1.Room 1 1000000 v14 h15) (And.intro h16 (And.intro h17 (And.intro h18 (And.intro h19 (And.intro (spec_FindThing_ok a0 v1.In v20 h21) (And.intro h22 (And.intro h23 (And.intro (gi_map Thing.enc h25) True.intro)))))))))))))))))) (by kernel_rfl)
                      · have hE : some false = some r := hM
                        have hE := Option.some.inj hE
                        subst hE
                        exact pr R 9999 [.ix (Thing.enc v1), .new 0, .call false [] (.o (.c (.v (.bool v3)))) [] [], .as 15 false, .as 18 true, .ix (Thing.enc v7), .as 30 false, .call false [] (.o (.c (.v (.bool v10)))) [] [], .as 35 false, .as 38 true, .call false [] (.o (.c (.v (.bool v14)))) [] [], .as 44 false, .as 48 true, .as 52 false, .as 57 false, .call false [] (.o (.c (.v (.int .i64 v20)))) [] [], .as 65 false, .as 68 false] [] [] [] (And.intro (gi_map Thing.enc h2) (And.intro (spec_l1In_ok v1.Id 1 9999 v3 h4) (And.intro h5 (And.intro h6 (And.intro (gi_map Thing.enc h8) (And.intro h9 (And.intro (spec_l1In_ok v1.Own 1 30000 v10 h11) (And.intro h12 (And.intro h13 (And.intro (spec_l1In_ok v1.Room 1 1000000 v14 h15) (And.intro h16 (And.intro h17 (And.intro h18 (And.intro h19 (And.intro (spec_FindThing_ok a0 v1.In v20 h21) (And.intro h22 (And.intro h23 True.intro))))))))))))))))) (by kernel_rfl)
              · obtain ⟨v26, h27, hM⟩ := bind_some hM
                rcases cond_cases hM with ⟨h28, hM⟩ | ⟨h28, hM⟩
                · have hE : some true = some r := hM
                  have hE := Option.some.inj hE
                  subst hE
                  exact pr R 9999 [.ix (Thing.enc v1), .new 0, .call false [] (.o (.c (.v (.bool v3)))) [] [], .as 15 false, .as 18 true, .ix (Thing.enc v7), .as 30 false, .call false [] (.o (.c (.v (.bool v10)))) [] [], .as 35 false, .as 38 true, .call false [] (.o (.c (.v (.bool v14)))) [] [], .as 44 false, .as 48 false, .call false [] (.o (.c (.v (.int .i64 v26)))) [] [], .as 65 true] [] [] [] (And.intro (gi_map Thing.enc h2) (And.intro (spec_l1In_ok v1.Id 1 9999 v3 h4) (And.intro h5 (And.intro h6 (And.intro (gi_map Thing.enc h8) (And.intro h9 (And.intro (spec_l1In_ok v1.Own 1 30000 v10 h11) (And.intro h12 (And.intro h13 (And.intro (spec_l1In_ok v1.Room 1 1000000 v14 h15) (And.intro h16 (And.intro h17 (And.intro (spec_FindThing_ok a0 v1.In v26 h27) (And.intro h28 True.intro)))))))))))))) (by kernel_rfl)
                · rcases cond_cases hM with ⟨h29, hM⟩ | ⟨h29, hM⟩
                  · obtain ⟨v30, h31, hM⟩ := bind_some hM
                    have hE : some v30.Box = some r := hM
                    have hE := Option.some.inj hE
                    subst hE
                    exact pr R 9999 [.ix (Thing.enc v1), .new 0, .call false [] (.o (.c (.v (.bool v3)))) [] [], .as 15 false, .as 18 true, .ix (Thing.enc v7), .as 30 false, .call false [] (.o (.c (.v (.bool v10)))) [] [], .as 35 false, .as 38 true, .call false [] (.o (.c (.v (.bool v14)))) [] [], .as 44 false, .as 48 false, .call false [] (.o (.c (.v (.int .i64 v26)))) [] [], .as 65 false, .as 68 true, .ix (Thing.enc v30)] [] [] [] (And.intro (gi_map Thing.enc h2) (And.intro (spec_l1In_ok v1.Id 1 9999 v3 h4) (And.intro h5 (And.intro h6 (And.intro (gi_map Thing.enc h8) (And.intro h9 (And.intro (spec_l1In_ok v1.Own 1 30000 v10 h11) (And.intro h12 (And.intro h13 (And.intro (spec_l1In_ok v1.Room 1 1000000 v14 h15) (And.intro h16 (And.intro h17 (And.intro (spec_FindThing_ok a0 v1.In v26 h27) (And.intro h28 (And.intro h29 (And.intro (gi_map Thing.enc h31) True.intro)))))))))))))))) (by kernel_rfl)
                  · have hE : some false = some r := hM
                    have hE := Option.some.inj hE
                    subst hE
                    exact pr R 9999 [.ix (Thing.enc v1), .new 0, .call false [] (.o (.c (.v (.bool v3)))) [] [], .as 15 false, .as 18 true, .ix (Thing.enc v7), .as 30 false, .call false [] (.o (.c (.v (.bool v10)))) [] [], .as 35 false, .as 38 true, .call false [] (.o (.c (.v (.bool v14)))) [] [], .as 44 false, .as 48 false, .call false [] (.o (.c (.v (.int .i64 v26)))) [] [], .as 65 false, .as 68 false] [] [] [] (And.intro (gi_map Thing.enc h2) (And.intro (spec_l1In_ok v1.Id 1 9999 v3 h4) (And.intro h5 (And.intro h6 (And.intro (gi_map Thing.enc h8) (And.intro h9 (And.intro (spec_l1In_ok v1.Own 1 30000 v10 h11) (And.intro h12 (And.intro h13 (And.intro (spec_l1In_ok v1.Room 1 1000000 v14 h15) (And.intro h16 (And.intro h17 (And.intro (spec_FindThing_ok a0 v1.In v26 h27) (And.intro h28 (And.intro h29 True.intro))))))))))))))) (by kernel_rfl)
          · rcases cond_cases hM with ⟨h32, hM⟩ | ⟨h32, hM⟩
            · rcases cond_cases hM with ⟨h33, hM⟩ | ⟨h33, hM⟩
              · have hE : some false = some r := hM
                have hE := Option.some.inj hE
                subst hE
                exact pr R 9999 [.ix (Thing.enc v1), .new 0, .call false [] (.o (.c (.v (.bool v3)))) [] [], .as 15 false, .as 18 true, .ix (Thing.enc v7), .as 30 false, .call false [] (.o (.c (.v (.bool v10)))) [] [], .as 35 false, .as 38 false, .as 48 true, .as 52 true] [] [] [] (And.intro (gi_map Thing.enc h2) (And.intro (spec_l1In_ok v1.Id 1 9999 v3 h4) (And.intro h5 (And.intro h6 (And.intro (gi_map Thing.enc h8) (And.intro h9 (And.intro (spec_l1In_ok v1.Own 1 30000 v10 h11) (And.intro h12 (And.intro h13 (And.intro h32 (And.intro h33 True.intro))))))))))) (by kernel_rfl)
              · rcases cond_cases hM with ⟨h34, hM⟩ | ⟨h34, hM⟩
                · have hE : some false = some r := hM
                  have hE := Option.some.inj hE
                  subst hE
                  exact pr R 9999 [.ix (Thing.enc v1), .new 0, .call false [] (.o (.c (.v (.bool v3)))) [] [], .as 15 false, .as 18 true, .ix (Thing.enc v7), .as 30 false, .call false [] (.o (.c (.v (.bool v10)))) [] [], .as 35 false, .as 38 false, .as 48 true, .as 52 false, .as 57 true] [] [] [] (And.intro (gi_map Thing.enc h2) (And.intro (spec_l1In_ok v1.Id 1 9999 v3 h4) (And.intro h5 (And.intro h6 (And.intro (gi_map Thing.enc h8) (And.intro h9 (And.intro (spec_l1In_ok v1.Own 1 30000 v10 h11) (And.intro h12 (And.intro h13 (And.intro h32 (And.intro h33 (And.intro h34 True.intro)))))))))))) (by kernel_rfl)
                · obtain ⟨v35, h36, hM⟩ := bind_some hM
                  rcases cond_cases hM with ⟨h37, hM⟩ | ⟨h37, hM⟩
                  · have hE : some true = some r := hM
                    have hE := Option.some.inj hE
                    subst hE
                    exact pr R 9999 [.ix (Thing.enc v1), .new 0, .call false [] (.o (.c (.v (.bool v3)))) [] [], .as 15 false, .as 18 true, .ix (Thing.enc v7), .as 30 false, .call false [] (.o (.c (.v (.bool v10)))) [] [], .as 35 false, .as 38 false, .as 48 true, .as 52 false, .as 57 false, .call false [] (.o (.c (.v (.int .i64 v35)))) [] [], .as 65 true] [] [] [] (And.intro (gi_map Thing.enc h2) (And.intro (spec_l1In_ok v1.Id 1 9999 v3 h4) (And.intro h5 (And.intro h6 (And.intro (gi_map Thing.enc h8) (And.intro h9 (And.intro (spec_l1In_ok v1.Own 1 30000 v10 h11) (And.intro h12 (And.intro h13 (And.intro h32 (And.intro h33 (And.intro h34 (And.intro (spec_FindThing_ok a0 v1.In v35 h36) (And.intro h37 True.intro)))))))))))))) (by kernel_rfl)
                  · rcases cond_cases hM with ⟨h38, hM⟩ | ⟨h38, hM⟩
                    · obtain ⟨v39, h40, hM⟩ := bind_some hM
                      have hE : some v39.Box = some r := hM
                      have hE := Option.some.inj hE
                      subst hE
                      exact pr R 9999 [.ix (Thing.enc v1), .new 0, .call false [] (.o (.c (.v (.bool v3)))) [] [], .as 15 false, .as 18 true, .ix (Thing.enc v7), .as 30 false, .call false [] (.o (.c (.v (.bool v10)))) [] [], .as 35 false, .as 38 false, .as 48 true, .as 52 false, .as 57 false, .call false [] (.o (.c (.v (.int .i64 v35)))) [] [], .as 65 false, .as 68 true, .ix (Thing.enc v39)] [] [] [] (And.intro (gi_map Thing.enc h2) (And.intro (spec_l1In_ok v1.Id 1 9999 v3 h4) (And.intro h5 (And.intro h6 (And.intro (gi_map Thing.enc h8) (And.intro h9 (And.intro (spec_l1In_ok v1.Own 1 30000 v10 h11) (And.intro h12 (And.intro h13 (And.intro h32 (And.intro h33 (And.intro h34 (And.intro (spec_FindThing_ok a0 v1.In v35 h36) (And.intro h37 (And.intro h38 (And.intro (gi_map Thing.enc h40) True.intro)))))))))))))))) (by kernel_rfl)
                    · have hE : some false = some r := hM
                      have hE := Option.some.inj hE
                      subst hE
                      exact pr R 9999 [.ix (Thing.enc v1), .new 0, .call false [] (.o (.c (.v (.bool v3)))) [] [], .as 15 false, .as 18 true, .ix (Thing.enc v7), .as 30 false, .call false [] (.o (.c (.v (.bool v10)))) [] [], .as 35 false, .as 38 false, .as 48 true, .as 52 false, .as 57 false, .call false [] (.o (.c (.v (.int .i64 v35)))) [] [], .as 65 false, .as 68 false] [] [] [] (And.intro (gi_map Thing.enc h2) (And.intro (spec_l1In_ok v1.Id 1 9999 v3 h4) (And.intro h5 (And.intro h6 (And.intro (gi_map Thing.enc h8) (And.intro h9 (And.intro (spec_l1In_ok v1.Own 1 30000 v10 h11) (And.intro h12 (And.intro h13 (And.intro h32 (And.intro h33 (And.intro h34 (And.intro (spec_FindThing_ok a0 v1.In v35 h36) (And.intro h37 (And.intro h38 True.intro))))))))))))))) (by kernel_rfl)
            · obtain ⟨v41, h42, hM⟩ := bind_some hM
              rcases cond_cases hM with ⟨h43, hM⟩ | ⟨h43, hM⟩
              · have hE : some true = some r := hM
                have hE := Option.some.inj hE
                subst hE
                exact pr R 9999 [.ix (Thing.enc v1), .new 0, .call false [] (.o (.c (.v (.bool v3)))) [] [], .as 15 false, .as 18 true, .ix (Thing.enc v7), .as 30 false, .call false [] (.o (.c (.v (.bool v10)))) [] [], .as 35 false, .as 38 false, .as 48 false, .call false [] (.o (.c (.v (.int .i64 v41)))) [] [], .as 65 true] [] [] [] (And.intro (gi_map Thing.enc h2) (And.intro (spec_l1In_ok v1.Id 1 9999 v3 h4) (And.intro h5 (And.intro h6 (And.intro (gi_map Thing.enc h8) (And.intro h9 (And.intro (spec_l1In_ok v1.Own 1 30000 v10 h11) (And.intro h12 (And.intro h13 (And.intro h32 (And.intro (spec_FindThing_ok a0 v1.In v41 h42) (And.intro h43 True.intro)))))))))))) (by kernel_rfl)
              · rcases cond_cases hM with ⟨h44, hM⟩ | ⟨h44, hM⟩
                · obtain ⟨v45, h46, hM⟩ := bind_some hM
                  have hE : some v45.Box = some r := hM
                  have hE := Option.some.inj hE
                  subst hE
                  exact pr R 9999 [.ix (Thing.enc v1), .new 0, .call false [] (.o (.c (.v (.bool v3)))) [] [], .as 15 false, .as 18 true, .ix (Thing.enc v7), .as 30 false, .call false [] (.o (.c (.v (.bool v10)))) [] [], .as 35 false, .as 38 false, .as 48 false, .call false [] (.o (.c (.v (.int .i64 v41)))) [] [], .as 65 false, .as 68 true, .ix (Thing.enc v45)] [] [] [] (And.intro (gi_map Thing.enc h2) (And.intro (spec_l1In_ok v1.Id 1 9999 v3 h4) (And.intro h5 (And.intro h6 (And.intro (gi_map Thing.enc h8) (And.intro h9 (And.intro (spec_l1In_ok v1.Own 1 30000 v10 h11) (And.intro h12 (And.intro h13 (And.intro h32 (And.intro (spec_FindThing_ok a0 v1.In v41 h42) (And.intro h43 (And.intro h44 (And.intro (gi_map Thing.enc h46) True.intro)))))))))))))) (by kernel_rfl)
                · have hE : some false = some r := hM
                  have hE := Option.some.inj hE
                  subst hE
                  exact pr R 9999 [.ix (Thing.enc v1), .new 0, .call false [] (.o (.c (.v (.bool v3)))) [] [], .as 15 false, .as 18 true, .ix (Thing.enc v7), .as 30 false, .call false [] (.o (.c (.v (.bool v10)))) [] [], .as 35 false, .as 38 false, .as 48 false, .call false [] (.o (.c (.v (.int .i64 v41)))) [] [], .as 65 false, .as 68 false] [] [] [] (And.intro (gi_map Thing.enc h2) (And.intro (spec_l1In_ok v1.Id 1 9999 v3 h4) (And.intro h5 (And.intro h6 (And.intro (gi_map Thing.enc h8) (And.intro h9 (And.intro (spec_l1In_ok v1.Own 1 30000 v10 h11) (And.intro h12 (And.intro h13 (And.intro h32 (And.intro (spec_FindThing_ok a0 v1.In v41 h42) (And.intro h43 (And.intro h44 True.intro))))))))))))) (by kernel_rfl)
    · obtain ⟨v47, h48, hM⟩ := bind_some hM
      rcases cond_cases hM with ⟨h49, hM⟩ | ⟨h49, hM⟩
      · have hE : some false = some r := hM
        have hE := Option.some.inj hE
        subst hE
        exact pr R 9999 [.ix (Thing.enc v1), .new 0, .call false [] (.o (.c (.v (.bool v3)))) [] [], .as 15 false, .as 18 false, .call false [] (.o (.c (.v (.bool v47)))) [] [], .as 35 true] [] [] [] (And.intro (gi_map Thing.enc h2) (And.intro (spec_l1In_ok v1.Id 1 9999 v3 h4) (And.intro h5 (And.intro h6 (And.intro (spec_l1In_ok v1.Own 1 30000 v47 h48) (And.intro h49 True.intro)))))) (by kernel_rfl)
      · rcases cond_cases hM with ⟨h50, hM⟩ | ⟨h50, hM⟩
        · obtain ⟨v51, h52, hM⟩ := bind_some hM
          rcases cond_cases hM with ⟨h53, hM⟩ | ⟨h53, hM⟩
          · have hE : some false = some r := hM
            have hE := Option.some.inj hE
            subst hE
            exact pr R 9999 [.ix (Thing.enc v1), .new 0, .call false [] (.o (.c (.v (.bool v3)))) [] [], .as 15 false, .as 18 false, .call false [] (.o (.c (.v (.bool v47)))) [] [], .as 35 false, .as 38 true, .call false [] (.o (.c (.v (.bool v51)))) [] [], .as 44 true] [] [] [] (And.intro (gi_map Thing.enc h2) (And.intro (spec_l1In_ok v1.Id 1 9999 v3 h4) (And.intro h5 (And.intro h6 (And.intro (spec_l1In_ok v1.Own 1 30000 v47 h48) (And.intro h49 (And.intro h50 (And.intro (spec_l1In_ok v1.Room 1 1000000 v51 h52) (And.intro h53 True.intro))))))))) (by kernel_rfl)
          · rcases cond_cases hM with ⟨h54, hM⟩ | ⟨h54, hM⟩
            · rcases cond_cases hM with ⟨h55, hM⟩ | ⟨h55, hM⟩
              · have hE : some false = some r := hM
                have hE := Option.some.inj hE
                subst hE
                exact pr R 9999 [.ix (Thing.enc v1), .new 0, .call false [] (.o (.c (.v (.bool v3)))) [] [], .as 15 false, .as 18 false, .call false [] (.o (.c (.v (.bool v47)))) [] [], .as 35 false, .as 38 true, .call false [] (.o (.c (.v (.bool v51)))) [] [], .as 44 false, .as 48 true, .as 52 true] [] [] [] (And.intro (gi_map Thing.enc h2) (And.intro (spec_l1In_ok v1.Id 1 9999 v3 h4) (And.intro h5 (And.intro h6 (And.intro (spec_l1In_ok v1.Own 1 30000 v47 h48) (And.intro h49 (And.intro h50 (And.intro (spec_l1In_ok v1.Room 1 1000000 v51 h52) (And.intro h53 (And.intro h54 (And.intro h55 True.intro))))))))))) (by kernel_rfl)
              · rcases cond_cases hM with ⟨h56, hM⟩ | ⟨h56, hM⟩
                · have hE : some false = some r := hM
                  have hE := Option.some.inj hE
                  subst hE
                  exact pr R 9999 [.ix (Thing.enc v1), .new 0, .call false [] (.o (.c (.v (.bool v3)))) [] [], .as 15 false, .as 18 false, .call false [] (.o (.c (.v (.bool v47)))) [] [], .as 35 false, .as 38 true, .call false [] (.o (.c (.v (.bool v51)))) [] [], .as 44 false, .as 48 true, .as 52 false, .as 57 true] [] [] [] (And.intro (gi_map Thing.enc h2) (And.intro (spec_l1In_ok v1.Id 1 9999 v3 h4) (And.intro h5 (And.intro h6 (And.intro (spec_l1In_ok v1.Own 1 30000 v47 h48) (And.intro h49 (And.intro h50 (And.intro (spec_l1In_ok v1.Room 1 1000000 v51 h52) (And.intro h53 (And.intro h54 (And.intro h55 (And.intro h56 True.intro)))))))))))) (by kernel_rfl)
                · obtain ⟨v57, h58, hM⟩ := bind_some hM
                  rcases cond_cases hM with ⟨h59, hM⟩ | ⟨h59, hM⟩
                  · have hE : some true = some r := hM
                    have hE := Option.some.inj hE
                    subst hE
                    exact pr R 9999 [.ix (Thing.enc v1), .new 0, .call false [] (.o (.c (.v (.bool v3)))) [] [], .as 15 false, .as 18 false, .call false [] (.o (.c (.v (.bool v47)))) [] [], .as 35 false, .as 38 true, .call false [] (.o (.c (.v (.bool v51)))) [] [], .as 44 false, .as 48 true, .as 52 false, .as 57 false, .call false [] (.o (.c (.v (.int .i64 v57)))) [] [], .as 65 true] [] [] [] (And.intro (gi_map Thing.enc h2) (And.intro (spec_l1In_ok v1.Id 1 9999 v3 h4) (And.intro h5 (And.intro h6 (And.intro (spec_l1In_ok v1.Own 1 30000 v47 h48) (And.intro h49 (And.intro h50 (And.intro (spec_l1In_ok v1.Room 1 1000000 v51 h52) (And.intro h53 (And.intro h54 (And.intro h55 (And.intro h56 (And.intro (spec_FindThing_ok a0 v1.In v57 h58) (And.intro h59 True.intro)))))))))))))) (by kernel_rfl)
                  · rcases cond_cases hM with ⟨h60, hM⟩ | ⟨h60, hM⟩
                    · obtain ⟨v61, h62, hM⟩ := bind_some hM
                      have hE : some v61.Box = some r := hM
                      have hE := Option.some.inj hE
                      subst hE
                      exact pr R 9999 [.ix (Thing.enc v1), .new 0, .call false [] (.o (.c (.v (.bool v3)))) [] [], .as 15 false, .as 18 false, .call false [] (.o (.c (.v (.bool v47)))) [] [], .as 35 false, .as 38 true, .call false [] (.o (.c (.v (.bool v51)))) [] [], .as 44 false, .as 48 true, .as 52 false, .as 57 false, .call false [] (.o (.c (.v (.int .i64 v57)))) [] [], .as 65 false, .as 68 true, .ix (Thing.enc v61)] [] [] [] (And.intro (gi_map Thing.enc h2) (And.intro (spec_l1In_ok v1.Id 1 9999 v3 h4) (And.intro h5 (And.intro h6 (And.intro (spec_l1In_ok v1.Own 1 30000 v47 h48) (And.intro h49 (And.intro h50 (And.intro (spec_l1In_ok v1.Room 1 1000000 v51 h52) (And.intro h53 (And.intro h54 (And.intro h55 (And.intro h56 (And.intro (spec_FindThing_ok a0 v1.In v57 h58) (And.intro h59 (And.intro h60 (And.intro (gi_map Thing.enc h62) True.intro)))))))))))))))) (by kernel_rfl)
                    · have hE : some false = some r := hM
                      have hE := Option.some.inj hE
                      subst hE
                      exact pr R 9999 [.ix (Thing.enc v1), .new 0, .call false [] (.o (.c (.v (.bool v3)))) [] [], .as 15 false, .as 18 false, .call false [] (.o (.c (.v (.bool v47)))) [] [], .as 35 false, .as 38 true, .call false [] (.o (.c (.v (.bool v51)))) [] [], .as 44 false, .as 48 true, .as 52 false, .as 57 false, .call false [] (.o (.c (.v (.int .i64 v57)))) [] [], .as 65 false, .as 68 false] [] [] [] (And.intro (gi_map Thing.enc h2) (And.intro (spec_l1In_ok v1.Id 1 9999 v3 h4) (And.intro h5 (And.intro h6 (And.intro (spec_l1In_ok v1.Own 1 30000 v47 h48) (And.intro h49 (And.intro h50 (And.intro (spec_l1In_ok v1.Room 1 1000000 v51 h52) (And.intro h53 (And.intro h54 (And.intro h55 (And.intro h56 (And.intro (spec_FindThing_ok a0 v1.In v57 h58) (And.intro h59 (And.intro h60 True.intro))))))))))))))) (by kernel_rfl)
            · obtain ⟨v63, h64, hM⟩ := bind_some hM
              rcases cond_cases hM with ⟨h65, hM⟩ | ⟨h65, hM⟩
              · have hE : some true = some r := hM
                have hE := Option.some.inj hE
                subst hE
                exact pr R 9999 [.ix (Thing.enc v1), .new 0, .call false [] (.o (.c (.v (.bool v3)))) [] [], .as 15 false, .as 18 false, .call false [] (.o (.c (.v (.bool v47)))) [] [], .as 35 false, .as 38 true, .call false [] (.o (.c (.v (.bool v51)))) [] [], .as 44 false, .as 48 false, .call false [] (.o (.c (.v (.int .i64 v63)))) [] [], .as 65 true] [] [] [] (And.intro (gi_map Thing.enc h2) (And.intro (spec_l1In_ok v1.Id 1 9999 v3 h4) (And.intro h5 (And.intro h6 (And.intro (spec_l1In_ok v1.Own 1 30000 v47 h48) (And.intro h49 (And.intro h50 (And.intro (spec_l1In_ok v1.Room 1 1000000 v51 h52) (And.intro h53 (And.intro h54 (And.intro (spec_FindThing_ok a0 v1.In v63 h64) (And.intro h65 True.intro)))))))))))) (by kernel_rfl)
              · rcases cond_cases hM with ⟨h66, hM⟩ | ⟨h66, hM⟩
                · obtain ⟨v67, h68, hM⟩ := bind_some hM
                  have hE : some v67.Box = some r := hM
                  have hE := Option.some.inj hE
                  subst hE
                  exact pr R 9999 [.ix (Thing.enc v1), .new 0, .call false [] (.o (.c (.v (.bool v3)))) [] [], .as 15 false, .as 18 false, .call false [] (.o (.c (.v (.bool v47)))) [] [], .as 35 false, .as 38 true, .call false [] (.o (.c (.v (.bool v51)))) [] [], .as 44 false, .as 48 false, .call false [] (.o (.c (.v (.int .i64 v63)))) [] [], .as 65 false, .as 68 true, .ix (Thing.enc v67)] [] [] [] (And.intro (gi_map Thing.enc h2) (And.intro (spec_l1In_ok v1.Id 1 9999 v3 h4) (And.intro h5 (And.intro h6 (And.intro (spec_l1In_ok v1.Own 1 30000 v47 h48) (And.intro h49 (And.intro h50 (And.intro (spec_l1In_ok v1.Room 1 1000000 v51 h52) (And.intro h53 (And.intro h54 (And.intro (spec_FindThing_ok a0 v1.In v63 h64) (And.intro h65 (And.intro h66 (And.intro (gi_map Thing.enc h68) True.intro)))))))))))))) (by kernel_rfl)
                · have hE : some false = some r := hM
                  have hE := Option.some.inj hE
                  subst hE
                  exact pr R 9999 [.ix (Thing.enc v1), .new 0, .call false [] (.o (.c (.v (.bool v3)))) [] [], .as 15 false, .as 18 false, .call false [] (.o (.c (.v (.bool v47)))) [] [], .as 35 false, .as 38 true, .call false [] (.o (.c (.v (.bool v51)))) [] [], .as 44 false, .as 48 false, .call false [] (.o (.c (.v (.int .i64 v63)))) [] [], .as 65 false, .as 68 false] [] [] [] (And.intro (gi_map Thing.enc h2) (And.intro (spec_l1In_ok v1.Id 1 9999 v3 h4) (And.intro h5 (And.intro h6 (And.intro (spec_l1In_ok v1.Own 1 30000 v47 h48) (And.intro h49 (And.intro h50 (And.intro (spec_l1In_ok v1.Room 1 1000000 v51 h52) (And.intro h53 (And.intro h54 (And.intro (spec_FindThing_ok a0 v1.In v63 h64) (And.intro h65 (And.intro h66 True.intro))))))))))))) (by kernel_rfl)
        · rcases cond_cases hM with ⟨h69, hM⟩ | ⟨h69, hM⟩
          · rcases cond_cases hM with ⟨h70, hM⟩ | ⟨h70, hM⟩
            · have hE : some false = some r := hM
              have hE := Option.some.inj hE
              subst hE
              exact pr R 9999 [.ix (Thing.enc v1), .new 0, .call false [] (.o (.c (.v (.bool v3)))) [] [], .as 15 false, .as 18 false, .call false [] (.o (.c (.v (.bool v47)))) [] [], .as 35 false, .as 38 false, .as 48 true, .as 52 true] [] [] [] (And.intro (gi_map Thing.enc h2) (And.intro (spec_l1In_ok v1.Id 1 9999 v3 h4) (And.intro h5 (And.intro h6 (And.intro (spec_l1In_ok v1.Own 1 30000 v47 h48) (And.intro h49 (And.intro h50 (And.intro h69 (And.intro h70 True.intro))))))))) (by kernel_rfl)
            · rcases cond_cases hM with ⟨h71, hM⟩ | ⟨h71, hM⟩
              · have hE : some false = some r := hM
                have hE := Option.some.inj hE
                subst hE
                exact pr R 9999 [.ix (Thing.enc v1), .new 0, .call false [] (.o (.c (.v (.bool v3)))) [] [], .as 15 false, .as 18 false, .call false [] (.o (.c (.v (.bool v47)))) [] [], .as 35 false, .as 38 false, .as 48 true, .as 52 false, .as 57 true] [] [] [] (And.intro (gi_map Thing.enc h2) (And.intro (spec_l1In_ok v1.Id 1 9999 v3 h4) (And.intro h5 (And.intro h6 (And.intro (spec_l1In_ok v1.Own 1 30000 v47 h48) (And.intro h49 (And.intro h50 (And.intro h69 (And.intro h70 (And.intro h71 True.intro)))))))))) (by kernel_rfl)
              · obtain ⟨v72, h73, hM⟩ := bind_some hM
                rcases cond_cases hM with ⟨h74, hM⟩ | ⟨h74, hM⟩
                · have hE : some true = some r := hM
                  have hE := Option.some.inj hE
                  subst hE
                  exact pr R 9999 [.ix (Thing.enc v1), .new 0, .call false [] (.o (.c (.v (.bool v3)))) [] [], .as 15 false, .as 18 false, .call false [] (.o (.c (.v (.bool v47)))) [] [], .as 35 false, .as 38 false, .as 48 true, .as 52 false, .as 57 false, .call false [] (.o (.c (.v (.int .i64 v72)))) [] [], .as 65 true] [] [] [] (And.intro (gi_map Thing.enc h2) (And.intro (spec_l1In_ok v1.Id 1 9999 v3 h4) (And.intro h5 (And.intro h6 (And.intro (spec_l1In_ok v1.Own 1 30000 v47 h48) (And.intro h49 (And.intro h50 (And.intro h69 (And.intro h70 (And.intro h71 (And.intro (spec_FindThing_ok a0 v1.In v72 h73) (And.intro h74 True.intro)))))))))))) (by kernel_rfl)
                · rcases cond_cases hM with ⟨h75, hM⟩ | ⟨h75, hM⟩
                  · obtain ⟨v76, h77, hM⟩ := bind_some hM
                    have hE : some v76.Box = some r := hM
                    have hE := Option.some.inj hE
                    subst hE
                    exact pr R 9999 [.ix (Thing.enc v1), .new 0, .call false [] (.o (.c (.v (.bool v3)))) [] [], .as 15 false, .as 18 false, .call false [] (.o (.c (.v (.bool v47)))) [] [], .as 35 false, .as 38 false, .as 48 true, .as 52 false, .as 57 false, .call false [] (.o (.c (.v (.int .i64 v72)))) [] [], .as 65 false, .as 68 true, .ix (Thing.enc v76)] [] [] [] (And.intro (gi_map Thing.enc h2) (And.intro (spec_l1In_ok v1.Id 1 9999 v3 h4) (And.intro h5 (And.intro h6 (And.intro (spec_l1In_ok v1.Own 1 30000 v47 h48) (And.intro h49 (And.intro h50 (And.intro h69 (And.intro h70 (And.intro h71 (And.intro (spec_FindThing_ok a0 v1.In v72 h73) (And.intro h74 (And.intro h75 (And.intro (gi_map Thing.enc h77) True.intro)))))))))))))) (by kernel_rfl)
                  · have hE : some false = some r := hM
                    have hE := Option.some.inj hE
                    subst hE
                    exact pr R 9999 [.ix (Thing.enc v1), .new 0, .call false [] (.o (.c (.v (.bool v3)))) [] [], .as 15 false, .as 18 false, .call false [] (.o (.c (.v (.bool v47)))) [] [], .as 35 false, .as 38 false, .as 48 true, .as 52 false, .as 57 false, .call false [] (.o (.c (.v (.int .i64 v72)))) [] [], .as 65 false, .as 68 false] [] [] [] (And.intro (gi_map Thing.enc h2) (And.intro (spec_l1In_ok v1.Id 1 9999 v3 h4) (And.intro h5 (And.intro h6 (And.intro (spec_l1In_ok v1.Own 1 30000 v47 h48) (And.intro h49 (And.intro h50 (And.intro h69 (And.intro h70 (And.intro h71 (And.intro (spec_FindThing_ok a0 v1.In v72 h73) (And.intro h74 (And.intro h75 True.intro))))))))))))) (by kernel_rfl)
          · obtain ⟨v78, h79, hM⟩ := bind_some hM
            rcases cond_cases hM with ⟨h80, hM⟩ | ⟨h80, hM⟩
            · have hE : some true = some r := hM
              have hE := Option.some.inj hE
              subst hE
              exact pr R 9999 [.ix (Thing.enc v1), .new 0, .call false [] (.o (.c (.v (.bool v3)))) [] [], .as 15 false, .as 18 false, .call false [] (.o (.c (.v (.bool v47)))) [] [], .as 35 false, .as 38 false, .as 48 false, .call false [] (.o (.c (.v (.int .i64 v78)))) [] [], .as 65 true] [] [] [] (And.intro (gi_map Thing.enc h2) (And.intro (spec_l1In_ok v1.Id 1 9999 v3 h4) (And.intro h5 (And.intro h6 (And.intro (spec_l1In_ok v1.Own 1 30000 v47 h48) (And.intro h49 (And.intro h50 (And.intro h69 (And.intro (spec_FindThing_ok a0 v1.In v78 h79) (And.intro h80 True.intro)))))))))) (by kernel_rfl)
            · rcases cond_cases hM with ⟨h81, hM⟩ | ⟨h81, hM⟩
              · obtain ⟨v82, h83, hM⟩ := bind_some hM
                have hE : some v82.Box = some r := hM
                have hE := Option.some.inj hE
                subst hE
                exact pr R 9999 [.ix (Thing.enc v1), .new 0, .call false [] (.o (.c (.v (.bool v3)))) [] [], .as 15 false, .as 18 false, .call false [] (.o (.c (.v (.bool v47)))) [] [], .as 35 false, .as 38 false, .as 48 false, .call false [] (.o (.c (.v (.int .i64 v78)))) [] [], .as 65 false, .as 68 true, .ix (Thing.enc v82)] [] [] [] (And.intro (gi_map Thing.enc h2) (And.intro (spec_l1In_ok v1.Id 1 9999 v3 h4) (And.intro h5 (And.intro h6 (And.intro (spec_l1In_ok v1.Own 1 30000 v47 h48) (And.intro h49 (And.intro h50 (And.intro h69 (And.intro (spec_FindThing_ok a0 v1.In v78 h79) (And.intro h80 (And.intro h81 (And.intro (gi_map Thing.enc h83) True.intro)))))))))))) (by kernel_rfl)
              · have hE : some false = some r := hM
                have hE := Option.some.inj hE
                subst hE
                exact pr R 9999 [.ix (Thing.enc v1), .new 0, .call false [] (.o (.c (.v (.bool v3)))) [] [], .as 15 false, .as 18 false, .call false [] (.o (.c (.v (.bool v47)))) [] [], .as 35 false, .as 38 false, .as 48 false, .call false [] (.o (.c (.v (.int .i64 v78)))) [] [], .as 65 false, .as 68 false] [] [] [] (And.intro (gi_map Thing.enc h2) (And.intro (spec_l1In_ok v1.Id 1 9999 v3 h4) (And.intro h5 (And.intro h6 (And.intro (spec_l1In_ok v1.Own 1 30000 v47 h48) (And.intro h49 (And.intro h50 (And.intro h69 (And.intro (spec_FindThing_ok a0 v1.In v78 h79) (And.intro h80 (And.intro h81 True.intro))))))))))) (by kernel_rfl)

-- loop.example/g03014/spec.l5Depth
def spec_l5Depth_L1_b (a0 : (List Thing)) (s3 : Int) (s4 : Int) : Option (Ctl (Int × Int) Int Int) :=
  bif (decide (s4 ≥ 0)) then
  (gi a0 s4).bind fun v7 =>
  bif (v7.In != 0) then
  bif (decide (s3 ≤ 4)) then
  (gi a0 s4).bind fun v11 =>
  (spec_FindThing a0 v11.In).bind fun v13 =>
  some (.next (w64 (s3 + 1), v13))
  else
  some (.brk s3)
  else
  some (.brk s3)
  else
  some (.brk s3)
def spec_l5Depth_L1 (a0 : (List Thing)) (s : Int × Int) : Option (Ctl (Int × Int) Int Int) := spec_l5Depth_L1_b a0 s.1 s.2
def spec_l5Depth_L1_s (a0 : (List Thing)) (s3 : Int) (s4 : Int) : St := ⟨[(0, .o (.c (.rs 6 (a0.map Thing.enc)))), (5, .o (.c (.v (.int .i64 s3)))), (6, .o (.c (.v (.int .i64 s4))))], []⟩
def spec_l5Depth_L1_S (a0 : (List Thing)) (s : Int × Int) : St := spec_l5Depth_L1_s a0 s.1 s.2
def spec_l5Depth_L1_a (s5 : Int) : Option Int :=
  some s5
def spec_l5Depth_L1_k (x : (Int) ⊕ (Int)) : Option Int := match x with
  | .inl t => spec_l5Depth_L1_a t
  | .inr y => some y
def spec_l5Depth (a0 : (List Thing)) (a1 : Int) : Option Int :=
  (spec_FindThing a0 a1).bind fun v1 =>
  (loopM (spec_l5Depth_L1 a0) big (0, v1)).bind (spec_l5Depth_L1_k)
theorem spec_l5Depth_ok (a0 : (List Thing)) (a1 : Int) (r : Int) (hM : spec_l5Depth a0 a1 = some r) :
    Con Tryd.prog 42 [.c (.rs 6 (a0.map Thing.enc)), .c (.v (.int .i64 a1))] [] (.o (.c (.v (.int .i64 r)))) [] [] := by
  unfold spec_l5Depth at hM
  refine cn (N := 34) (pids := []) Tryd_mixed Tryd.func42 (by kernel_rfl) (by kernel_rfl) (by kernel_rfl) rfl fun ρ g w R => ?_
  obtain ⟨v1, h2, hM⟩ := bind_some hM
  have K1 : ∀ (s5 : Int), spec_l5Depth_L1_a s5 = some r → Gr R [.code (cAt Tryd.f42 [1, 1, 1, 1])] (⟨[(5, .o (.c (.v (.int .i64 s5))))], []⟩) := by
    intro s5 hM
    unfold spec_l5Depth_L1_a at hM
    have hE : some s5 = some r := hM
    have hE := Option.some.inj hE
    subst hE
    exact pr R 9999 [] [] [] [] True.intro (by kernel_rfl)
  refine pc R 9999 [.call false [] (.o (.c (.v (.int .i64 v1)))) [] []] [.keep [0, 5, 6] []] (k' := [.code (.loop (cAt Tryd.f42 [1, 1, 1, 0, 0, 0])), .blk 0, .code (cAt Tryd.f42 [1, 1, 1, 1])]) (S' := spec_l5Depth_L1_S a0 (0, v1)) (And.intro (spec_FindThing_ok a0 a1 v1 h2) True.intro) (by kernel_rfl) ?_
  refine lq (spec_l5Depth_L1_S a0) (body := spec_l5Depth_L1 a0) (k := spec_l5Depth_L1_k) hM fun m1 s c1 hM hK1 => ?_
  obtain ⟨s3, s4⟩ := s
  have hM : spec_l5Depth_L1_b a0 s3 s4 = some c1 := hM
  unfold spec_l5Depth_L1_b at hM
  rcases cond_cases hM with ⟨h6, hM⟩ | ⟨h6, hM⟩
  · obtain ⟨v7, h8, hM⟩ := bind_some hM
    rcases cond_cases hM with ⟨h9, hM⟩ | ⟨h9, hM⟩
    · rcases cond_cases hM with ⟨h10, hM⟩ | ⟨h10, hM⟩
      · obtain ⟨v11, h12, hM⟩ := bind_some hM
        obtain ⟨v13, h14, hM⟩ := bind_some hM
        have hE : some (Ctl.next (w64 (s3 + 1), v13)) = some c1 := hM
        have hE := Option.some.inj hE
        subst hE
        exact pc R 9999 [.as 12 true, .ix (Thing.enc v7), .as 20 true, .as 23 true, .ix (Thing.enc v11), .call false [] (.o (.c (.v (.int .i64 v13)))) [] []] [.keep [0, 5, 6] []] (And.intro h6 (And.intro (gi_map Thing.enc h8) (And.intro h9 (And.intro h10 (And.intro (gi_map Thing.enc h12) (And.intro (spec_FindThing_ok a0 v11.In v13 h14) True.intro)))))) (by kernel_rfl) (li (Sf := spec_l5Depth_L1_S a0) (M := Mk (spec_l5Depth_L1 a0) (spec_l5Depth_L1_k) r) (k := [.blk 0, .code (cAt Tryd.f42 [1, 1, 1, 1])]) (Nat.lt_succ_self m1) hK1)
      · have hE : some (Ctl.brk s3) = some c1 := hM
        have hE := Option.some.inj hE
        subst hE
        exact pc R 5 [.as 12 true, .ix (Thing.enc v7), .as 20 true, .as 23 false] [.keep [5] []] (And.intro h6 (And.intro (gi_map Thing.enc h8) (And.intro h9 (And.intro h10 True.intro)))) (by kernel_rfl) (K1 s3 hK1)
    · have hE : some (Ctl.brk s3) = some c1 := hM
      have hE := Option.some.inj hE
      subst hE
      exact pc R 5 [.as 12 true, .ix (Thing.enc v7), .as 20 false] [.keep [5] []] (And.intro h6 (And.intro (gi_map Thing.enc h8) (And.intro h9 True.intro))) (by kernel_rfl) (K1 s3 hK1)
  · have hE : some (Ctl.brk s3) = some c1 := hM
    have hE := Option.some.inj hE
    subst hE
    exact pc R 5 [.as 12 false] [.keep [5] []] (And.intro h6 True.intro) (by kernel_rfl) (K1 s3 hK1)

-- loop.example/g03014/spec.l5Gross
def spec_l5Gross_L1_b (self : (List Thing) → Int → Int → Option Int) (a0 : (List Thing)) (a1 : Int) (a2 : Int) (s7 : Int) (s8 : Int) : Option (Ctl (Int × Int) Int Int) :=
  bif (decide (s8 < (a0.length : Int))) then
  (gi a0 s8).bind fun v11 =>
  bif (v11.In == a1) then
  (gi a0 s8).bind fun v14 =>
  (self a0 v14.Id (w64 (a2 - 1))).bind fun v16 =>
  some (.next (w64 (s7 + v16), w64 (s8 + 1)))
  else
  some (.next (s7, w64 (s8 + 1)))
  else
  some (.brk s7)
def spec_l5Gross_L1 (self : (List Thing) → Int → Int → Option Int) (a0 : (List Thing)) (a1 : Int) (a2 : Int) (s : Int × Int) : Option (Ctl (Int × Int) Int Int) := spec_l5Gross_L1_b self a0 a1 a2 s.1 s.2
def spec_l5Gross_L1_s (a0 : (List Thing)) (a1 : Int) (a2 : Int) (s7 : Int) (s8 : Int) : St := ⟨[(0, .o (.c (.rs 6 (a0.map Thing.enc)))), (1, .o (.c (.v (.int .i64 a1)))), (2, .o (.c (.v (.int .i64 a2)))), (8, .o (.c (.v (.int .i64 s7)))), (9, .o (.c (.v (.int .i64 s8))))], []⟩
def spec_l5Gross_L1_S (a0 : (List Thing)) (a1 : Int) (a2 : Int) (s : Int × Int) : St := spec_l5Gross_L1_s a0 a1 a2 s.1 s.2
def spec_l5Gross_L1_a (s9 : Int) : Option Int :=
  some s9
def spec_l5Gross_L1_k (x : (Int) ⊕ (Int)) : Option Int := match x with
  | .inl t => spec_l5Gross_L1_a t
  | .inr y => some y
def spec_l5Gross_F (self : (List Thing) → Int → Int → Option Int) (a0 : (List Thing)) (a1 : Int) (a2 : Int) : Option Int :=
  (spec_FindThing a0 a1).bind fun v1 =>
  bif (decide (v1 < 0)) then
  some 0
  else
  bif (decide (a2 < 0)) then
  some 0
  else
  (gi a0 v1).bind fun v5 =>
  (loopM (spec_l5Gross_L1 self a0 a1 a2) big (v5.Own, 0)).bind (spec_l5Gross_L1_k)
def spec_l5Gross_n : Nat → (List Thing) → Int → Int → Option Int
  | 0, _, _, _ => none
  | n + 1, a0, a1, a2 => spec_l5Gross_F (spec_l5Gross_n n) a0 a1 a2
def spec_l5Gross (a0 : (List Thing)) (a1 : Int) (a2 : Int) : Option Int := spec_l5Gross_n big a0 a1 a2
theorem spec_l5Gross_step (self : (List Thing) → Int → Int → Option Int) (ih : ∀ (a0 : (List Thing)) (a1 : Int) (a2 : Int) (r : Int), self a0 a1 a2 = some r →
    Con Tryd.prog 54 [.c (.rs 6 (a0.map Thing.enc)), .c (.v (.int .i64 a1)), .c (.v (.int .i64 a2))] [] (.o (.c (.v (.int .i64 r)))) [] [])
     (a0 : (List Thing)) (a1 : Int) (a2 : Int) (r : Int) (hM : spec_l5Gross_F self a0 a1 a2 = some r) :
    Con Tryd.prog 54 [.c (.rs 6 (a0.map Thing.enc)), .c (.v (.int .i64 a1)), .c (.v (.int .i64 a2))] [] (.o (.c (.v (.int .i64 r)))) [] [] := by
  unfold spec_l5Gross_F at hM
  refine cn (N := 49) (pids := []) Tryd_mixed Tryd.func54 (by kernel_rfl) (by kernel_rfl) (by kernel_rfl) rfl fun ρ g w R => ?_
  obtain ⟨v1, h2, hM⟩ := bind_some hM
  rcases cond_cases hM with ⟨h3, hM⟩ | ⟨h3, hM⟩
  · have hE : some 0 = some r := hM
    have hE := Option.some.inj hE
    subst hE
    exact pr R 9999 [.call false [] (.o (.c (.v (.int .i64 v1)))) [] [], .as 15 true] [] [] [] (And.intro (spec_FindThing_ok a0 a1 v1 h2) (And.intro h3 True.intro)) (by kernel_rfl)
  · rcases cond_cases hM with ⟨h4, hM⟩ | ⟨h4, hM⟩
    · have hE : some 0 = some r := hM
      have hE := Option.some.inj hE
      subst hE
      exact pr R 9999 [.call false [] (.o (.c (.v (.int .i64 v1)))) [] [], .as 15 false, .as 18 true] [] [] [] (And.intro (spec_FindThing_ok a0 a1 v1 h2) (And.intro h3 (And.intro h4 True.intro))) (by kernel_rfl)
    · obtain ⟨v5, h6, hM⟩ := bind_some hM
      have K1 : ∀ (s9 : Int), spec_l5Gross_L1_a s9 = some r → Gr R [.code (cAt Tryd.f54 [1, 1, 1, 1, 1])] (⟨[(8, .o (.c (.v (.int .i64 s9))))], []⟩) := by
        intro s9 hM
        unfold spec_l5Gross_L1_a at hM
        have hE : some s9 = some r := hM
        have hE := Option.some.inj hE
        subst hE
        exact pr R 9999 [] [] [] [] True.intro (by kernel_rfl)
      refine pc R 9999 [.call false [] (.o (.c (.v (.int .i64 v1)))) [] [], .as 15 false, .as 18 false, .ix (Thing.enc v5)] [.keep [0, 1, 2, 8, 9] []] (k' := [.code (.loop (cAt Tryd.f54 [1, 1, 1, 1, 0, 1, 0, 0])), .blk 0, .code (cAt Tryd.f54 [1, 1, 1, 1, 1])]) (S' := spec_l5Gross_L1_S a0 a1 a2 (v5.Own, 0)) (And.intro (spec_FindThing_ok a0 a1 v1 h2) (And.intro h3 (And.intro h4 (And.intro (gi_map Thing.enc h6) True.intro)))) (by kernel_rfl) ?_
      refine lq (spec_l5Gross_L1_S a0 a1 a2) (body := spec_l5Gross_L1 self a0 a1 a2) (k := spec_l5Gross_L1_k) hM fun m1 s c1 hM hK1 => ?_
      obtain ⟨s7, s8⟩ := s
      have hM : spec_l5Gross_L1_b self a0 a1 a2 s7 s8 = some c1 := hM
      unfold spec_l5Gross_L1_b at hM
      rcases cond_cases hM with ⟨h10, hM⟩ | ⟨h10, hM⟩
      · obtain ⟨v11, h12, hM⟩ := bind_some hM
        rcases cond_cases hM with ⟨h13, hM⟩ | ⟨h13, hM⟩
        · obtain ⟨v14, h15, hM⟩ := bind_some hM
          obtain ⟨v16, h17, hM⟩ := bind_some hM
          have hE : some (Ctl.next (w64 (s7 + v16), w64 (s8 + 1))) = some c1 := hM
          have hE := Option.some.inj hE
          subst hE
          exact pc R 9999 [.ln (a0.length), .as 27 true, .ix (Thing.enc v11), .as 36 true, .ix (Thing.enc v14), .call false [] (.o (.c (.v (.int .i64 v16)))) [] []] [.keep [0, 1, 2, 8, 9] []] (And.intro (lenm Thing.enc a0) (And.intro h10 (And.intro (gi_map Thing.enc h12) (And.intro h13 (And.intro (gi_map Thing.enc h15) (And.intro (ih a0 v14.Id (w64 (a2 - 1)) v16 h17) True.intro)))))) (by kernel_rfl) (li (Sf := spec_l5Gross_L1_S a0 a1 a2) (M := Mk (spec_l5Gross_L1 self a0 a1 a2) (spec_l5Gross_L1_k) r) (k := [.blk 0, .code (cAt Tryd.f54 [1, 1, 1, 1, 1])]) (Nat.lt_succ_self m1) hK1)
        · have hE : some (Ctl.next (s7, w64 (s8 + 1))) = some c1 := hM
          have hE := Option.some.inj hE
          subst hE
          exact pc R 9999 [.ln (a0.length), .as 27 true, .ix (Thing.enc v11), .as 36 false] [.keep [0, 1, 2, 8, 9] []] (And.intro (lenm Thing.enc a0) (And.intro h10 (And.intro (gi_map Thing.enc h12) (And.intro h13 True.intro)))) (by kernel_rfl) (li (Sf := spec_l5Gross_L1_S a0 a1 a2) (M := Mk (spec_l5Gross_L1 self a0 a1 a2) (spec_l5Gross_L1_k) r) (k := [.blk 0, .code (cAt Tryd.f54 [1, 1, 1, 1, 1])]) (Nat.lt_succ_self m1) hK1)
      · have hE : some (Ctl.brk s7) = some c1 := hM
        have hE := Option.some.inj hE
        subst hE
        exact pc R 5 [.ln (a0.length), .as 27 false] [.keep [8] []] (And.intro (lenm Thing.enc a0) (And.intro h10 True.intro)) (by kernel_rfl) (K1 s7 hK1)
theorem spec_l5Gross_nok : ∀ (n : Nat) (a0 : (List Thing)) (a1 : Int) (a2 : Int) (r : Int), spec_l5Gross_n n a0 a1 a2 = some r →
    Con Tryd.prog 54 [.c (.rs 6 (a0.map Thing.enc)), .c (.v (.int .i64 a1)), .c (.v (.int .i64 a2))] [] (.o (.c (.v (.int .i64 r)))) [] []
  | 0, _, _, _, _, h => by cases h
  | n + 1, a0, a1, a2, r, h => spec_l5Gross_step (spec_l5Gross_n n) (spec_l5Gross_nok n) a0 a1 a2 r h
theorem spec_l5Gross_ok (a0 : (List Thing)) (a1 : Int) (a2 : Int) (r : Int) (h : spec_l5Gross a0 a1 a2 = some r) :
    Con Tryd.prog 54 [.c (.rs 6 (a0.map Thing.enc)), .c (.v (.int .i64 a1)), .c (.v (.int .i64 a2))] [] (.o (.c (.v (.int .i64 r)))) [] [] := spec_l5Gross_nok big a0 a1 a2 r h

-- loop.example/g03014/spec.l5Load
def spec_l5Load (a0 : (List Thing)) (a1 : Int) : Option Int :=
  (spec_FindThing a0 a1).bind fun v1 =>
  (spec_l5Gross a0 a1 5).bind fun v3 =>
  (gi a0 v1).bind fun v5 =>
  some (w64 (v3 - v5.Own))
theorem spec_l5Load_ok (a0 : (List Thing)) (a1 : Int) (r : Int) (hM : spec_l5Load a0 a1 = some r) :
    Con Tryd.prog 43 [.c (.rs 6 (a0.map Thing.enc)), .c (.v (.int .i64 a1))] [] (.o (.c (.v (.int .i64 r)))) [] [] := by
  unfold spec_l5Load at hM
  refine cn (N := 18) (pids := []) Tryd_mixed Tryd.func43 (by kernel_rfl) (by kernel_rfl) (by kernel_rfl) rfl fun ρ g w R => ?_
  obtain ⟨v1, h2, hM⟩ := bind_some hM
  obtain ⟨v3, h4, hM⟩ := bind_some hM
  obtain ⟨v5, h6, hM⟩ := bind_some hM
  have hE : some (w64 (v3 - v5.Own)) = some r := hM
  have hE := Option.some.inj hE
  subst hE
  exact pr R 9999 [.call false [] (.o (.c (.v (.int .i64 v1)))) [] [], .call false [] (.o (.c (.v (.int .i64 v3)))) [] [], .ix (Thing.enc v5)] [] [] [] (And.intro (spec_FindThing_ok a0 a1 v1 h2) (And.intro (spec_l5Gross_ok a0 a1 5 v3 h4) (And.intro (gi_map Thing.enc h6) True.intro))) (by kernel_rfl)

-- loop.example/g03014/spec.AreThings
def spec_AreThings_L2_b (a0 : (List Thing)) (s3 : Int) : Option (Ctl Int Unit Bool) :=
  bif (decide (s3 < (a0.length : Int))) then
  (gi a0 s3).bind fun v5 =>
  bif v5.Box then
  (gi a0 s3).bind fun v8 =>
  (spec_l5Load a0 v8.Id).bind fun v10 =>
  (gi a0 s3).bind fun v12 =>
  bif (decide (v10 > v12.Room)) then
  some (.ret false)
  else
  some (.next (w64 (s3 + 1)))
  else
  some (.next (w64 (s3 + 1)))
  else
  some (.brk ())
def spec_AreThings_L2 (a0 : (List Thing)) (s : Int) : Option (Ctl Int Unit Bool) := spec_AreThings_L2_b a0 s
def spec_AreThings_L2_s (a0 : (List Thing)) (s3 : Int) : St := ⟨[(0, .o (.c (.rs 6 (a0.map Thing.enc)))), (4, .o (.c (.v (.int .i64 s3))))], []⟩
def spec_AreThings_L2_S (a0 : (List Thing)) (s : Int) : St := spec_AreThings_L2_s a0 s
def spec_AreThings_L2_a : Option Bool :=
  some true
def spec_AreThings_L2_k (x : (Unit) ⊕ (Bool)) : Option Bool := match x with
  | .inl t => spec_AreThings_L2_a
  | .inr y => some y
def spec_AreThings_L1_b (a0 : (List Thing)) (s2 : Int) : Option (Ctl Int Unit Bool) :=
  bif (decide (s2 < (a0.length : Int))) then
  (spec_l5One a0 s2).bind fun v16 =>
  bif (!v16) then
  some (.ret false)
  else
  (gi a0 s2).bind fun v19 =>
  (spec_l5Depth a0 v19.Id).bind fun v21 =>
  bif (decide (v21 > 4)) then
  some (.ret false)
  else
  some (.next (w64 (s2 + 1)))
  else
  some (.brk ())
def spec_AreThings_L1 (a0 : (List Thing)) (s : Int) : Option (Ctl Int Unit Bool) := spec_AreThings_L1_b a0 s
def spec_AreThings_L1_s (a0 : (List Thing)) (s2 : Int) : St := ⟨[(0, .o (.c (.rs 6 (a0.map Thing.enc)))), (3, .o (.c (.v (.int .i64 s2))))], []⟩
def spec_AreThings_L1_S (a0 : (List Thing)) (s : Int) : St := spec_AreThings_L1_s a0 s
def spec_AreThings_L1_a (a0 : (List Thing)) : Option Bool :=
  (loopM (spec_AreThings_L2 a0) big 0).bind (spec_AreThings_L2_k)
def spec_AreThings_L1_k (a0 : (List Thing)) (x : (Unit) ⊕ (Bool)) : Option Bool := match x with
  | .inl t => spec_AreThings_L1_a a0
  | .inr y => some y
def spec_AreThings (a0 : (List Thing)) : Option Bool :=
  bif (decide ((a0.length : Int) > 40)) then
  some false
  else
  (loopM (spec_AreThings_L1 a0) big 0).bind (spec_AreThings_L1_k a0)
theorem spec_AreThings_ok (a0 : (List Thing)) (r : Bool) (hM : spec_AreThings a0 = some r) :
    Con Tryd.prog 25 [.c (.rs 6 (a0.map Thing.enc))] [] (.o (.c (.v (.bool r)))) [] [] := by
  unfold spec_AreThings at hM
  refine cn (N := 54) (pids := []) Tryd_mixed Tryd.func25 (by kernel_rfl) (by kernel_rfl) (by kernel_rfl) rfl fun ρ g w R => ?_
  rcases cond_cases hM with ⟨h1, hM⟩ | ⟨h1, hM⟩
  · have hE : some false = some r := hM
    have hE := Option.some.inj hE
    subst hE
    exact pr R 9999 [.ln (a0.length), .as 7 true] [] [] [] (And.intro (lenm Thing.enc a0) (And.intro h1 True.intro)) (by kernel_rfl)
  · have K1 : ∀ (_ : Unit), spec_AreThings_L1_a a0 = some r → Gr R [.code (cAt Tryd.f25 [1, 1, 1])] (⟨[(0, .o (.c (.rs 6 (a0.map Thing.enc))))], []⟩) := by
      intro _ hM
      unfold spec_AreThings_L1_a at hM
      have K2 : ∀ (_ : Unit), spec_AreThings_L2_a = some r → Gr R [.code (cAt Tryd.f25 [1, 1, 1, 1])] (⟨[], []⟩) := by
        intro _ hM
        unfold spec_AreThings_L2_a at hM
        have hE : some true = some r := hM
        have hE := Option.some.inj hE
        subst hE
        exact pr R 9999 [] [] [] [] True.intro (by kernel_rfl)
      refine pc R 9999 [] [.keep [0, 4] []] (k' := [.code (.loop (cAt Tryd.f25 [1, 1, 1, 0, 1, 0, 0])), .blk 2, .code (cAt Tryd.f25 [1, 1, 1, 1])]) (S' := spec_AreThings_L2_S a0 0) True.intro (by kernel_rfl) ?_
      refine lq (spec_AreThings_L2_S a0) (body := spec_AreThings_L2 a0) (k := spec_AreThings_L2_k) hM fun m2 s c2 hM hK2 => ?_
      obtain ⟨s3, hs⟩ : ∃ z, z = s := ⟨_, rfl⟩
      subst hs
      have hM : spec_AreThings_L2_b a0 s3 = some c2 := hM
      unfold spec_AreThings_L2_b at hM
      rcases cond_cases hM with ⟨h4, hM⟩ | ⟨h4, hM⟩
      · obtain ⟨v5, h6, hM⟩ := bind_some hM
        rcases cond_cases hM with ⟨h7, hM⟩ | ⟨h7, hM⟩
        · obtain ⟨v8, h9, hM⟩ := bind_some hM
          obtain ⟨v10, h11, hM⟩ := bind_some hM
          obtain ⟨v12, h13, hM⟩ := bind_some hM
          rcases cond_cases hM with ⟨h14, hM⟩ | ⟨h14, hM⟩
          · have hE : some (Ctl.ret false) = some c2 := hM
            have hE := Option.some.inj hE
            subst hE
            have hE : some false = some r := hK2
            have hE := Option.some.inj hE
            subst hE
            exact pr R 9999 [.ln (a0.length), .as 31 true, .ix (Thing.enc v5), .as 39 true, .ix (Thing.enc v8), .call false [] (.o (.c (.v (.int .i64 v10)))) [] [], .ix (Thing.enc v12), .as 53 true] [] [] [] (And.intro (lenm Thing.enc a0) (And.intro h4 (And.intro (gi_map Thing.enc h6) (And.intro h7 (And.intro (gi_map Thing.enc h9) (And.intro (spec_l5Load_ok a0 v8.Id v10 h11) (And.intro (gi_map Thing.enc h13) (And.intro h14 True.intro)))))))) (by kernel_rfl)
          · have hE : some (Ctl.next (w64 (s3 + 1))) = some c2 := hM
            have hE := Option.some.inj hE
            subst hE
            exact pc R 9999 [.ln (a0.length), .as 31 true, .ix (Thing.enc v5), .as 39 true, .ix (Thing.enc v8), .call false [] (.o (.c (.v (.int .i64 v10)))) [] [], .ix (Thing.enc v12), .as 53 false] [.keep [0, 4] []] (And.intro (lenm Thing.enc a0) (And.intro h4 (And.intro (gi_map Thing.enc h6) (And.intro h7 (And.intro (gi_map Thing.enc h9) (And.intro (spec_l5Load_ok a0 v8.Id v10 h11) (And.intro (gi_map Thing.enc h13) (And.intro h14 True.intro)))))))) (by kernel_rfl) (li (Sf := spec_AreThings_L2_S a0) (M := Mk (spec_AreThings_L2 a0) (spec_AreThings_L2_k) r) (k := [.blk 2, .code (cAt Tryd.f25 [1, 1, 1, 1])]) (Nat.lt_succ_self m2) hK2)
        · have hE : some (Ctl.next (w64 (s3 + 1))) = some c2 := hM
          have hE := Option.some.inj hE
          subst hE
          exact pc R 9999 [.ln (a0.length), .as 31 true, .ix (Thing.enc v5), .as 39 false] [.keep [0, 4] []] (And.intro (lenm Thing.enc a0) (And.intro h4 (And.intro (gi_map Thing.enc h6) (And.intro h7 True.intro)))) (by kernel_rfl) (li (Sf := spec_AreThings_L2_S a0) (M := Mk (spec_AreThings_L2 a0) (spec_AreThings_L2_k) r) (k := [.blk 2, .code (cAt Tryd.f25 [1, 1, 1, 1])]) (Nat.lt_succ_self m2) hK2)
      · have hE : some (Ctl.brk ()) = some c2 := hM
        have hE := Option.some.inj hE
        subst hE
        exact pc R 5 [.ln (a0.length), .as 31 false] [.keep [] []] (And.intro (lenm Thing.enc a0) (And.intro h4 True.intro)) (by kernel_rfl) (K2 () hK2)
    refine pc R 9999 [.ln (a0.length), .as 7 false] [.keep [0, 3] []] (k' := [.code (.loop (cAt Tryd.f25 [1, 1, 0, 1, 0, 0])), .blk 0, .code (cAt Tryd.f25 [1, 1, 1])]) (S' := spec_AreThings_L1_S a0 0) (And.intro (lenm Thing.enc a0) (And.intro h1 True.intro)) (by kernel_rfl) ?_
    refine lq (spec_AreThings_L1_S a0) (body := spec_AreThings_L1 a0) (k := spec_AreThings_L1_k a0) hM fun m1 s c1 hM hK1 => ?_
    obtain ⟨s2, hs⟩ : ∃ z, z = s := ⟨_, rfl⟩
    subst hs
    have hM : spec_AreThings_L1_b a0 s2 = some c1 := hM
    unfold spec_AreThings_L1_b at hM
    rcases cond_cases hM with ⟨h15, hM⟩ | ⟨h15, hM⟩
    · obtain ⟨v16, h17, hM⟩ := bind_some hM
      rcases cond_cases hM with ⟨h18, hM⟩ | ⟨h18, hM⟩
      · have hE : some (Ctl.ret false) = some c1 := hM
        have hE := Option.some.inj hE
        subst hE
        have hE : some false = some r := hK1
        have hE := Option.some.inj hE
        subst hE
        exact pr R 9999 [.ln (a0.length), .as 11 true, .call false [] (.o (.c (.v (.bool v16)))) [] [], .as 18 true] [] [] [] (And.intro (lenm Thing.enc a0) (And.intro h15 (And.intro (spec_l5One_ok a0 s2 v16 h17) (And.intro h18 True.intro)))) (by kernel_rfl)
      · obtain ⟨v19, h20, hM⟩ := bind_some hM
        obtain ⟨v21, h22, hM⟩ := bind_some hM
        rcases cond_cases hM with ⟨h23, hM⟩ | ⟨h23, hM⟩
        · have hE : some (Ctl.ret false) = some c1 := hM
          have hE := Option.some.inj hE
          subst hE
          have hE : some false = some r := hK1
          have hE := Option.some.inj hE
          subst hE
          exact pr R 9999 [.ln (a0.length), .as 11 true, .call false [] (.o (.c (.v (.bool v16)))) [] [], .as 18 false, .ix (Thing.enc v19), .call false [] (.o (.c (.v (.int .i64 v21)))) [] [], .as 27 true] [] [] [] (And.intro (lenm Thing.enc a0) (And.intro h15 (And.intro (spec_l5One_ok a0 s2 v16 h17) (And.intro h18 (And.intro (gi_map Thing.enc h20) (And.intro (spec_l5Depth_ok a0 v19.Id v21 h22) (And.intro h23 True.intro))))))) (by kernel_rfl)
        · have hE : some (Ctl.next (w64 (s2 + 1))) = some c1 := hM
          have hE := Option.some.inj hE
          subst hE
          exact pc R 9999 [.ln (a0.length), .as 11 true, .call false [] (.o (.c (.v (.bool v16)))) [] [], .as 18 false, .ix (Thing.enc v19), .call false [] (.o (.c (.v (.int .i64 v21)))) [] [], .as 27 false] [.keep [0, 3] []] (And.intro (lenm Thing.enc a0) (And.intro h15 (And.intro (spec_l5One_ok a0 s2 v16 h17) (And.intro h18 (And.intro (gi_map Thing.enc h20) (And.intro (spec_l5Depth_ok a0 v19.Id v21 h22) (And.intro h23 True.intro))))))) (by kernel_rfl) (li (Sf := spec_AreThings_L1_S a0) (M := Mk (spec_AreThings_L1 a0) (spec_AreThings_L1_k a0) r) (k := [.blk 0, .code (cAt Tryd.f25 [1, 1, 1])]) (Nat.lt_succ_self m1) hK1)
    · have hE : some (Ctl.brk ()) = some c1 := hM
      have hE := Option.some.inj hE
      subst hE
      exact pc R 5 [.ln (a0.length), .as 11 false] [.keep [0] []] (And.intro (lenm Thing.enc a0) (And.intro h15 True.intro)) (by kernel_rfl) (K1 () hK1)

-- loop.example/g03014/spec.l5Around
def spec_l5Around_L1_b (a0 : (List Thing)) (a2 : Int) (s3 : Int) : Option (Ctl Int Unit Bool) :=
  bif (decide (s3 ≥ 0)) then
  (gi a0 s3).bind fun v5 =>
  bif (v5.In != 0) then
  (gi a0 s3).bind fun v8 =>
  bif (v8.In == a2) then
  some (.ret true)
  else
  (gi a0 s3).bind fun v11 =>
  (spec_FindThing a0 v11.In).bind fun v13 =>
  some (.next v13)
  else
  some (.brk ())
  else
  some (.brk ())
def spec_l5Around_L1 (a0 : (List Thing)) (a2 : Int) (s : Int) : Option (Ctl Int Unit Bool) := spec_l5Around_L1_b a0 a2 s
def spec_l5Around_L1_s (a0 : (List Thing)) (a2 : Int) (s3 : Int) : St := ⟨[(0, .o (.c (.rs 6 (a0.map Thing.enc)))), (2, .o (.c (.v (.int .i64 a2)))), (7, .o (.c (.v (.int .i64 s3))))], []⟩
def spec_l5Around_L1_S (a0 : (List Thing)) (a2 : Int) (s : Int) : St := spec_l5Around_L1_s a0 a2 s
def spec_l5Around_L1_a : Option Bool :=
  some false
def spec_l5Around_L1_k (x : (Unit) ⊕ (Bool)) : Option Bool := match x with
  | .inl t => spec_l5Around_L1_a
  | .inr y => some y
def spec_l5Around (a0 : (List Thing)) (a1 : Int) (a2 : Int) : Option Bool :=
  (spec_FindThing a0 a1).bind fun v1 =>
  (loopM (spec_l5Around_L1 a0 a2) big v1).bind (spec_l5Around_L1_k)
theorem spec_l5Around_ok (a0 : (List Thing)) (a1 : Int) (a2 : Int) (r : Bool) (hM : spec_l5Around a0 a1 a2 = some r) :
    Con Tryd.prog 64 [.c (.rs 6 (a0.map Thing.enc)), .c (.v (.int .i64 a1)), .c (.v (.int .i64 a2))] [] (.o (.c (.v (.bool r)))) [] [] := by
  unfold spec_l5Around at hM
  refine cn (N := 35) (pids := []) Tryd_mixed Tryd.func64 (by kernel_rfl) (by kernel_rfl) (by kernel_rfl) rfl fun ρ g w R => ?_
  obtain ⟨v1, h2, hM⟩ := bind_some hM
  have K1 : ∀ (_ : Unit), spec_l5Around_L1_a = some r → Gr R [.code (cAt Tryd.f64 [1, 1, 1])] (⟨[], []⟩) := by
    intro _ hM
    unfold spec_l5Around_L1_a at hM
    have hE : some false = some r := hM
    have hE := Option.some.inj hE
    subst hE
    exact pr R 9999 [] [] [] [] True.intro (by kernel_rfl)
  refine pc R 9999 [.call false [] (.o (.c (.v (.int .i64 v1)))) [] []] [.keep [0, 2, 7] []] (k' := [.code (.loop (cAt Tryd.f64 [1, 1, 0, 0, 0])), .blk 0, .code (cAt Tryd.f64 [1, 1, 1])]) (S' := spec_l5Around_L1_S a0 a2 v1) (And.intro (spec_FindThing_ok a0 a1 v1 h2) True.intro) (by kernel_rfl) ?_
  refine lq (spec_l5Around_L1_S a0 a2) (body := spec_l5Around_L1 a0 a2) (k := spec_l5Around_L1_k) hM fun m1 s c1 hM hK1 => ?_
  obtain ⟨s3, hs⟩ : ∃ z, z = s := ⟨_, rfl⟩
  subst hs
  have hM : spec_l5Around_L1_b a0 a2 s3 = some c1 := hM
  unfold spec_l5Around_L1_b at hM
  rcases cond_cases hM with ⟨h4, hM⟩ | ⟨h4, hM⟩
  · obtain ⟨v5, h6, hM⟩ := bind_some hM
    rcases cond_cases hM with ⟨h7, hM⟩ | ⟨h7, hM⟩
    · obtain ⟨v8, h9, hM⟩ := bind_some hM
      rcases cond_cases hM with ⟨h10, hM⟩ | ⟨h10, hM⟩
      · have hE : some (Ctl.ret true) = some c1 := hM
        have hE := Option.some.inj hE
        subst hE
        have hE : some true = some r := hK1
        have hE := Option.some.inj hE
        subst hE
        exact pr R 9999 [.as 13 true, .ix (Thing.enc v5), .as 20 true, .ix (Thing.enc v8), .as 27 true] [] [] [] (And.intro h4 (And.intro (gi_map Thing.enc h6) (And.intro h7 (And.intro (gi_map Thing.enc h9) (And.intro h10 True.intro))))) (by kernel_rfl)
      · obtain ⟨v11, h12, hM⟩ := bind_some hM
        obtain ⟨v13, h14, hM⟩ := bind_some hM
        have hE : some (Ctl.next v13) = some c1 := hM
        have hE := Option.some.inj hE
        subst hE
        exact pc R 9999 [.as 13 true, .ix (Thing.enc v5), .as 20 true, .ix (Thing.enc v8), .as 27 false, .ix (Thing.enc v11), .call false [] (.o (.c (.v (.int .i64 v13)))) [] []] [.keep [0, 2, 7] []] (And.intro h4 (And.intro (gi_map Thing.enc h6) (And.intro h7 (And.intro (gi_map Thing.enc h9) (And.intro h10 (And.intro (gi_map Thing.enc h12) (And.intro (spec_FindThing_ok a0 v11.In v13 h14) True.intro))))))) (by kernel_rfl) (li (Sf := spec_l5Around_L1_S a0 a2) (M := Mk (spec_l5Around_L1 a0 a2) (spec_l5Around_L1_k) r) (k := [.blk 0, .code (cAt Tryd.f64 [1, 1, 1])]) (Nat.lt_succ_self m1) hK1)
    · have hE : some (Ctl.brk ()) = some c1 := hM
      have hE := Option.some.inj hE
      subst hE
      exact pc R 5 [.as 13 true, .ix (Thing.enc v5), .as 20 false] [.keep [] []] (And.intro h4 (And.intro (gi_map Thing.enc h6) (And.intro h7 True.intro))) (by kernel_rfl) (K1 () hK1)
  · have hE : some (Ctl.brk ()) = some c1 := hM
    have hE := Option.some.inj hE
    subst hE
    exact pc R 5 [.as 13 false] [.keep [] []] (And.intro h4 True.intro) (by kernel_rfl) (K1 () hK1)

-- loop.example/g03014/spec.l5Locked
def spec_l5Locked_L1_b (a0 : (List Thing)) (a1 : Int) (s1 : Int) : Option (Ctl Int Unit Bool) :=
  bif (decide (s1 < (a0.length : Int))) then
  (gi a0 s1).bind fun v3 =>
  bif v3.Sealed then
  (gi a0 s1).bind fun v6 =>
  (spec_l5Around a0 a1 v6.Id).bind fun v8 =>
  bif v8 then
  some (.ret true)
  else
  some (.next (w64 (s1 + 1)))
  else
  some (.next (w64 (s1 + 1)))
  else
  some (.brk ())
def spec_l5Locked_L1 (a0 : (List Thing)) (a1 : Int) (s : Int) : Option (Ctl Int Unit Bool) := spec_l5Locked_L1_b a0 a1 s
def spec_l5Locked_L1_s (a0 : (List Thing)) (a1 : Int) (s1 : Int) : St := ⟨[(0, .o (.c (.rs 6 (a0.map Thing.enc)))), (1, .o (.c (.v (.int .i64 a1)))), (5, .o (.c (.v (.int .i64 s1))))], []⟩
def spec_l5Locked_L1_S (a0 : (List Thing)) (a1 : Int) (s : Int) : St := spec_l5Locked_L1_s a0 a1 s
def spec_l5Locked_L1_a : Option Bool :=
  some false
def spec_l5Locked_L1_k (x : (Unit) ⊕ (Bool)) : Option Bool := match x with
  | .inl t => spec_l5Locked_L1_a
  | .inr y => some y
def spec_l5Locked (a0 : (List Thing)) (a1 : Int) : Option Bool :=
  (loopM (spec_l5Locked_L1 a0 a1) big 0).bind (spec_l5Locked_L1_k)
theorem spec_l5Locked_ok (a0 : (List Thing)) (a1 : Int) (r : Bool) (hM : spec_l5Locked a0 a1 = some r) :
    Con Tryd.prog 63 [.c (.rs 6 (a0.map Thing.enc)), .c (.v (.int .i64 a1))] [] (.o (.c (.v (.bool r)))) [] [] := by
  unfold spec_l5Locked at hM
  refine cn (N := 27) (pids := []) Tryd_mixed Tryd.func63 (by kernel_rfl) (by kernel_rfl) (by kernel_rfl) rfl fun ρ g w R => ?_
  have K1 : ∀ (_ : Unit), spec_l5Locked_L1_a = some r → Gr R [.code (cAt Tryd.f63 [1, 1])] (⟨[], []⟩) := by
    intro _ hM
    unfold spec_l5Locked_L1_a at hM
    have hE : some false = some r := hM
    have hE := Option.some.inj hE
    subst hE
    exact pr R 9999 [] [] [] [] True.intro (by kernel_rfl)
  refine pc R 9999 [] [.keep [0, 1, 5] []] (k' := [.code (.loop (cAt Tryd.f63 [1, 0, 1, 0, 0])), .blk 0, .code (cAt Tryd.f63 [1, 1])]) (S' := spec_l5Locked_L1_S a0 a1 0) True.intro (by kernel_rfl) ?_
  refine lq (spec_l5Locked_L1_S a0 a1) (body := spec_l5Locked_L1 a0 a1) (k := spec_l5Locked_L1_k) hM fun m1 s c1 hM hK1 => ?_
  obtain ⟨s1, hs⟩ : ∃ z, z = s := ⟨_, rfl⟩
  subst hs
  have hM : spec_l5Locked_L1_b a0 a1 s1 = some c1 := hM
  unfold spec_l5Locked_L1_b at hM
  rcases cond_cases hM with ⟨h2, hM⟩ | ⟨h2, hM⟩
  · obtain ⟨v3, h4, hM⟩ := bind_some hM
    rcases cond_cases hM with ⟨h5, hM⟩ | ⟨h5, hM⟩
    · obtain ⟨v6, h7, hM⟩ := bind_some hM
      obtain ⟨v8, h9, hM⟩ := bind_some hM
      rcases cond_cases hM with ⟨h10, hM⟩ | ⟨h10, hM⟩
      · have hE : some (Ctl.ret true) = some c1 := hM
        have hE := Option.some.inj hE
        subst hE
        have hE : some true = some r := hK1
        have hE := Option.some.inj hE
        subst hE
        exact pr R 9999 [.ln (a0.length), .as 9 true, .ix (Thing.enc v3), .as 17 true, .ix (Thing.enc v6), .call false [] (.o (.c (.v (.bool v8)))) [] [], .as 26 true] [] [] [] (And.intro (lenm Thing.enc a0) (And.intro h2 (And.intro (gi_map Thing.enc h4) (And.intro h5 (And.intro (gi_map Thing.enc h7) (And.intro (spec_l5Around_ok a0 a1 v6.Id v8 h9) (And.intro h10 True.intro))))))) (by kernel_rfl)
      · have hE : some (Ctl.next (w64 (s1 + 1))) = some c1 := hM
        have hE := Option.some.inj hE
        subst hE
        exact pc R 9999 [.ln (a0.length), .as 9 true, .ix (Thing.enc v3), .as 17 true, .ix (Thing.enc v6), .call false [] (.o (.c (.v (.bool v8)))) [] [], .as 26 false] [.keep [0, 1, 5] []] (And.intro (lenm Thing.enc a0) (And.intro h2 (And.intro (gi_map Thing.enc h4) (And.intro h5 (And.intro (gi_map Thing.enc h7) (And.intro (spec_l5Around_ok a0 a1 v6.Id v8 h9) (And.intro h10 True.intro))))))) (by kernel_rfl) (li (Sf := spec_l5Locked_L1_S a0 a1) (M := Mk (spec_l5Locked_L1 a0 a1) (spec_l5Locked_L1_k) r) (k := [.blk 0, .code (cAt Tryd.f63 [1, 1])]) (Nat.lt_succ_self m1) hK1)
    · have hE : some (Ctl.next (w64 (s1 + 1))) = some c1 := hM
      have hE := Option.some.inj hE
      subst hE
      exact pc R 9999 [.ln (a0.length), .as 9 true, .ix (Thing.enc v3), .as 17 false] [.keep [0, 1, 5] []] (And.intro (lenm Thing.enc a0) (And.intro h2 (And.intro (gi_map Thing.enc h4) (And.intro h5 True.intro)))) (by kernel_rfl) (li (Sf := spec_l5Locked_L1_S a0 a1) (M := Mk (spec_l5Locked_L1 a0 a1) (spec_l5Locked_L1_k) r) (k := [.blk 0, .code (cAt Tryd.f63 [1, 1])]) (Nat.lt_succ_self m1) hK1)
  · have hE : some (Ctl.brk ()) = some c1 := hM
    have hE := Option.some.inj hE
    subst hE
    exact pc R 5 [.ln (a0.length), .as 9 false] [.keep [] []] (And.intro (lenm Thing.enc a0) (And.intro h2 True.intro)) (by kernel_rfl) (K1 () hK1)

-- loop.example/g03014/spec.PutInto
def spec_PutInto_L1_b (a0 : (List Thing)) (a2 : Int) (v1 : (List Thing)) (v3 : Int) (v28 : Thing) (s30 : Int) : Option (Ctl Int Unit ((List Thing) × Int)) :=
  bif (decide (s30 < ((List.set v1 (Int.toNat v3) (Thing.mk v28.Id v28.Own v28.Room a2 v28.Box v28.Sealed)).length : Int))) then
  (gi (List.set v1 (Int.toNat v3) (Thing.mk v28.Id v28.Own v28.Room a2 v28.Box v28.Sealed)) s30).bind fun v37 =>
  (spec_l5Depth (List.set v1 (Int.toNat v3) (Thing.mk v28.Id v28.Own v28.Room a2 v28.Box v28.Sealed)) v37.Id).bind fun v39 =>
  bif (decide (v39 > 4)) then
  (spec_l5Copy a0).bind fun v42 =>
  some (.ret (v42, 4))
  else
  some (.next (w64 (s30 + 1)))
  else
  some (.brk ())
def spec_PutInto_L1 (a0 : (List Thing)) (a2 : Int) (v1 : (List Thing)) (v3 : Int) (v28 : Thing) (s : Int) : Option (Ctl Int Unit ((List Thing) × Int)) := spec_PutInto_L1_b a0 a2 v1 v3 v28 s
def spec_PutInto_L1_s (a0 : (List Thing)) (a2 : Int) (v1 : (List Thing)) (v3 : Int) (v28 : Thing) (s30 : Int) : St := ⟨[(0, .o (.c (.rs 6 (a0.map Thing.enc)))), (8, .o (.c (.sl 0))), (11, .o (.c (.v (.int .i64 s30))))], [(0, .row 37 6 ((List.set v1 (Int.toNat v3) (Thing.mk v28.Id v28.Own v28.Room a2 v28.Box v28.Sealed)).map Thing.enc))]⟩
def spec_PutInto_L1_S (a0 : (List Thing)) (a2 : Int) (v1 : (List Thing)) (v3 : Int) (v28 : Thing) (s : Int) : St := spec_PutInto_L1_s a0 a2 v1 v3 v28 s
def spec_PutInto_L1_a (a0 : (List Thing)) (a2 : Int) (v1 : (List Thing)) (v3 : Int) (v28 : Thing) : Option ((List Thing) × Int) :=
  (spec_AreThings (List.set v1 (Int.toNat v3) (Thing.mk v28.Id v28.Own v28.Room a2 v28.Box v28.Sealed))).bind fun v31 =>
  bif (!v31) then
  (spec_l5Copy a0).bind fun v34 =>
  some (v34, 5)
  else
  some (List.set v1 (Int.toNat v3) (Thing.mk v28.Id v28.Own v28.Room a2 v28.Box v28.Sealed), 0)
def spec_PutInto_L1_k (a0 : (List Thing)) (a2 : Int) (v1 : (List Thing)) (v3 : Int) (v28 : Thing) (x : (Unit) ⊕ ((List Thing) × Int)) : Option ((List Thing) × Int) := match x with
  | .inl t => spec_PutInto_L1_a a0 a2 v1 v3 v28
  | .inr y => some y
def spec_PutInto (a0 : (List Thing)) (a1 : Int) (a2 : Int) : Option ((List Thing) × Int) :=
  (spec_l5Copy a0).bind fun v1 =>
  (spec_FindThing a0 a1).bind fun v3 =>
  (spec_FindThing a0 a2).bind fun v5 =>
  (spec_AreThings a0).bind fun v7 =>
  bif (!v7) then
  some (v1, 1)
  else
  bif (decide (v3 < 0)) then
  some (v1, 1)
  else
  bif (decide (v5 < 0)) then
  some (v1, 1)
  else
  (gi a0 v5).bind fun v12 =>
  bif (!v12.Box) then
  some (v1, 1)
  else
  (spec_l5Locked a0 a1).bind fun v15 =>
  bif v15 then
  some (v1, 2)
  else
  (spec_l5Locked a0 a2).bind fun v18 =>
  bif v18 then
  some (v1, 2)
  else
  (gi a0 v5).bind fun v21 =>
  bif v21.Sealed then
  some (v1, 2)
  else
  bif (a1 == a2) then
  some (v1, 3)
  else
  (spec_l5Around a0 a2 a1).bind fun v25 =>
  bif v25 then
  some (v1, 3)
  else
  (gi v1 v3).bind fun v28 =>
  (loopM (spec_PutInto_L1 a0 a2 v1 v3 v28) big 0).bind (spec_PutInto_L1_k a0 a2 v1 v3 v28)
theorem spec_PutInto_ok (a0 : (List Thing)) (a1 : Int) (a2 : Int) (r : (List Thing) × Int) (hM : spec_PutInto a0 a1 a2 = some r) :
    Con Tryd.prog 56 [.c (.rs 6 (a0.map Thing.enc)), .c (.v (.int .i64 a1)), .c (.v (.int .i64 a2))] [] (.tup [.c (.sl 1000), .c (.v (.int .i64 r.2))]) [] [(1000, .row 37 6 (r.1.map Thing.enc))] := by
  unfold spec_PutInto at hM
  refine cn (N := 96) (pids := []) Tryd_mixed Tryd.func56 (by kernel_rfl) (by kernel_rfl) (by kernel_rfl) rfl fun ρ g w R => ?_
  obtain ⟨v1, h2, hM⟩ := bind_some hM
  obtain ⟨v3, h4, hM⟩ := bind_some hM
  obtain ⟨v5, h6, hM⟩ := bind_some hM
  obtain ⟨v7, h8, hM⟩ := bind_some hM
  rcases cond_cases hM with ⟨h9, hM⟩ | ⟨h9, hM⟩
  · have hE : some (v1, 1) = some r := hM
    have hE := Option.some.inj hE
    subst hE
    exact pr R 9999 [.call false [] (.o (.c (.sl 0))) [] [(0, .row 37 6 (v1.map Thing.enc))], .call false [] (.o (.c (.v (.int .i64 v3)))) [] [], .call false [] (.o (.c (.v (.int .i64 v5)))) [] [], .call false [] (.o (.c (.v (.bool v7)))) [] [], .as 24 true] [.sw 0 1000] [] [1000] (And.intro (And.intro (con_sw 1000 0 (spec_l5Copy_ok a0 v1 h2)) (rfl : ([] : List Nat) = [])) (And.intro (spec_FindThing_ok a0 a1 v3 h4) (And.intro (spec_FindThing_ok a0 a2 v5 h6) (And.intro (spec_AreThings_ok a0 v7 h8) (And.intro h9 True.intro))))) (by kernel_rfl)
  · rcases cond_cases hM with ⟨h10, hM⟩ | ⟨h10, hM⟩
    · have hE : some (v1, 1) = some r := hM
      have hE := Option.some.inj hE
      subst hE
      exact pr R 9999 [.call false [] (.o (.c (.sl 0))) [] [(0, .row 37 6 (v1.map Thing.enc))], .call false [] (.o (.c (.v (.int .i64 v3)))) [] [], .call false [] (.o (.c (.v (.int .i64 v5)))) [] [], .call false [] (.o (.c (.v (.bool v7)))) [] [], .as 24 false, .as 28 true] [.sw 0 1000] [] [1000] (And.intro (And.intro (con_sw 1000 0 (spec_l5Copy_ok a0 v1 h2)) (rfl : ([] : List Nat) = [])) (And.intro (spec_FindThing_ok a0 a1 v3 h4) (And.intro (spec_FindThing_ok a0 a2 v5 h6) (And.intro (spec_AreThings_ok a0 v7 h8) (And.intro h9 (And.intro h10 True.intro)))))) (by kernel_rfl)
    · rcases cond_cases hM with ⟨h11, hM⟩ | ⟨h11, hM⟩
      · have hE : some (v1, 1) = some r := hM
        have hE := Option.some.inj hE
        subst hE
        exact pr R 9999 [.call false [] (.o (.c (.sl 0))) [] [(0, .row 37 6 (v1.map Thing.enc))], .call false [] (.o (.c (.v (.int .i64 v3)))) [] [], .call false [] (.o (.c (.v (.int .i64 v5)))) [] [], .call false [] (.o (.c (.v (.bool v7)))) [] [], .as 24 false, .as 28 false, .as 32 true] [.sw 0 1000] [] [1000] (And.intro (And.intro (con_sw 1000 0 (spec_l5Copy_ok a0 v1 h2)) (rfl : ([] : List Nat) = [])) (And.intro (spec_FindThing_ok a0 a1 v3 h4) (And.intro (spec_FindThing_ok a0 a2 v5 h6) (And.intro (spec_AreThings_ok a0 v7 h8) (And.intro h9 (And.intro h10 (And.intro h11 True.intro))))))) (by kernel_rfl)
      · obtain ⟨v12, h13, hM⟩ := bind_some hM
        rcases cond_cases hM with ⟨h14, hM⟩ | ⟨h14, hM⟩
        · have hE : some (v1, 1) = some r := hM
          have hE := Option.some.inj hE
          subst hE
          exact pr R 9999 [.call false [] (.o (.c (.sl 0))) [] [(0, .row 37 6 (v1.map Thing.enc))], .call false [] (.o (.c (.v (.int .i64 v3)))) [] [], .call false [] (.o (.c (.v (.int .i64 v5)))) [] [], .call false [] (.o (.c (.v (.bool v7)))) [] [], .as 24 false, .as 28 false, .as 32 false, .ix (Thing.enc v12), .as 20 true] [.sw 0 1000] [] [1000] (And.intro (And.intro (con_sw 1000 0 (spec_l5Copy_ok a0 v1 h2)) (rfl : ([] : List Nat) = [])) (And.intro (spec_FindThing_ok a0 a1 v3 h4) (And.intro (spec_FindThing_ok a0 a2 v5 h6) (And.intro (spec_AreThings_ok a0 v7 h8) (And.intro h9 (And.intro h10 (And.intro h11 (And.intro (gi_map Thing.enc h13) (And.intro h14 True.intro))))))))) (by kernel_rfl)
        · obtain ⟨v15, h16, hM⟩ := bind_some hM
          rcases cond_cases hM with ⟨h17, hM⟩ | ⟨h17, hM⟩
          · have hE : some (v1, 2) = some r := hM
            have hE := Option.some.inj hE
            subst hE
            exact pr R 9999 [.call false [] (.o (.c (.sl 0))) [] [(0, .row 37 6 (v1.map Thing.enc))], .call false [] (.o (.c (.v (.int .i64 v3)))) [] [], .call false [] (.o (.c (.v (.int .i64 v5)))) [] [], .call false [] (.o (.c (.v (.bool v7)))) [] [], .as 24 false, .as 28 false, .as 32 false, .ix (Thing.enc v12), .as 20 false, .call false [] (.o (.c (.v (.bool v15)))) [] [], .as 45 true] [.sw 0 1000] [] [1000] (And.intro (And.intro (con_sw 1000 0 (spec_l5Copy_ok a0 v1 h2)) (rfl : ([] : List Nat) = [])) (And.intro (spec_FindThing_ok a0 a1 v3 h4) (And.intro (spec_FindThing_ok a0 a2 v5 h6) (And.intro (spec_AreThings_ok a0 v7 h8) (And.intro h9 (And.intro h10 (And.intro h11 (And.intro (gi_map Thing.enc h13) (And.intro h14 (And.intro (spec_l5Locked_ok a0 a1 v15 h16) (And.intro h17 True.intro))))))))))) (by kernel_rfl)
          · obtain ⟨v18, h19, hM⟩ := bind_some hM
            rcases cond_cases hM with ⟨h20, hM⟩ | ⟨h20, hM⟩
            · have hE : some (v1, 2) = some r := hM
              have hE := Option.some.inj hE
              subst hE
              exact pr R 9999 [.call false [] (.o (.c (.sl 0))) [] [(0, .row 37 6 (v1.map Thing.enc))], .call false [] (.o (.c (.v (.int .i64 v3)))) [] [], .call false [] (.o (.c (.v (.int .i64 v5)))) [] [], .call false [] (.o (.c (.v (.bool v7)))) [] [], .as 24 false, .as 28 false, .as 32 false, .ix (Thing.enc v12), .as 20 false, .call false [] (.o (.c (.v (.bool v15)))) [] [], .as 45 false, .call false [] (.o (.c (.v (.bool v18)))) [] [], .as 50 true] [.sw 0 1000] [] [1000] (And.intro (And.intro (con_sw 1000 0 (spec_l5Copy_ok a0 v1 h2)) (rfl : ([] : List Nat) = [])) (And.intro (spec_FindThing_ok a0 a1 v3 h4) (And.intro (spec_FindThing_ok a0 a2 v5 h6) (And.intro (spec_AreThings_ok a0 v7 h8) (And.intro h9 (And.intro h10 (And.intro h11 (And.intro (gi_map Thing.enc h13) (And.intro h14 (And.intro (spec_l5Locked_ok a0 a1 v15 h16) (And.intro h17 (And.intro (spec_l5Locked_ok a0 a2 v18 h19) (And.intro h20 True.intro))))))))))))) (by kernel_rfl)
            · obtain ⟨v21, h22, hM⟩ := bind_some hM
              rcases cond_cases hM with ⟨h23, hM⟩ | ⟨h23, hM⟩
              · have hE : some (v1, 2) = some r := hM
                have hE := Option.some.inj hE
                subst hE
                exact pr R 9999 [.call false [] (.o (.c (.sl 0))) [] [(0, .row 37 6 (v1.map Thing.enc))], .call false [] (.o (.c (.v (.int .i64 v3)))) [] [], .call false [] (.o (.c (.v (.int .i64 v5)))) [] [], .call false [] (.o (.c (.v (.bool v7)))) [] [], .as 24 false, .as 28 false, .as 32 false, .ix (Thing.enc v12), .as 20 false, .call false [] (.o (.c (.v (.bool v15)))) [] [], .as 45 false, .call false [] (.o (.c (.v (.bool v18)))) [] [], .as 50 false, .ix (Thing.enc v21), .as 41 true] [.sw 0 1000] [] [1000] (And.intro (And.intro (con_sw 1000 0 (spec_l5Copy_ok a0 v1 h2)) (rfl : ([] : List Nat) = [])) (And.intro (spec_FindThing_ok a0 a1 v3 h4) (And.intro (spec_FindThing_ok a0 a2 v5 h6) (And.intro (spec_AreThings_ok a0 v7 h8) (And.intro h9 (And.intro h10 (And.intro h11 (And.intro (gi_map Thing.enc h13) (And.intro h14 (And.intro (spec_l5Locked_ok a0 a1 v15 h16) (And.intro h17 (And.intro (spec_l5Locked_ok a0 a2 v18 h19) (And.intro h20 (And.intro (gi_map Thing.enc h22) (And.intro h23 True.intro))))))))))))))) (by kernel_rfl)
              · rcases cond_cases hM with ⟨h24, hM⟩ | ⟨h24, hM⟩
                · have hE : some (v1, 3) = some r := hM
                  have hE := Option.some.inj hE
                  subst hE
                  exact pr R 9999 [.call false [] (.o (.c (.sl 0))) [] [(0, .row 37 6 (v1.map Thing.enc))], .call false [] (.o (.c (.v (.int .i64 v3)))) [] [], .call false [] (.o (.c (.v (.int .i64 v5)))) [] [], .call false [] (.o (.c (.v (.bool v7)))) [] [], .as 24 false, .as 28 false, .as 32 false, .ix (Thing.enc v12), .as 20 false, .call false [] (.o (.c (.v (.bool v15)))) [] [], .as 45 false, .call false [] (.o (.c (.v (.bool v18)))) [] [], .as 50 false, .ix (Thing.enc v21), .as 41 false, .as 62 true] [.sw 0 1000] [] [1000] (And.intro (And.intro (con_sw 1000 0 (spec_l5Copy_ok a0 v1 h2)) (rfl : ([] : List Nat) = [])) (And.intro (spec_FindThing_ok a0 a1 v3 h4) (And.intro (spec_FindThing_ok a0 a2 v5 h6) (And.intro (spec_AreThings_ok a0 v7 h8) (And.intro h9 (And.intro h10 (And.intro h11 (And.intro (gi_map Thing.enc h13) (And.intro h14 (And.intro (spec_l5Locked_ok a0 a1 v15 h16) (And.intro h17 (And.intro (spec_l5Locked_ok a0 a2 v18 h19) (And.intro h20 (And.intro (gi_map Thing.enc h22) (And.intro h23 (And.intro h24 True.intro)))))))))))))))) (by kernel_rfl)
                · obtain ⟨v25, h26, hM⟩ := bind_some hM
                  rcases cond_cases hM with ⟨h27, hM⟩ | ⟨h27, hM⟩
                  · have hE : some (v1, 3) = some r := hM
                    have hE := Option.some.inj hE
                    subst hE
                    exact pr R 9999 [.call false [] (.o (.c (.sl 0))) [] [(0, .row 37 6 (v1.map Thing.enc))], .call false [] (.o (.c (.v (.int .i64 v3)))) [] [], .call false [] (.o (.c (.v (.int .i64 v5)))) [] [], .call false [] (.o (.c (.v (.bool v7)))) [] [], .as 24 false, .as 28 false, .as 32 false, .ix (Thing.enc v12), .as 20 false, .call false [] (.o (.c (.v (.bool v15)))) [] [], .as 45 false, .call false [] (.o (.c (.v (.bool v18)))) [] [], .as 50 false, .ix (Thing.enc v21), .as 41 false, .as 62 false, .call false [] (.o (.c (.v (.bool v25)))) [] [], .as 58 true] [.sw 0 1000] [] [1000] (And.intro (And.intro (con_sw 1000 0 (spec_l5Copy_ok a0 v1 h2)) (rfl : ([] : List Nat) = [])) (And.intro (spec_FindThing_ok a0 a1 v3 h4) (And.intro (spec_FindThing_ok a0 a2 v5 h6) (And.intro (spec_AreThings_ok a0 v7 h8) (And.intro h9 (And.intro h10 (And.intro h11 (And.intro (gi_map Thing.enc h13) (And.intro h14 (And.intro (spec_l5Locked_ok a0 a1 v15 h16) (And.intro h17 (And.intro (spec_l5Locked_ok a0 a2 v18 h19) (And.intro h20 (And.intro (gi_map Thing.enc h22) (And.intro h23 (And.intro h24 (And.intro (spec_l5Around_ok a0 a2 a1 v25 h26) (And.intro h27 True.intro)))))))))))))))))) (by kernel_rfl)
                  · obtain ⟨v28, h29, hM⟩ := bind_some hM
                    have K1 : ∀ (_ : Unit), spec_PutInto_L1_a a0 a2 v1 v3 v28 = some r → Gr R [.code (cAt Tryd.f56 [1, 1, 1, 1, 1, 1, 1])] (⟨[(0, .o (.c (.rs 6 (a0.map Thing.enc)))), (8, .o (.c (.sl 0)))], [(0, .row 37 6 ((List.set v1 (Int.toNat v3) (Thing.mk v28.Id v28.Own v28.Room a2 v28.Box v28.Sealed)).map Thing.enc))]⟩) := by
                      intro _ hM
                      unfold spec_PutInto_L1_a at hM
                      obtain ⟨v31, h32, hM⟩ := bind_some hM
                      rcases cond_cases hM with ⟨h33, hM⟩ | ⟨h33, hM⟩
                      · obtain ⟨v34, h35, hM⟩ := bind_some hM
                        have hE : some (v34, 5) = some r := hM
                        have hE := Option.some.inj hE
                        subst hE
                        exact pr R 9999 [.call false [] (.o (.c (.v (.bool v31)))) [] [], .as 92 true, .call false [] (.o (.c (.sl 1))) [] [(1, .row 37 6 (v34.map Thing.enc))]] [.sw 1 1000] [] [1000] (And.intro (spec_AreThings_ok (List.set v1 (Int.toNat v3) (Thing.mk v28.Id v28.Own v28.Room a2 v28.Box v28.Sealed)) v31 h32) (And.intro h33 (And.intro (And.intro (con_sw 1000 1 (spec_l5Copy_ok a0 v34 h35)) (rfl : ([] : List Nat) = [])) True.intro))) (by kernel_rfl)
                      · have hE : some (List.set v1 (Int.toNat v3) (Thing.mk v28.Id v28.Own v28.Room a2 v28.Box v28.Sealed), 0) = some r := hM
                        have hE := Option.some.inj hE
                        subst hE
                        exact pr R 9999 [.call false [] (.o (.c (.v (.bool v31)))) [] [], .as 92 false] [.sw 0 1000] [] [1000] (And.intro (spec_AreThings_ok (List.set v1 (Int.toNat v3) (Thing.mk v28.Id v28.Own v28.Room a2 v28.Box v28.Sealed)) v31 h32) (And.intro h33 True.intro)) (by kernel_rfl)
                    refine pc R 9999 [.call false [] (.o (.c (.sl 0))) [] [(0, .row 37 6 (v1.map Thing.enc))], .call false [] (.o (.c (.v (.int .i64 v3)))) [] [], .call false [] (.o (.c (.v (.int .i64 v5)))) [] [], .call false [] (.o (.c (.v (.bool v7)))) [] [], .as 24 false, .as 28 false, .as 32 false, .ix (Thing.enc v12), .as 20 false, .call false [] (.o (.c (.v (.bool v15)))) [] [], .as 45 false, .call false [] (.o (.c (.v (.bool v18)))) [] [], .as 50 false, .ix (Thing.enc v21), .as 41 false, .as 62 false, .call false [] (.o (.c (.v (.bool v25)))) [] [], .as 58 false, .ix (Thing.enc v28), .nm ((List.set v1 (Int.toNat v3) (Thing.mk v28.Id v28.Own v28.Room a2 v28.Box v28.Sealed)).map Thing.enc)] [.keep [0, 8, 11] [0]] (k' := [.code (.loop (cAt Tryd.f56 [1, 1, 1, 1, 1, 1, 0, 1, 0, 0])), .blk 1, .code (cAt Tryd.f56 [1, 1, 1, 1, 1, 1, 1])]) (S' := spec_PutInto_L1_S a0 a2 v1 v3 v28 0) (And.intro (And.intro (con_sw 1000 0 (spec_l5Copy_ok a0 v1 h2)) (rfl : ([] : List Nat) = [])) (And.intro (spec_FindThing_ok a0 a1 v3 h4) (And.intro (spec_FindThing_ok a0 a2 v5 h6) (And.intro (spec_AreThings_ok a0 v7 h8) (And.intro h9 (And.intro h10 (And.intro h11 (And.intro (gi_map Thing.enc h13) (And.intro h14 (And.intro (spec_l5Locked_ok a0 a1 v15 h16) (And.intro h17 (And.intro (spec_l5Locked_ok a0 a2 v18 h19) (And.intro h20 (And.intro (gi_map Thing.enc h22) (And.intro h23 (And.intro h24 (And.intro (spec_l5Around_ok a0 a2 a1 v25 h26) (And.intro h27 (And.intro (gi_lt Thing.enc h29) (And.intro (And.intro (gi_map Thing.enc h29).2 (set_map Thing.enc v1 (Int.toNat v3) (Thing.mk v28.Id v28.Own v28.Room a2 v28.Box v28.Sealed))) True.intro)))))))))))))))))))) (by kernel_rfl) ?_
                    refine lq (spec_PutInto_L1_S a0 a2 v1 v3 v28) (body := spec_PutInto_L1 a0 a2 v1 v3 v28) (k := spec_PutInto_L1_k a0 a2 v1 v3 v28) hM fun m1 s c1 hM hK1 => ?_
                    obtain ⟨s30, hs⟩ : ∃ z, z = s := ⟨_, rfl⟩
                    subst hs
                    have hM : spec_PutInto_L1_b a0 a2 v1 v3 v28 s30 = some c1 := hM
                    unfold spec_PutInto_L1_b at hM
                    rcases cond_cases hM with ⟨h36, hM⟩ | ⟨h36, hM⟩
                    · obtain ⟨v37, h38, hM⟩ := bind_some hM
                      obtain ⟨v39, h40, hM⟩ := bind_some hM
                      rcases cond_cases hM with ⟨h41, hM⟩ | ⟨h41, hM⟩
                      · obtain ⟨v42, h43, hM⟩ := bind_some hM
                        have hE : some (Ctl.ret (v42, 4)) = some c1 := hM
                        have hE := Option.some.inj hE
                        subst hE
                        have hE : some (v42, 4) = some r := hK1
                        have hE := Option.some.inj hE
                        subst hE
                        exact pr R 9999 [.ln ((List.set v1 (Int.toNat v3) (Thing.mk v28.Id v28.Own v28.Room a2 v28.Box v28.Sealed)).length), .as 77 true, .ix (Thing.enc v37), .call false [] (.o (.c (.v (.int .i64 v39)))) [] [], .as 87 true, .call false [] (.o (.c (.sl 2))) [] [(2, .row 37 6 (v42.map Thing.enc))]] [.sw 2 1000] [] [1000] (And.intro (lenm Thing.enc (List.set v1 (Int.toNat v3) (Thing.mk v28.Id v28.Own v28.Room a2 v28.Box v28.Sealed))) (And.intro h36 (And.intro (gi_lt Thing.enc h38) (And.intro ((gi_map Thing.enc h38).2) (And.intro (spec_l5Depth_ok (List.set v1 (Int.toNat v3) (Thing.mk v28.Id v28.Own v28.Room a2 v28.Box v28.Sealed)) v37.Id v39 h40) (And.intro h41 (And.intro (And.intro (con_sw 1000 2 (spec_l5Copy_ok a0 v42 h43)) (rfl : ([] : List Nat) = [])) True.intro))))))) (by kernel_rfl)
                      · have hE : some (Ctl.next (w64 (s30 + 1))) = some c1 := hM
                        have hE := Option.some.inj hE
                        subst hE
                        exact pc R 9999 [.ln ((List.set v1 (Int.toNat v3) (Thing.mk v28.Id v28.Own v28.Room a2 v28.Box v28.Sealed)).length), .as 77 true, .ix (Thing.enc v37), .call false [] (.o (.c (.v (.int .i64 v39)))) [] [], .as 87 false] [.keep [0, 8, 11] [0]] (And.intro (lenm Thing.enc (List.set v1 (Int.toNat v3) (Thing.mk v28.Id v28.Own v28.Room a2 v28.Box v28.Sealed))) (And.intro h36 (And.intro (gi_lt Thing.enc h38) (And.intro ((gi_map Thing.enc h38).2) (And.intro (spec_l5Depth_ok (List.set v1 (Int.toNat v3) (Thing.mk v28.Id v28.Own v28.Room a2 v28.Box v28.Sealed)) v37.Id v39 h40) (And.intro h41 True.intro)))))) (by kernel_rfl) (li (Sf := spec_PutInto_L1_S a0 a2 v1 v3 v28) (M := Mk (spec_PutInto_L1 a0 a2 v1 v3 v28) (spec_PutInto_L1_k a0 a2 v1 v3 v28) r) (k := [.blk 1, .code (cAt Tryd.f56 [1, 1, 1, 1, 1, 1, 1])]) (Nat.lt_succ_self m1) hK1)
                    · have hE : some (Ctl.brk ()) = some c1 := hM
                      have hE := Option.some.inj hE
                      subst hE
                      exact pc R 5 [.ln ((List.set v1 (Int.toNat v3) (Thing.mk v28.Id v28.Own v28.Room a2 v28.Box v28.Sealed)).length), .as 77 false] [.keep [0, 8] [0]] (And.intro (lenm Thing.enc (List.set v1 (Int.toNat v3) (Thing.mk v28.Id v28.Own v28.Room a2 v28.Box v28.Sealed))) (And.intro h36 True.intro)) (by kernel_rfl) (K1 () hK1)

-- loop.example/g03014/spec.SealBox
def spec_SealBox (a0 : (List Thing)) (a1 : Int) (a2 : Bool) : Option ((List Thing) × Int) :=
  (spec_l5Copy a0).bind fun v1 =>
  (spec_FindThing a0 a1).bind fun v3 =>
  (spec_AreThings a0).bind fun v5 =>
  bif (!v5) then
  some (v1, 1)
  else
  bif (decide (v3 < 0)) then
  some (v1, 1)
  else
  (gi a0 v3).bind fun v9 =>
  bif (!v9.Box) then
  some (v1, 1)
  else
  (spec_l5Locked a0 a1).bind fun v12 =>
  bif v12 then
  some (v1, 2)
  else
  (gi v1 v3).bind fun v15 =>
  some (List.set v1 (Int.toNat v3) (Thing.mk v15.Id v15.Own v15.Room v15.In v15.Box a2), 0)
theorem spec_SealBox_ok (a0 : (List Thing)) (a1 : Int) (a2 : Bool) (r : (List Thing) × Int) (hM : spec_SealBox a0 a1 a2 = some r) :
    Con Tryd.prog 57 [.c (.rs 6 (a0.map Thing.enc)), .c (.v (.int .i64 a1)), .c (.v (.bool a2))] [] (.tup [.c (.sl 1000), .c (.v (.int .i64 r.2))]) [] [(1000, .row 37 6 (r.1.map Thing.enc))] := by
  unfold spec_SealBox at hM
  refine cn (N := 43) (pids := []) Tryd_mixed Tryd.func57 (by kernel_rfl) (by kernel_rfl) (by kernel_rfl) rfl fun ρ g w R => ?_
  obtain ⟨v1, h2, hM⟩ := bind_some hM
  obtain ⟨v3, h4, hM⟩ := bind_some hM
  obtain ⟨v5, h6, hM⟩ := bind_some hM
  rcases cond_cases hM with ⟨h7, hM⟩ | ⟨h7, hM⟩
  · have hE : some (v1, 1) = some r := hM
    have hE := Option.some.inj hE
    subst hE
    exact pr R 9999 [.call false [] (.o (.c (.sl 0))) [] [(0, .row 37 6 (v1.map Thing.enc))], .call false [] (.o (.c (.v (.int .i64 v3)))) [] [], .call false [] (.o (.c (.v (.bool v5)))) [] [], .as 19 true] [.sw 0 1000] [] [1000] (And.intro (And.intro (con_sw 1000 0 (spec_l5Copy_ok a0 v1 h2)) (rfl : ([] : List Nat) = [])) (And.intro (spec_FindThing_ok a0 a1 v3 h4) (And.intro (spec_AreThings_ok a0 v5 h6) (And.intro h7 True.intro)))) (by kernel_rfl)
  · rcases cond_cases hM with ⟨h8, hM⟩ | ⟨h8, hM⟩
    · have hE : some (v1, 1) = some r := hM
      have hE := Option.some.inj hE
      subst hE
      exact pr R 9999 [.call false [] (.o (.c (.sl 0))) [] [(0, .row 37 6 (v1.map Thing.enc))], .call false [] (.o (.c (.v (.int .i64 v3)))) [] [], .call false [] (.o (.c (.v (.bool v5)))) [] [], .as 19 false, .as 23 true] [.sw 0 1000] [] [1000] (And.intro (And.intro (con_sw 1000 0 (spec_l5Copy_ok a0 v1 h2)) (rfl : ([] : List Nat) = [])) (And.intro (spec_FindThing_ok a0 a1 v3 h4) (And.intro (spec_AreThings_ok a0 v5 h6) (And.intro h7 (And.intro h8 True.intro))))) (by kernel_rfl)
    · obtain ⟨v9, h10, hM⟩ := bind_some hM
      rcases cond_cases hM with ⟨h11, hM⟩ | ⟨h11, hM⟩
      · have hE : some (v1, 1) = some r := hM
        have hE := Option.some.inj hE
        subst hE
        exact pr R 9999 [.call false [] (.o (.c (.sl 0))) [] [(0, .row 37 6 (v1.map Thing.enc))], .call false [] (.o (.c (.v (.int .i64 v3)))) [] [], .call false [] (.o (.c (.v (.bool v5)))) [] [], .as 19 false, .as 23 false, .ix (Thing.enc v9), .as 15 true] [.sw 0 1000] [] [1000] (And.intro (And.intro (con_sw 1000 0 (spec_l5Copy_ok a0 v1 h2)) (rfl : ([] : List Nat) = [])) (And.intro (spec_FindThing_ok a0 a1 v3 h4) (And.intro (spec_AreThings_ok a0 v5 h6) (And.intro h7 (And.intro h8 (And.intro (gi_map Thing.enc h10) (And.intro h11 True.intro))))))) (by kernel_rfl)
      · obtain ⟨v12, h13, hM⟩ := bind_some hM
        rcases cond_cases hM with ⟨h14, hM⟩ | ⟨h14, hM⟩
        · have hE : some (v1, 2) = some r := hM
          have hE := Option.some.inj hE
          subst hE
          exact pr R 9999 [.call false [] (.o (.c (.sl 0))) [] [(0, .row 37 6 (v1.map Thing.enc))], .call false [] (.o (.c (.v (.int .i64 v3)))) [] [], .call false [] (.o (.c (.v (.bool v5)))) [] [], .as 19 false, .as 23 false, .ix (Thing.enc v9), .as 15 false, .call false [] (.o (.c (.v (.bool v12)))) [] [], .as 32 true] [.sw 0 1000] [] [1000] (And.intro (And.intro (con_sw 1000 0 (spec_l5Copy_ok a0 v1 h2)) (rfl : ([] : List Nat) = [])) (And.intro (spec_FindThing_ok a0 a1 v3 h4) (And.intro (spec_AreThings_ok a0 v5 h6) (And.intro h7 (And.intro h8 (And.intro (gi_map Thing.enc h10) (And.intro h11 (And.intro (spec_l5Locked_ok a0 a1 v12 h13) (And.intro h14 True.intro))))))))) (by kernel_rfl)
        · obtain ⟨v15, h16, hM⟩ := bind_some hM
          have hE : some (List.set v1 (Int.toNat v3) (Thing.mk v15.Id v15.Own v15.Room v15.In v15.Box a2), 0) = some r := hM
          have hE := Option.some.inj hE
          subst hE
          exact pr R 9999 [.call false [] (.o (.c (.sl 0))) [] [(0, .row 37 6 (v1.map Thing.enc))], .call false [] (.o (.c (.v (.int .i64 v3)))) [] [], .call false [] (.o (.c (.v (.bool v5)))) [] [], .as 19 false, .as 23 false, .ix (Thing.enc v9), .as 15 false, .call false [] (.o (.c (.v (.bool v12)))) [] [], .as 32 false, .ix (Thing.enc v15), .nm ((List.set v1 (Int.toNat v3) (Thing.mk v15.Id v15.Own v15.Room v15.In v15.Box a2)).map Thing.enc)] [.sw 0 1000] [] [1000] (And.intro (And.intro (con_sw 1000 0 (spec_l5Copy_ok a0 v1 h2)) (rfl : ([] : List Nat) = [])) (And.intro (spec_FindThing_ok a0 a1 v3 h4) (And.intro (spec_AreThings_ok a0 v5 h6) (And.intro h7 (And.intro h8 (And.intro (gi_map Thing.enc h10) (And.intro h11 (And.intro (spec_l5Locked_ok a0 a1 v12 h13) (And.intro h14 (And.intro (gi_lt Thing.enc h16) (And.intro (And.intro (gi_map Thing.enc h16).2 (set_map Thing.enc v1 (Int.toNat v3) (Thing.mk v15.Id v15.Own v15.Room v15.In v15.Box a2))) True.intro))))))))))) (by kernel_rfl)

-- loop.example/g03014/spec.l5Draw
def spec_l5Draw_L3_b (s26 : (List Int)) (s27 : Int) (s28 : Int) (s29 : (List Thing)) (s30 : Int) : Option (Ctl ((List Int) × Int × Int × (List Thing) × Int) ((List Int) × Int × Int × (List Thing)) ((List Thing) × l1Cur)) :=
  bif (decide (s30 > 0)) then
  (spec_l5Id (l1Cur.mk s26 s27 s28) s29).bind fun v36 =>
  (spec_SealBox s29 v36.1 true).bind fun v38 =>
  some (.next (v36.2.b, v36.2.i, v36.2.h, v38.1, w64 (s30 - 1)))
  else
  some (.brk (s26, s27, s28, s29))
def spec_l5Draw_L3 (s : (List Int) × Int × Int × (List Thing) × Int) : Option (Ctl ((List Int) × Int × Int × (List Thing) × Int) ((List Int) × Int × Int × (List Thing)) ((List Thing) × l1Cur)) := spec_l5Draw_L3_b s.1 s.2.1 s.2.2.1 s.2.2.2.1 s.2.2.2.2
def spec_l5Draw_L3_s (s26 : (List Int)) (s27 : Int) (s28 : Int) (s29 : (List Thing)) (s30 : Int) : St := ⟨[(0, .o (.c (.ptr 900 0))), (5, .o (.c (.sl 0))), (12, .o (.c (.v (.int .i64 s30))))], [(900, .box 66 [.rs 1 (s26.map encU8), .v (.int .i64 s27), .v (.int .i64 s28)]), (0, .row 37 6 (s29.map Thing.enc))]⟩
def spec_l5Draw_L3_S (s : (List Int) × Int × Int × (List Thing) × Int) : St := spec_l5Draw_L3_s s.1 s.2.1 s.2.2.1 s.2.2.2.1 s.2.2.2.2
def spec_l5Draw_L3_a (s31 : (List Int)) (s32 : Int) (s33 : Int) (s34 : (List Thing)) : Option ((List Thing) × l1Cur) :=
  some (s34, (l1Cur.mk s31 s32 s33))
def spec_l5Draw_L3_k (x : ((List Int) × Int × Int × (List Thing)) ⊕ ((List Thing) × l1Cur)) : Option ((List Thing) × l1Cur) := match x with
  | .inl t => spec_l5Draw_L3_a t.1 t.2.1 t.2.2.1 t.2.2.2
  | .inr y => some y
def spec_l5Draw_L2_b (s15 : (List Int)) (s16 : Int) (s17 : Int) (s18 : (List Thing)) (s19 : Int) : Option (Ctl ((List Int) × Int × Int × (List Thing) × Int) ((List Int) × Int × Int × (List Thing)) ((List Thing) × l1Cur)) :=
  bif (decide (s19 > 0)) then
  (spec_l5Id (l1Cur.mk s15 s16 s17) s18).bind fun v41 =>
  (spec_l5Id v41.2 s18).bind fun v43 =>
  (spec_PutInto s18 v41.1 v43.1).bind fun v45 =>
  some (.next (v43.2.b, v43.2.i, v43.2.h, v45.1, w64 (s19 - 1)))
  else
  some (.brk (s15, s16, s17, s18))
def spec_l5Draw_L2 (s : (List Int) × Int × Int × (List Thing) × Int) : Option (Ctl ((List Int) × Int × Int × (List Thing) × Int) ((List Int) × Int × Int × (List Thing)) ((List Thing) × l1Cur)) := spec_l5Draw_L2_b s.1 s.2.1 s.2.2.1 s.2.2.2.1 s.2.2.2.2
def spec_l5Draw_L2_s (s15 : (List Int)) (s16 : Int) (s17 : Int) (s18 : (List Thing)) (s19 : Int) : St := ⟨[(0, .o (.c (.ptr 900 0))), (5, .o (.c (.sl 0))), (9, .o (.c (.v (.int .i64 s19))))], [(900, .box 66 [.rs 1 (s15.map encU8), .v (.int .i64 s16), .v (.int .i64 s17)]), (0, .row 37 6 (s18.map Thing.enc))]⟩
def spec_l5Draw_L2_S (s : (List Int) × Int × Int × (List Thing) × Int) : St := spec_l5Draw_L2_s s.1 s.2.1 s.2.2.1 s.2.2.2.1 s.2.2.2.2
def spec_l5Draw_L2_a (s20 : (List Int)) (s21 : Int) (s22 : Int) (s23 : (List Thing)) : Option ((List Thing) × l1Cur) :=
  (spec_l1Below (l1Cur.mk s20 s21 s22) 3).bind fun v24 =>
  (loopM (spec_l5Draw_L3) big (v24.2.b, v24.2.i, v24.2.h, s23, v24.1)).bind (spec_l5Draw_L3_k)
def spec_l5Draw_L2_k (x : ((List Int) × Int × Int × (List Thing)) ⊕ ((List Thing) × l1Cur)) : Option ((List Thing) × l1Cur) := match x with
  | .inl t => spec_l5Draw_L2_a t.1 t.2.1 t.2.2.1 t.2.2.2
  | .inr y => some y
def spec_l5Draw_j1 (s6 : (List Thing)) (s7 : Int) (s8 : Int) (v48 : (Int × l1Cur)) (v50 : (Int × l1Cur)) (s54 : (List Int)) (s55 : Int) (s56 : Int) (s57 : Int) (s58 : Bool) : Option (Ctl ((List Int) × Int × Int × (List Thing) × Int × Int) ((List Int) × Int × Int × (List Thing)) ((List Thing) × l1Cur)) :=
  (ap 40 s6 ([(Thing.mk ((Thing.mk (w64 ((w64 (s7 + 1)) + v48.1)) (w64 (1 + v50.1)) 0 0 false false).Id) ((Thing.mk (w64 ((w64 (s7 + 1)) + v48.1)) (w64 (1 + v50.1)) 0 0 false false).Own) s57 ((Thing.mk (w64 ((w64 (s7 + 1)) + v48.1)) (w64 (1 + v50.1)) 0 0 false false).In) s58 ((Thing.mk (w64 ((w64 (s7 + 1)) + v48.1)) (w64 (1 + v50.1)) 0 0 false false).Sealed))] : List Thing)).bind fun v59 =>
  some (.next (s54, s55, s56, v59, w64 ((w64 (s7 + 1)) + v48.1), w64 (s8 - 1)))
def spec_l5Draw_L1_b (s3 : (List Int)) (s4 : Int) (s5 : Int) (s6 : (List Thing)) (s7 : Int) (s8 : Int) : Option (Ctl ((List Int) × Int × Int × (List Thing) × Int × Int) ((List Int) × Int × Int × (List Thing)) ((List Thing) × l1Cur)) :=
  bif (decide (s8 > 0)) then
  (spec_l1Below (l1Cur.mk s3 s4 s5) 4).bind fun v48 =>
  (spec_l1Below v48.2 3000).bind fun v50 =>
  (spec_l1Once v50.2 2).bind fun v52 =>
  bif v52.1 then
  (spec_l1Below v52.2 20000).bind fun v62 =>
  spec_l5Draw_j1 s6 s7 s8 v48 v50 v62.2.b v62.2.i v62.2.h (w64 (1 + v62.1)) true
  else
  spec_l5Draw_j1 s6 s7 s8 v48 v50 v52.2.b v52.2.i v52.2.h ((Thing.mk (w64 ((w64 (s7 + 1)) + v48.1)) (w64 (1 + v50.1)) 0 0 false false).Room) ((Thing.mk (w64 ((w64 (s7 + 1)) + v48.1)) (w64 (1 + v50.1)) 0 0 false false).Box)
  else
  some (.brk (s3, s4, s5, s6))
def spec_l5Draw_L1 (s : (List Int) × Int × Int × (List Thing) × Int × Int) : Option (Ctl ((List Int) × Int × Int × (List Thing) × Int × Int) ((List Int) × Int × Int × (List Thing)) ((List Thing) × l1Cur)) := spec_l5Draw_L1_b s.1 s.2.1 s.2.2.1 s.2.2.2.1 s.2.2.2.2.1 s.2.2.2.2.2
def spec_l5Draw_L1_s (s3 : (List Int)) (s4 : Int) (s5 : Int) (s6 : (List Thing)) (s7 : Int) (s8 : Int) : St := ⟨[(0, .o (.c (.ptr 900 0))), (5, .o (.c (.sl 0))), (6, .o (.c (.v (.int .i64 s7)))), (7, .o (.c (.v (.int .i64 s8))))], [(900, .box 66 [.rs 1 (s3.map encU8), .v (.int .i64 s4), .v (.int .i64 s5)]), (0, .row 37 6 (s6.map Thing.enc))]⟩
def spec_l5Draw_L1_S (s : (List Int) × Int × Int × (List Thing) × Int × Int) : St := spec_l5Draw_L1_s s.1 s.2.1 s.2.2.1 s.2.2.2.1 s.2.2.2.2.1 s.2.2.2.2.2
def spec_l5Draw_L1_a (s9 : (List Int)) (s10 : Int) (s11 : Int) (s12 : (List Thing)) : Option ((List Thing) × l1Cur) :=
  (spec_l1Below (l1Cur.mk s9 s10 s11) (w64 (2 * (s12.length : Int)))).bind fun v13 =>
  (loopM (spec_l5Draw_L2) big (v13.2.b, v13.2.i, v13.2.h, s12, v13.1)).bind (spec_l5Draw_L2_k)
def spec_l5Draw_L1_k (x : ((List Int) × Int × Int × (List Thing)) ⊕ ((List Thing) × l1Cur)) : Option ((List Thing) × l1Cur) := match x with
  | .inl t => spec_l5Draw_L1_a t.1 t.2.1 t.2.2.1 t.2.2.2
  | .inr y => some y
def spec_l5Draw (a0 : l1Cur) (a1 : Int) : Option ((List Thing) × l1Cur) :=
  (spec_l1Below a0 a1).bind fun v1 =>
  (loopM (spec_l5Draw_L1) big (v1.2.b, v1.2.i, v1.2.h, ([] : List Thing), 0, w64 (2 + v1.1))).bind (spec_l5Draw_L1_k)
theorem spec_l5Draw_ok (a0 : l1Cur) (a1 : Int) (r : (List Thing) × l1Cur) (hM : spec_l5Draw a0 a1 = some r) :
    Con Tryd.prog 47 [.c (.ptr 900 0), .c (.v (.int .i64 a1))] [(900, .box 66 [.rs 1 (a0.b.map encU8), .v (.int .i64 a0.i), .v (.int .i64 a0.h)])] (.o (.c (.sl 1000))) [(900, .box 66 [.rs 1 (r.2.b.map encU8), .v (.int .i64 r.2.i), .v (.int .i64 r.2.h)])] [(1000, .row 37 6 (r.1.map Thing.enc))] := by
  unfold spec_l5Draw at hM
  refine cn (N := 82) (pids := [900]) Tryd_mixed Tryd.func47 (by kernel_rfl) (by kernel_rfl) (by kernel_rfl) rfl fun ρ g w R => ?_
  obtain ⟨v1, h2, hM⟩ := bind_some hM
  have K1 : ∀ (s9 : (List Int)) (s10 : Int) (s11 : Int) (s12 : (List Thing)), spec_l5Draw_L1_a s9 s10 s11 s12 = some r → Gr R [.code (cAt Tryd.f47 [1, 1, 1, 1])] (⟨[(0, .o (.c (.ptr 900 0))), (5, .o (.c (.sl 0)))], [(900, .box 66 [.rs 1 (s9.map encU8), .v (.int .i64 s10), .v (.int .i64 s11)]), (0, .row 37 6 (s12.map Thing.enc))]⟩) := by
    intro s9 s10 s11 s12 hM
    unfold spec_l5Draw_L1_a at hM
    obtain ⟨v13, h14, hM⟩ := bind_some hM
    have K2 : ∀ (s20 : (List Int)) (s21 : Int) (s22 : Int) (s23 : (List Thing)), spec_l5Draw_L2_a s20 s21 s22 s23 = some r → Gr R [.code (cAt Tryd.f47 [1, 1, 1, 1, 1])] (⟨[(0, .o (.c (.ptr 900 0))), (5, .o (.c (.sl 0)))], [(900, .box 66 [.rs 1 (s20.map encU8), .v (.int .i64 s21), .v (.int .i64 s22)]), (0, .row 37 6 (s23.map Thing.enc))]⟩) := by
      intro s20 s21 s22 s23 hM
      unfold spec_l5Draw_L2_a at hM
      obtain ⟨v24, h25, hM⟩ := bind_some hM
      have K3 : ∀ (s31 : (List Int)) (s32 : Int) (s33 : Int) (s34 : (List Thing)), spec_l5Draw_L3_a s31 s32 s33 s34 = some r → Gr R [.code (cAt Tryd.f47 [1, 1, 1, 1, 1, 1])] (⟨[(0, .o (.c (.ptr 900 0))), (5, .o (.c (.sl 0)))], [(900, .box 66 [.rs 1 (s31.map encU8), .v (.int .i64 s32), .v (.int .i64 s33)]), (0, .row 37 6 (s34.map Thing.enc))]⟩) := by
        intro s31 s32 s33 s34 hM
        unfold spec_l5Draw_L3_a at hM
        have hE : some (s34, (l1Cur.mk s31 s32 s33)) = some r := hM
        have hE := Option.some.inj hE
        subst hE
        exact pr R 9999 [] [.sw 0 1000] [900] [1000] True.intro (by kernel_rfl)
      refine pc R 9999 [.call true [900] (.o (.c (.v (.int .i64 v24.1)))) [(900, .box 66 [.rs 1 (v24.2.b.map encU8), .v (.int .i64 v24.2.i), .v (.int .i64 v24.2.h)])] []] [.keep [0, 5, 12] [900, 0]] (k' := [.code (.loop (cAt Tryd.f47 [1, 1, 1, 1, 1, 0, 1, 0, 0])), .blk 4, .code (cAt Tryd.f47 [1, 1, 1, 1, 1, 1])]) (S' := spec_l5Draw_L3_S (v24.2.b, v24.2.i, v24.2.h, s23, v24.1)) (And.intro (And.intro (con_sw 900 900 (spec_l1Below_ok (l1Cur.mk s20 s21 s22) 3 v24 h25)) (rfl : ([900] : List Nat) = [900])) True.intro) (by kernel_rfl) ?_
      refine lq (spec_l5Draw_L3_S) (body := spec_l5Draw_L3) (k := spec_l5Draw_L3_k) hM fun m3 s c3 hM hK3 => ?_
      obtain ⟨s26, s27, s28, s29, s30⟩ := s
      have hM : spec_l5Draw_L3_b s26 s27 s28 s29 s30 = some c3 := hM
      unfold spec_l5Draw_L3_b at hM
      rcases cond_cases hM with ⟨h35, hM⟩ | ⟨h35, hM⟩
      · obtain ⟨v36, h37, hM⟩ := bind_some hM
        obtain ⟨v38, h39, hM⟩ := bind_some hM
        have hE : some (Ctl.next (v36.2.b, v36.2.i, v36.2.h, v38.1, w64 (s30 - 1))) = some c3 := hM
        have hE := Option.some.inj hE
        subst hE
        exact pc R 9999 [.as 69 true, .ad (.keep [0, 5, 12, 68, 69, 73, 74, 75] [900, 0]), .call true [900, 0] (.o (.c (.v (.int .i64 v36.1)))) [(900, .box 66 [.rs 1 (v36.2.b.map encU8), .v (.int .i64 v36.2.i), .v (.int .i64 v36.2.h)]), (0, .row 37 6 (s29.map Thing.enc))] [], .call false [] (.tup [.c (.sl 1), .c (.v (.int .i64 v38.2))]) [] [(1, .row 37 6 (v38.1.map Thing.enc))]] [.sw 1 0, .keep [0, 5, 12] [900, 0]] (And.intro h35 (And.intro (And.intro (con_sw 901 0 (con_sw 900 900 (spec_l5Id_ok (l1Cur.mk s26 s27 s28) s29 v36 h37))) (rfl : ([900, 0] : List Nat) = [900, 0])) (And.intro (And.intro (con_sw 1000 1 (spec_SealBox_ok s29 v36.1 true v38 h39)) (rfl : ([] : List Nat) = [])) True.intro))) (by kernel_rfl) (li (Sf := spec_l5Draw_L3_S) (M := Mk (spec_l5Draw_L3) (spec_l5Draw_L3_k) r) (k := [.blk 4, .code (cAt Tryd.f47 [1, 1, 1, 1, 1, 1])]) (Nat.lt_succ_self m3) hK3)
      · have hE : some (Ctl.brk (s26, s27, s28, s29)) = some c3 := hM
        have hE := Option.some.inj hE
        subst hE
        exact pc R 5 [.as 69 false] [.keep [0, 5] [900, 0]] (And.intro h35 True.intro) (by kernel_rfl) (K3 s26 s27 s28 s29 hK3)
    refine pc R 9999 [.ln (s12.length), .call true [900] (.o (.c (.v (.int .i64 v13.1)))) [(900, .box 66 [.rs 1 (v13.2.b.map encU8), .v (.int .i64 v13.2.i), .v (.int .i64 v13.2.h)])] []] [.keep [0, 5, 9] [900, 0]] (k' := [.code (.loop (cAt Tryd.f47 [1, 1, 1, 1, 0, 1, 0, 0])), .blk 2, .code (cAt Tryd.f47 [1, 1, 1, 1, 1])]) (S' := spec_l5Draw_L2_S (v13.2.b, v13.2.i, v13.2.h, s12, v13.1)) (And.intro (lenm Thing.enc s12) (And.intro (And.intro (con_sw 900 900 (spec_l1Below_ok (l1Cur.mk s9 s10 s11) (w64 (2 * (s12.length : Int))) v13 h14)) (rfl : ([900] : List Nat) = [900])) True.intro)) (by kernel_rfl) ?_
    refine lq (spec_l5Draw_L2_S) (body := spec_l5Draw_L2) (k := spec_l5Draw_L2_k) hM fun m2 s c2 hM hK2 => ?_
    obtain ⟨s15, s16, s17, s18, s19⟩ := s
    have hM : spec_l5Draw_L2_b s15 s16 s17 s18 s19 = some c2 := hM
    unfold spec_l5Draw_L2_b at hM
    rcases cond_cases hM with ⟨h40, hM⟩ | ⟨h40, hM⟩
    · obtain ⟨v41, h42, hM⟩ := bind_some hM
      obtain ⟨v43, h44, hM⟩ := bind_some hM
      obtain ⟨v45, h46, hM⟩ := bind_some hM
      have hE : some (Ctl.next (v43.2.b, v43.2.i, v43.2.h, v45.1, w64 (s19 - 1))) = some c2 := hM
      have hE := Option.some.inj hE
      subst hE
      exact pc R 9999 [.as 51 true, .ad (.keep [0, 5, 9, 50, 51, 55, 56, 57] [900, 0]), .call true [900, 0] (.o (.c (.v (.int .i64 v41.1)))) [(900, .box 66 [.rs 1 (v41.2.b.map encU8), .v (.int .i64 v41.2.i), .v (.int .i64 v41.2.h)]), (0, .row 37 6 (s18.map Thing.enc))] [], .ad (.keep [0, 5, 9, 50, 51, 55, 56, 57, 58, 59, 60] [900, 0]), .call true [900, 0] (.o (.c (.v (.int .i64 v43.1)))) [(900, .box 66 [.rs 1 (v43.2.b.map encU8), .v (.int .i64 v43.2.i), .v (.int .i64 v43.2.h)]), (0, .row 37 6 (s18.map Thing.enc))] [], .call false [] (.tup [.c (.sl 2), .c (.v (.int .i64 v45.2))]) [] [(2, .row 37 6 (v45.1.map Thing.enc))]] [.sw 2 0, .keep [0, 5, 9] [900, 0]] (And.intro h40 (And.intro (And.intro (con_sw 901 0 (con_sw 900 900 (spec_l5Id_ok (l1Cur.mk s15 s16 s17) s18 v41 h42))) (rfl : ([900, 0] : List Nat) = [900, 0])) (And.intro (And.intro (con_sw 901 0 (con_sw 900 900 (spec_l5Id_ok v41.2 s18 v43 h44))) (rfl : ([900, 0] : List Nat) = [900, 0])) (And.intro (And.intro (con_sw 1000 2 (spec_PutInto_ok s18 v41.1 v43.1 v45 h46)) (rfl : ([] : List Nat) = [])) True.intro)))) (by kernel_rfl) (li (Sf := spec_l5Draw_L2_S) (M := Mk (spec_l5Draw_L2) (spec_l5Draw_L2_k) r) (k := [.blk 2, .code (cAt Tryd.f47 [1, 1, 1, 1, 1])]) (Nat.lt_succ_self m2) hK2)
    · have hE : some (Ctl.brk (s15, s16, s17, s18)) = some c2 := hM
      have hE := Option.some.inj hE
      subst hE
      exact pc R 5 [.as 51 false] [.keep [0, 5] [900, 0]] (And.intro h40 True.intro) (by kernel_rfl) (K2 s15 s16 s17 s18 hK2)
  refine pc R 9999 [.new 0, .call true [900] (.o (.c (.v (.int .i64 v1.1)))) [(900, .box 66 [.rs 1 (v1.2.b.map encU8), .v (.int .i64 v1.2.i), .v (.int .i64 v1.2.h)])] []] [.keep [0, 5, 6, 7] [900, 0]] (k' := [.code (.loop (cAt Tryd.f47 [1, 1, 1, 0, 1, 0, 0])), .blk 0, .code (cAt Tryd.f47 [1, 1, 1, 1])]) (S' := spec_l5Draw_L1_S (v1.2.b, v1.2.i, v1.2.h, ([] : List Thing), 0, w64 (2 + v1.1))) (And.intro (And.intro (con_sw 900 900 (spec_l1Below_ok a0 a1 v1 h2)) (rfl : ([900] : List Nat) = [900])) True.intro) (by kernel_rfl) ?_
  refine lq (spec_l5Draw_L1_S) (body := spec_l5Draw_L1) (k := spec_l5Draw_L1_k) hM fun m1 s c1 hM hK1 => ?_
  obtain ⟨s3, s4, s5, s6, s7, s8⟩ := s
  have hM : spec_l5Draw_L1_b s3 s4 s5 s6 s7 s8 = some c1 := hM
  unfold spec_l5Draw_L1_b at hM
  rcases cond_cases hM with ⟨h47, hM⟩ | ⟨h47, hM⟩
  · obtain ⟨v48, h49, hM⟩ := bind_some hM
    obtain ⟨v50, h51, hM⟩ := bind_some hM
    obtain ⟨v52, h53, hM⟩ := bind_some hM
    have J1 : ∀ (s54 : (List Int)) (s55 : Int) (s56 : Int) (s57 : Int) (s58 : Bool), spec_l5Draw_j1 s6 s7 s8 v48 v50 s54 s55 s56 s57 s58 = some c1 → Gr R [.code (cAt Tryd.f47 [1, 1, 1, 0, 1, 0, 0, 1, 0, 0, 1, 1, 1]), .blk 1, .code (cAt Tryd.f47 [1, 1, 1, 0, 1, 0, 0, 1, 1]), .inv (Jr R (spec_l5Draw_L1_S) (Mk (spec_l5Draw_L1) (spec_l5Draw_L1_k) r) (m1 + 1)), .blk 0, .code (cAt Tryd.f47 [1, 1, 1, 1])] (⟨[(0, .o (.c (.ptr 900 0))), (5, .o (.c (.sl 0))), (6, .o (.c (.v (.int .i64 (w64 ((w64 (s7 + 1)) + v48.1)))))), (7, .o (.c (.v (.int .i64 s8)))), (8, .o (.c (.ptr 3 0)))], [(900, .box 66 [.rs 1 (s54.map encU8), .v (.int .i64 s55), .v (.int .i64 s56)]), (0, .row 37 6 (s6.map Thing.enc)), (3, .box 37 [.v (.int .i64 ((Thing.mk (w64 ((w64 (s7 + 1)) + v48.1)) (w64 (1 + v50.1)) 0 0 false false).Id)), .v (.int .i64 ((Thing.mk (w64 ((w64 (s7 + 1)) + v48.1)) (w64 (1 + v50.1)) 0 0 false false).Own)), .v (.int .i64 s57), .v (.int .i64 ((Thing.mk (w64 ((w64 (s7 + 1)) + v48.1)) (w64 (1 + v50.1)) 0 0 false false).In)), .v (.bool s58), .v (.bool ((Thing.mk (w64 ((w64 (s7 + 1)) + v48.1)) (w64 (1 + v50.1)) 0 0 false false).Sealed))])]⟩) := by
      intro s54 s55 s56 s57 s58 hM
      unfold spec_l5Draw_j1 at hM
      obtain ⟨v59, h60, hM⟩ := bind_some hM
      have hE : some (Ctl.next (s54, s55, s56, v59, w64 ((w64 (s7 + 1)) + v48.1), w64 (s8 - 1))) = some c1 := hM
      have hE := Option.some.inj hE
      subst hE
      exact pc R 9999 [.new 4, .new 5, .nm (v59.map Thing.enc)] [.sw 5 0, .keep [0, 5, 6, 7] [900, 0]] (And.intro (ap_ok Thing.enc h60) True.intro) (by kernel_rfl) (li (Sf := spec_l5Draw_L1_S) (M := Mk (spec_l5Draw_L1) (spec_l5Draw_L1_k) r) (k := [.blk 0, .code (cAt Tryd.f47 [1, 1, 1, 1])]) (Nat.lt_succ_self m1) hK1)
    rcases cond_cases hM with ⟨h61, hM⟩ | ⟨h61, hM⟩
    · obtain ⟨v62, h63, hM⟩ := bind_some hM
      exact pc R 18 [.as 21 true, .call true [900] (.o (.c (.v (.int .i64 v48.1)))) [(900, .box 66 [.rs 1 (v48.2.b.map encU8), .v (.int .i64 v48.2.i), .v (.int .i64 v48.2.h)])] [], .call true [900] (.o (.c (.v (.int .i64 v50.1)))) [(900, .box 66 [.rs 1 (v50.2.b.map encU8), .v (.int .i64 v50.2.i), .v (.int .i64 v50.2.h)])] [], .new 3, .call true [900] (.o (.c (.v (.bool v52.1)))) [(900, .box 66 [.rs 1 (v52.2.b.map encU8), .v (.int .i64 v52.2.i), .v (.int .i64 v52.2.h)])] [], .as 35 true, .call true [900] (.o (.c (.v (.int .i64 v62.1)))) [(900, .box 66 [.rs 1 (v62.2.b.map encU8), .v (.int .i64 v62.2.i), .v (.int .i64 v62.2.h)])] []] [.keep [0, 5, 6, 7, 8] [900, 0, 3]] (And.intro h47 (And.intro (And.intro (con_sw 900 900 (spec_l1Below_ok (l1Cur.mk s3 s4 s5) 4 v48 h49)) (rfl : ([900] : List Nat) = [900])) (And.intro (And.intro (con_sw 900 900 (spec_l1Below_ok v48.2 3000 v50 h51)) (rfl : ([900] : List Nat) = [900])) (And.intro (And.intro (con_sw 900 900 (spec_l1Once_ok v50.2 2 v52 h53)) (rfl : ([900] : List Nat) = [900])) (And.intro h61 (And.intro (And.intro (con_sw 900 900 (spec_l1Below_ok v52.2 20000 v62 h63)) (rfl : ([900] : List Nat) = [900])) True.intro)))))) (by kernel_rfl) (J1 v62.2.b v62.2.i v62.2.h (w64 (1 + v62.1)) true hM)
    · exact pc R 16 [.as 21 true, .call true [900] (.o (.c (.v (.int .i64 v48.1)))) [(900, .box 66 [.rs 1 (v48.2.b.map encU8), .v (.int .i64 v48.2.i), .v (.int .i64 v48.2.h)])] [], .call true [900] (.o (.c (.v (.int .i64 v50.1)))) [(900, .box 66 [.rs 1 (v50.2.b.map encU8), .v (.int .i64 v50.2.i), .v (.int .i64 v50.2.h)])] [], .new 3, .call true [900] (.o (.c (.v (.bool v52.1)))) [(900, .box 66 [.rs 1 (v52.2.b.map encU8), .v (.int .i64 v52.2.i), .v (.int .i64 v52.2.h)])] [], .as 35 false] [.keep [0, 5, 6, 7, 8] [900, 0, 3]] (And.intro h47 (And.intro (And.intro (con_sw 900 900 (spec_l1Below_ok (l1Cur.mk s3 s4 s5) 4 v48 h49)) (rfl : ([900] : List Nat) = [900])) (And.intro (And.intro (con_sw 900 900 (spec_l1Below_ok v48.2 3000 v50 h51)) (rfl : ([900] : List Nat) = [900])) (And.intro (And.intro (con_sw 900 900 (spec_l1Once_ok v50.2 2 v52 h53)) (rfl : ([900] : List Nat) = [900])) (And.intro h61 True.intro))))) (by kernel_rfl) (J1 v52.2.b v52.2.i v52.2.h ((Thing.mk (w64 ((w64 (s7 + 1)) + v48.1)) (w64 (1 + v50.1)) 0 0 false false).Room) ((Thing.mk (w64 ((w64 (s7 + 1)) + v48.1)) (w64 (1 + v50.1)) 0 0 false false).Box) hM)
  · have hE : some (Ctl.brk (s3, s4, s5, s6)) = some c1 := hM
    have hE := Option.some.inj hE
    subst hE
    exact pc R 5 [.as 21 false] [.keep [0, 5] [900, 0]] (And.intro h47 True.intro) (by kernel_rfl) (K1 s3 s4 s5 s6 hK1)

-- loop.example/g03014/spec.l5Any
def spec_l5Any (a0 : l1Cur) : Option ((List Thing) × l1Cur) :=
  (spec_l5Draw a0 8).bind fun v1 =>
  (spec_l1Below v1.2 (v1.1.length : Int)).bind fun v3 =>
  (spec_l1Below v3.2 12).bind fun v5 =>
  bif (v5.1 == 0) then
  (spec_l1Below v5.2 (v1.1.length : Int)).bind fun v8 =>
  (gi v1.1 v8.1).bind fun v10 =>
  (gi v1.1 v3.1).bind fun v12 =>
  some (List.set v1.1 (Int.toNat v3.1) (Thing.mk v12.Id v12.Own v12.Room v10.Id v12.Box v12.Sealed), v8.2)
  else
  bif (v5.1 == 1) then
  (spec_l1Int v5.2 ([0, (-1), 30000, 30001] : List Int)).bind fun v15 =>
  (gi v1.1 v3.1).bind fun v17 =>
  some (List.set v1.1 (Int.toNat v3.1) (Thing.mk v17.Id v15.1 v17.Room v17.In v17.Box v17.Sealed), v15.2)
  else
  bif (v5.1 == 2) then
  (spec_l1Int v5.2 ([0, 1, 1000000, 1000001] : List Int)).bind fun v20 =>
  (gi v1.1 v3.1).bind fun v22 =>
  some (List.set v1.1 (Int.toNat v3.1) (Thing.mk v22.Id v22.Own v20.1 v22.In v22.Box v22.Sealed), v20.2)
  else
  bif (v5.1 == 3) then
  (gi v1.1 v3.1).bind fun v25 =>
  (gi v1.1 v3.1).bind fun v27 =>
  some (List.set v1.1 (Int.toNat v3.1) (Thing.mk v27.Id v27.Own v27.Room v27.In (!v25.Box) v27.Sealed), v5.2)
  else
  bif (v5.1 == 4) then
  (gi v1.1 v3.1).bind fun v30 =>
  some (List.set v1.1 (Int.toNat v3.1) (Thing.mk v30.Id v30.Own v30.Room v30.In v30.Box true), v5.2)
  else
  bif (v5.1 == 5) then
  (gi v1.1 0).bind fun v33 =>
  (spec_l1Int v5.2 ([0, 9999, 10000, v33.Id] : List Int)).bind fun v35 =>
  (gi v1.1 v3.1).bind fun v37 =>
  some (List.set v1.1 (Int.toNat v3.1) (Thing.mk v35.1 v37.Own v37.Room v37.In v37.Box v37.Sealed), v35.2)
  else
  bif (v5.1 == 6) then
  (spec_l1Int v5.2 ([(-1), 9998] : List Int)).bind fun v40 =>
  (gi v1.1 v3.1).bind fun v42 =>
  some (List.set v1.1 (Int.toNat v3.1) (Thing.mk v42.Id v42.Own v42.Room v40.1 v42.Box v42.Sealed), v40.2)
  else
  some (v1.1, v5.2)
theorem spec_l5Any_ok (a0 : l1Cur) (r : (List Thing) × l1Cur) (hM : spec_l5Any a0 = some r) :
    Con Tryd.prog 37 [.c (.ptr 900 0)] [(900, .box 66 [.rs 1 (a0.b.map encU8), .v (.int .i64 a0.i), .v (.int .i64 a0.h)])] (.o (.c (.sl 1000))) [(900, .box 66 [.rs 1 (r.2.b.map encU8), .v (.int .i64 r.2.i), .v (.int .i64 r.2.h)])] [(1000, .row 37 6 (r.1.map Thing.enc))] := by
  unfold spec_l5Any at hM
  refine cn (N := 86) (pids := [900]) Tryd_mixed Tryd.func37 (by kernel_rfl) (by kernel_rfl) (by kernel_rfl) rfl fun ρ g w R => ?_
  obtain ⟨v1, h2, hM⟩ := bind_some hM
  obtain ⟨v3, h4, hM⟩ := bind_some hM
  obtain ⟨v5, h6, hM⟩ := bind_some hM
  rcases cond_cases hM with ⟨h7, hM⟩ | ⟨h7, hM⟩
  · obtain ⟨v8, h9, hM⟩ := bind_some hM
    obtain ⟨v10, h11, hM⟩ := bind_some hM
    obtain ⟨v12, h13, hM⟩ := bind_some hM
    have hE : some (List.set v1.1 (Int.toNat v3.1) (Thing.mk v12.Id v12.Own v12.Room v10.Id v12.Box v12.Sealed), v8.2) = some r := hM
    have hE := Option.some.inj hE
    subst hE
    exact pr R 9999 [.call true [900] (.o (.c (.sl 0))) [(900, .box 66 [.rs 1 (v1.2.b.map encU8), .v (.int .i64 v1.2.i), .v (.int .i64 v1.2.h)])] [(0, .row 37 6 (v1.1.map Thing.enc))], .ln (v1.1.length), .call true [900] (.o (.c (.v (.int .i64 v3.1)))) [(900, .box 66 [.rs 1 (v3.2.b.map encU8), .v (.int .i64 v3.2.i), .v (.int .i64 v3.2.h)])] [], .call true [900] (.o (.c (.v (.int .i64 v5.1)))) [(900, .box 66 [.rs 1 (v5.2.b.map encU8), .v (.int .i64 v5.2.i), .v (.int .i64 v5.2.h)])] [], .as 13 true, .ln (v1.1.length), .call true [900] (.o (.c (.v (.int .i64 v8.1)))) [(900, .box 66 [.rs 1 (v8.2.b.map encU8), .v (.int .i64 v8.2.i), .v (.int .i64 v8.2.h)])] [], .ix (Thing.enc v10), .ix (Thing.enc v12), .nm ((List.set v1.1 (Int.toNat v3.1) (Thing.mk v12.Id v12.Own v12.Room v10.Id v12.Box v12.Sealed)).map Thing.enc)] [.sw 0 1000] [900] [1000] (And.intro (And.intro (con_sw 900 900 (con_sw 1000 0 (spec_l5Draw_ok a0 8 v1 h2))) (rfl : ([900] : List Nat) = [900])) (And.intro (lenm Thing.enc v1.1) (And.intro (And.intro (con_sw 900 900 (spec_l1Below_ok v1.2 (v1.1.length : Int) v3 h4)) (rfl : ([900] : List Nat) = [900])) (And.intro (And.intro (con_sw 900 900 (spec_l1Below_ok v3.2 12 v5 h6)) (rfl : ([900] : List Nat) = [900])) (And.intro h7 (And.intro (lenm Thing.enc v1.1) (And.intro (And.intro (con_sw 900 900 (spec_l1Below_ok v5.2 (v1.1.length : Int) v8 h9)) (rfl : ([900] : List Nat) = [900])) (And.intro (gi_lt Thing.enc h11) (And.intro ((gi_map Thing.enc h11).2) (And.intro (gi_lt Thing.enc h13) (And.intro (And.intro (gi_map Thing.enc h13).2 (set_map Thing.enc v1.1 (Int.toNat v3.1) (Thing.mk v12.Id v12.Own v12.Room v10.Id v12.Box v12.Sealed))) True.intro))))))))))) (by kernel_rfl)
  · rcases cond_cases hM with ⟨h14, hM⟩ | ⟨h14, hM⟩
    · obtain ⟨v15, h16, hM⟩ := bind_some hM
      obtain ⟨v17, h18, hM⟩ := bind_some hM
      have hE : some (List.set v1.1 (Int.toNat v3.1) (Thing.mk v17.Id v15.1 v17.Room v17.In v17.Box v17.Sealed), v15.2) = some r := hM
      have hE := Option.some.inj hE
      subst hE
      exact pr R 9999 [.call true [900] (.o (.c (.sl 0))) [(900, .box 66 [.rs 1 (v1.2.b.map encU8), .v (.int .i64 v1.2.i), .v (.int .i64 v1.2.h)])] [(0, .row 37 6 (v1.1.map Thing.enc))], .ln (v1.1.length), .call true [900] (.o (.c (.v (.int .i64 v3.1)))) [(900, .box 66 [.rs 1 (v3.2.b.map encU8), .v (.int .i64 v3.2.i), .v (.int .i64 v3.2.h)])] [], .call true [900] (.o (.c (.v (.int .i64 v5.1)))) [(900, .box 66 [.rs 1 (v5.2.b.map encU8), .v (.int .i64 v5.2.i), .v (.int .i64 v5.2.h)])] [], .as 13 false, .as 27 true, .new 1, .ad (.keep [0, 2, 3, 4, 5, 6, 7, 8, 9, 10, 11, 12, 13, 14, 27, 28, 29, 30, 31, 32] [900, 1, 0]), .call true [900, 1] (.o (.c (.v (.int .i64 v15.1)))) [(900, .box 66 [.rs 1 (v15.2.b.map encU8), .v (.int .i64 v15.2.i), .v (.int .i64 v15.2.h)]), (1, .row 3 1 (([0, (-1), 30000, 30001] : List Int).map encI))] [], .ix (Thing.enc v17), .nm ((List.set v1.1 (Int.toNat v3.1) (Thing.mk v17.Id v15.1 v17.Room v17.In v17.Box v17.Sealed)).map Thing.enc)] [.sw 0 1000] [900] [1000] (And.intro (And.intro (con_sw 900 900 (con_sw 1000 0 (spec_l5Draw_ok a0 8 v1 h2))) (rfl : ([900] : List Nat) = [900])) (And.intro (lenm Thing.enc v1.1) (And.intro (And.intro (con_sw 900 900 (spec_l1Below_ok v1.2 (v1.1.length : Int) v3 h4)) (rfl : ([900] : List Nat) = [900])) (And.intro (And.intro (con_sw 900 900 (spec_l1Below_ok v3.2 12 v5 h6)) (rfl : ([900] : List Nat) = [900])) (And.intro h7 (And.intro h14 (And.intro (And.intro (con_sw 901 1 (con_sw 900 900 (spec_l1Int_ok v5.2 ([0, (-1), 30000, 30001] : List Int) v15 h16))) (rfl : ([900, 1] : List Nat) = [900, 1])) (And.intro (gi_lt Thing.enc h18) (And.intro (And.intro (gi_map Thing.enc h18).2 (set_map Thing.enc v1.1 (Int.toNat v3.1) (Thing.mk v17.Id v15.1 v17.Room v17.In v17.Box v17.Sealed))) True.intro))))))))) (by kernel_rfl)
    · rcases cond_cases hM with ⟨h19, hM⟩ | ⟨h19, hM⟩
      · obtain ⟨v20, h21, hM⟩ := bind_some hM
        obtain ⟨v22, h23, hM⟩ := bind_some hM
        have hE : some (List.set v1.1 (Int.toNat v3.1) (Thing.mk v22.Id v22.Own v20.1 v22.In v22.Box v22.Sealed), v20.2) = some r := hM
        have hE := Option.some.inj hE
        subst hE
        exact pr R 9999 [.call true [900] (.o (.c (.sl 0))) [(900, .box 66 [.rs 1 (v1.2.b.map encU8), .v (.int .i64 v1.2.i), .v (.int .i64 v1.2.h)])] [(0, .row 37 6 (v1.1.map Thing.enc))], .ln (v1.1.length), .call true [900] (.o (.c (.v (.int .i64 v3.1)))) [(900, .box 66 [.rs 1 (v3.2.b.map encU8), .v (.int .i64 v3.2.i), .v (.int .i64 v3.2.h)])] [], .call true [900] (.o (.c (.v (.int .i64 v5.1)))) [(900, .box 66 [.rs 1 (v5.2.b.map encU8), .v (.int .i64 v5.2.i), .v (.int .i64 v5.2.h)])] [], .as 13 false, .as 27 false, .as 36 true, .new 2, .ad (.keep [0, 2, 3, 4, 5, 6, 7, 8, 9, 10, 11, 12, 13, 14, 27, 28, 36, 37, 38, 39, 40, 41] [900, 2, 0]), .call true [900, 2] (.o (.c (.v (.int .i64 v20.1)))) [(900, .box 66 [.rs 1 (v20.2.b.map encU8), .v (.int .i64 v20.2.i), .v (.int .i64 v20.2.h)]), (2, .row 3 1 (([0, 1, 1000000, 1000001] : List Int).map encI))] [], .ix (Thing.enc v22), .nm ((List.set v1.1 (Int.toNat v3.1) (Thing.mk v22.Id v22.Own v20.1 v22.In v22.Box v22.Sealed)).map Thing.enc)] [.sw 0 1000] [900] [1000] (And.intro (And.intro (con_sw 900 900 (con_sw 1000 0 (spec_l5Draw_ok a0 8 v1 h2))) (rfl : ([900] : List Nat) = [900])) (And.intro (lenm Thing.enc v1.1) (And.intro (And.intro (con_sw 900 900 (spec_l1Below_ok v1.2 (v1.1.length : Int) v3 h4)) (rfl : ([900] : List Nat) = [900])) (And.intro (And.intro (con_sw 900 900 (spec_l1Below_ok v3.2 12 v5 h6)) (rfl : ([900] : List Nat) = [900])) (And.intro h7 (And.intro h14 (And.intro h19 (And.intro (And.intro (con_sw 901 2 (con_sw 900 900 (spec_l1Int_ok v5.2 ([0, 1, 1000000, 1000001] : List Int) v20 h21))) (rfl : ([900, 2] : List Nat) = [900, 2])) (And.intro (gi_lt Thing.enc h23) (And.intro (And.intro (gi_map Thing.enc h23).2 (set_map Thing.enc v1.1 (Int.toNat v3.1) (Thing.mk v22.Id v22.Own v20.1 v22.In v22.Box v22.Sealed))) True.intro)))))))))) (by kernel_rfl)
      · rcases cond_cases hM with ⟨h24, hM⟩ | ⟨h24, hM⟩
        · obtain ⟨v25, h26, hM⟩ := bind_some hM
          obtain ⟨v27, h28, hM⟩ := bind_some hM
          have hE : some (List.set v1.1 (Int.toNat v3.1) (Thing.mk v27.Id v27.Own v27.Room v27.In (!v25.Box) v27.Sealed), v5.2) = some r := hM
          have hE := Option.some.inj hE
          subst hE
          exact pr R 9999 [.call true [900] (.o (.c (.sl 0))) [(900, .box 66 [.rs 1 (v1.2.b.map encU8), .v (.int .i64 v1.2.i), .v (.int .i64 v1.2.h)])] [(0, .row 37 6 (v1.1.map Thing.enc))], .ln (v1.1.length), .call true [900] (.o (.c (.v (.int .i64 v3.1)))) [(900, .box 66 [.rs 1 (v3.2.b.map encU8), .v (.int .i64 v3.2.i), .v (.int .i64 v3.2.h)])] [], .call true [900] (.o (.c (.v (.int .i64 v5.1)))) [(900, .box 66 [.rs 1 (v5.2.b.map encU8), .v (.int .i64 v5.2.i), .v (.int .i64 v5.2.h)])] [], .as 13 false, .as 27 false, .as 36 false, .as 45 true, .ix (Thing.enc v25), .ix (Thing.enc v27), .nm ((List.set v1.1 (Int.toNat v3.1) (Thing.mk v27.Id v27.Own v27.Room v27.In (!v25.Box) v27.Sealed)).map Thing.enc)] [.sw 0 1000] [900] [1000] (And.intro (And.intro (con_sw 900 900 (con_sw 1000 0 (spec_l5Draw_ok a0 8 v1 h2))) (rfl : ([900] : List Nat) = [900])) (And.intro (lenm Thing.enc v1.1) (And.intro (And.intro (con_sw 900 900 (spec_l1Below_ok v1.2 (v1.1.length : Int) v3 h4)) (rfl : ([900] : List Nat) = [900])) (And.intro (And.intro (con_sw 900 900 (spec_l1Below_ok v3.2 12 v5 h6)) (rfl : ([900] : List Nat) = [900])) (And.intro h7 (And.intro h14 (And.intro h19 (And.intro h24 (And.intro (gi_lt Thing.enc h26) (And.intro ((gi_map Thing.enc h26).2) (And.intro (gi_lt Thing.enc h28) (And.intro (And.intro (gi_map Thing.enc h28).2 (set_map Thing.enc v1.1 (Int.toNat v3.1) (Thing.mk v27.Id v27.Own v27.Room v27.In (!v25.Box) v27.Sealed))) True.intro)))))))))))) (by kernel_rfl)
        · rcases cond_cases hM with ⟨h29, hM⟩ | ⟨h29, hM⟩
          · obtain ⟨v30, h31, hM⟩ := bind_some hM
            have hE : some (List.set v1.1 (Int.toNat v3.1) (Thing.mk v30.Id v30.Own v30.Room v30.In v30.Box true), v5.2) = some r := hM
            have hE := Option.some.inj hE
            subst hE
            exact pr R 9999 [.call true [900] (.o (.c (.sl 0))) [(900, .box 66 [.rs 1 (v1.2.b.map encU8), .v (.int .i64 v1.2.i), .v (.int .i64 v1.2.h)])] [(0, .row 37 6 (v1.1.map Thing.enc))], .ln (v1.1.length), .call true [900] (.o (.c (.v (.int .i64 v3.1)))) [(900, .box 66 [.rs 1 (v3.2.b.map encU8), .v (.int .i64 v3.2.i), .v (.int .i64 v3.2.h)])] [], .call true [900] (.o (.c (.v (.int .i64 v5.1)))) [(900, .box 66 [.rs 1 (v5.2.b.map encU8), .v (.int .i64 v5.2.i), .v (.int .i64 v5.2.h)])] [], .as 13 false, .as 27 false, .as 36 false, .as 45 false, .as 57 true, .ix (Thing.enc v30), .nm ((List.set v1.1 (Int.toNat v3.1) (Thing.mk v30.Id v30.Own v30.Room v30.In v30.Box true)).map Thing.enc)] [.sw 0 1000] [900] [1000] (And.intro (And.intro (con_sw 900 900 (con_sw 1000 0 (spec_l5Draw_ok a0 8 v1 h2))) (rfl : ([900] : List Nat) = [900])) (And.intro (lenm Thing.enc v1.1) (And.intro (And.intro (con_sw 900 900 (spec_l1Below_ok v1.2 (v1.1.length : Int) v3 h4)) (rfl : ([900] : List Nat) = [900])) (And.intro (And.intro (con_sw 900 900 (spec_l1Below_ok v3.2 12 v5 h6)) (rfl : ([900] : List Nat) = [900])) (And.intro h7 (And.intro h14 (And.intro h19 (And.intro h24 (And.intro h29 (And.intro (gi_lt Thing.enc h31) (And.intro (And.intro (gi_map Thing.enc h31).2 (set_map Thing.enc v1.1 (Int.toNat v3.1) (Thing.mk v30.Id v30.Own v30.Room v30.In v30.Box true))) True.intro))))))))))) (by kernel_rfl)
          · rcases cond_cases hM with ⟨h32, hM⟩ | ⟨h32, hM⟩
            · obtain ⟨v33, h34, hM⟩ := bind_some hM
              obtain ⟨v35, h36, hM⟩ := bind_some hM
              obtain ⟨v37, h38, hM⟩ := bind_some hM
              have hE : some (List.set v1.1 (Int.toNat v3.1) (Thing.mk v35.1 v37.Own v37.Room v37.In v37.Box v37.Sealed), v35.2) = some r := hM
              have hE := Option.some.inj hE
              subst hE
              exact pr R 9999 [.call true [900] (.o (.c (.sl 0))) [(900, .box 66 [.rs 1 (v1.2.b.map encU8), .v (.int .i64 v1.2.i), .v (.int .i64 v1.2.h)])] [(0, .row 37 6 (v1.1.map Thing.enc))], .ln (v1.1.length), .call true [900] (.o (.c (.v (.int .i64 v3.1)))) [(900, .box 66 [.rs 1 (v3.2.b.map encU8), .v (.int .i64 v3.2.i), .v (.int .i64 v3.2.h)])] [], .call true [900] (.o (.c (.v (.int .i64 v5.1)))) [(900, .box 66 [.rs 1 (v5.2.b.map encU8), .v (.int .i64 v5.2.i), .v (.int .i64 v5.2.h)])] [], .as 13 false, .as 27 false, .as 36 false, .as 45 false, .as 57 false, .as 63 true, .ix (Thing.enc v33), .new 3, .ad (.keep [0, 2, 3, 4, 5, 6, 7, 8, 9, 10, 11, 12, 13, 14, 27, 28, 36, 37, 45, 46, 57, 58, 63, 64, 65, 66, 67, 68, 69, 70, 71, 72] [900, 3, 0]), .call true [900, 3] (.o (.c (.v (.int .i64 v35.1)))) [(900, .box 66 [.rs 1 (v35.2.b.map encU8), .v (.int .i64 v35.2.i), .v (.int .i64 v35.2.h)]), (3, .row 3 1 (([0, 9999, 10000, v33.Id] : List Int).map encI))] [], .ix (Thing.enc v37), .nm ((List.set v1.1 (Int.toNat v3.1) (Thing.mk v35.1 v37.Own v37.Room v37.In v37.Box v37.Sealed)).map Thing.enc)] [.sw 0 1000] [900] [1000] (And.intro (And.intro (con_sw 900 900 (con_sw 1000 0 (spec_l5Draw_ok a0 8 v1 h2))) (rfl : ([900] : List Nat) = [900])) (And.intro (lenm Thing.enc v1.1) (And.intro (And.intro (con_sw 900 900 (spec_l1Below_ok v1.2 (v1.1.length : Int) v3 h4)) (rfl : ([900] : List Nat) = [900])) (And.intro (And.intro (con_sw 900 900 (spec_l1Below_ok v3.2 12 v5 h6)) (rfl : ([900] : List Nat) = [900])) (And.intro h7 (And.intro h14 (And.intro h19 (And.intro h24 (And.intro h29 (And.intro h32 (And.intro (gi_lt Thing.enc h34) (And.intro ((gi_map Thing.enc h34).2) (And.intro (And.intro (con_sw 901 3 (con_sw 900 900 (spec_l1Int_ok v5.2 ([0, 9999, 10000, v33.Id] : List Int) v35 h36))) (rfl : ([900, 3] : List Nat) = [900, 3])) (And.intro (gi_lt Thing.enc h38) (And.intro (And.intro (gi_map Thing.enc h38).2 (set_map Thing.enc v1.1 (Int.toNat v3.1) (Thing.mk v35.1 v37.Own v37.Room v37.In v37.Box v37.Sealed))) True.intro))))))))))))))) (by kernel_rfl)
            · rcases cond_cases hM with ⟨h39, hM⟩ | ⟨h39, hM⟩
              · obtain ⟨v40, h41, hM⟩ := bind_some hM
                obtain ⟨v42, h43, hM⟩ := bind_some hM
                have hE : some (List.set v1.1 (Int.toNat v3.1) (Thing.mk v42.Id v42.Own v42.Room v40.1 v42.Box v42.Sealed), v40.2) = some r := hM
                have hE := Option.some.inj hE
                subst hE
                exact pr R 9999 [.call true [900] (.o (.c (.sl 0))) [(900, .box 66 [.rs 1 (v1.2.b.map encU8), .v (.int .i64 v1.2.i), .v (.int .i64 v1.2.h)])] [(0, .row 37 6 (v1.1.map Thing.enc))], .ln (v1.1.length), .call true [900] (.o (.c (.v (.int .i64 v3.1)))) [(900, .box 66 [.rs 1 (v3.2.b.map encU8), .v (.int .i64 v3.2.i), .v (.int .i64 v3.2.h)])] [], .call true [900] (.o (.c (.v (.int .i64 v5.1)))) [(900, .box 66 [.rs 1 (v5.2.b.map encU8), .v (.int .i64 v5.2.i), .v (.int .i64 v5.2.h)])] [], .as 13 false, .as 27 false, .as 36 false, .as 45 false, .as 57 false, .as 63 false, .as 76 true, .new 4, .ad (.keep [0, 2, 3, 4, 5, 6, 7, 8, 9, 10, 11, 12, 13, 14, 27, 28, 36, 37, 45, 46, 57, 58, 63, 64, 76, 77, 78, 79, 80, 81] [900, 4, 0]), .call true [900, 4] (.o (.c (.v (.int .i64 v40.1)))) [(900, .box 66 [.rs 1 (v40.2.b.map encU8), .v (.int .i64 v40.2.i), .v (.int .i64 v40.2.h)]), (4, .row 3 1 (([(-1), 9998] : List Int).map encI))] [], .ix (Thing.enc v42), .nm ((List.set v1.1 (Int.toNat v3.1) (Thing.mk v42.Id v42.Own v42.Room v40.1 v42.Box v42.Sealed)).map Thing.enc)] [.sw 0 1000] [900] [1000] (And.intro (And.intro (con_sw 900 900 (con_sw 1000 0 (spec_l5Draw_ok a0 8 v1 h2))) (rfl : ([900] : List Nat) = [900])) (And.intro (lenm Thing.enc v1.1) (And.intro (And.intro (con_sw 900 900 (spec_l1Below_ok v1.2 (v1.1.length : Int) v3 h4)) (rfl : ([900] : List Nat) = [900])) (And.intro (And.intro (con_sw 900 900 (spec_l1Below_ok v3.2 12 v5 h6)) (rfl : ([900] : List Nat) = [900])) (And.intro h7 (And.intro h14 (And.intro h19 (And.intro h24 (And.intro h29 (And.intro h32 (And.intro h39 (And.intro (And.intro (con_sw 901 4 (con_sw 900 900 (spec_l1Int_ok v5.2 ([(-1), 9998] : List Int) v40 h41))) (rfl : ([900, 4] : List Nat) = [900, 4])) (And.intro (gi_lt Thing.enc h43) (And.intro (And.intro (gi_map Thing.enc h43).2 (set_map Thing.enc v1.1 (Int.toNat v3.1) (Thing.mk v42.Id v42.Own v42.Room v40.1 v42.Box v42.Sealed))) True.intro)))))))))))))) (by kernel_rfl)
              · have hE : some (v1.1, v5.2) = some r := hM
                have hE := Option.some.inj hE
                subst hE
                exact pr R 9999 [.call true [900] (.o (.c (.sl 0))) [(900, .box 66 [.rs 1 (v1.2.b.map encU8), .v (.int .i64 v1.2.i), .v (.int .i64 v1.2.h)])] [(0, .row 37 6 (v1.1.map Thing.enc))], .ln (v1.1.length), .call true [900] (.o (.c (.v (.int .i64 v3.1)))) [(900, .box 66 [.rs 1 (v3.2.b.map encU8), .v (.int .i64 v3.2.i), .v (.int .i64 v3.2.h)])] [], .call true [900] (.o (.c (.v (.int .i64 v5.1)))) [(900, .box 66 [.rs 1 (v5.2.b.map encU8), .v (.int .i64 v5.2.i), .v (.int .i64 v5.2.h)])] [], .as 13 false, .as 27 false, .as 36 false, .as 45 false, .as 57 false, .as 63 false, .as 76 false] [.sw 0 1000] [900] [1000] (And.intro (And.intro (con_sw 900 900 (con_sw 1000 0 (spec_l5Draw_ok a0 8 v1 h2))) (rfl : ([900] : List Nat) = [900])) (And.intro (lenm Thing.enc v1.1) (And.intro (And.intro (con_sw 900 900 (spec_l1Below_ok v1.2 (v1.1.length : Int) v3 h4)) (rfl : ([900] : List Nat) = [900])) (And.intro (And.intro (con_sw 900 900 (spec_l1Below_ok v3.2 12 v5 h6)) (rfl : ([900] : List Nat) = [900])) (And.intro h7 (And.intro h14 (And.intro h19 (And.intro h24 (And.intro h29 (And.intro h32 (And.intro h39 True.intro))))))))))) (by kernel_rfl)

-- loop.example/g03014/spec.DrawFindThing
def spec_DrawFindThing (a0 : (List Int)) : Option ((List Thing) × Int) :=
  (spec_l1New a0).bind fun v1 =>
  (spec_l5Any v1).bind fun v3 =>
  (spec_l5Id v3.2 v3.1).bind fun v5 =>
  some (v3.1, v5.1)
theorem spec_DrawFindThing_ok (a0 : (List Int)) (r : (List Thing) × Int) (hM : spec_DrawFindThing a0 = some r) :
    Con Tryd.prog 20 [.c (.rs 1 (a0.map encU8))] [] (.tup [.c (.sl 1000), .c (.v (.int .i64 r.2))]) [] [(1000, .row 37 6 (r.1.map Thing.enc))] := by
  unfold spec_DrawFindThing at hM
  refine cn (N := 14) (pids := []) Tryd_mixed Tryd.func20 (by kernel_rfl) (by kernel_rfl) (by kernel_rfl) rfl fun ρ g w R => ?_
  obtain ⟨v1, h2, hM⟩ := bind_some hM
  obtain ⟨v3, h4, hM⟩ := bind_some hM
  obtain ⟨v5, h6, hM⟩ := bind_some hM
  have hE : some (v3.1, v5.1) = some r := hM
  have hE := Option.some.inj hE
  subst hE
  exact pr R 9999 [.call true [] (.o (.c (.ptr 0 0))) [] [(0, .box 66 [.rs 1 (v1.b.map encU8), .v (.int .i64 v1.i), .v (.int .i64 v1.h)])], .call true [0] (.o (.c (.sl 1))) [(0, .box 66 [.rs 1 (v3.2.b.map encU8), .v (.int .i64 v3.2.i), .v (.int .i64 v3.2.h)])] [(1, .row 37 6 (v3.1.map Thing.enc))], .ad (.keep [0, 2, 3, 4, 5, 6, 7, 8, 9, 10, 11, 12] [0, 1]), .call true [0, 1] (.o (.c (.v (.int .i64 v5.1)))) [(0, .box 66 [.rs 1 (v5.2.b.map encU8), .v (.int .i64 v5.2.i), .v (.int .i64 v5.2.h)]), (1, .row 37 6 (v3.1.map Thing.enc))] []] [.sw 1 1000] [] [1000] (And.intro (And.intro (con_sw 1000 0 (spec_l1New_ok a0 v1 h2)) (rfl : ([] : List Nat) = [])) (And.intro (And.intro (con_sw 900 0 (con_sw 1000 1 (spec_l5Any_ok v1 v3 h4))) (rfl : ([0] : List Nat) = [0])) (And.intro (And.intro (con_sw 901 1 (con_sw 900 0 (spec_l5Id_ok v3.2 v3.1 v5 h6))) (rfl : ([0, 1] : List Nat) = [0, 1])) True.intro))) (by kernel_rfl)

-- loop.example/g03014/spec.DrawManifest
def spec_DrawManifest (a0 : (List Int)) : Option ((List Thing) × Int) :=
  (spec_DrawFindThing a0).bind fun v1 =>
  some v1
theorem spec_DrawManifest_ok (a0 : (List Int)) (r : (List Thing) × Int) (hM : spec_DrawManifest a0 = some r) :
    Con Tryd.prog 7 [.c (.rs 1 (a0.map encU8))] [] (.tup [.c (.sl 1000), .c (.v (.int .i64 r.2))]) [] [(1000, .row 37 6 (r.1.map Thing.enc))] := by
  unfold spec_DrawManifest at hM
  refine cn (N := 8) (pids := []) Tryd_mixed Tryd.func7 (by kernel_rfl) (by kernel_rfl) (by kernel_rfl) rfl fun ρ g w R => ?_
  obtain ⟨v1, h2, hM⟩ := bind_some hM
  have hE : some v1 = some r := hM
  have hE := Option.some.inj hE
  subst hE
  exact pr R 9999 [.call false [] (.tup [.c (.sl 0), .c (.v (.int .i64 v1.2))]) [] [(0, .row 37 6 (v1.1.map Thing.enc))]] [.sw 0 1000] [] [1000] (And.intro (And.intro (con_sw 1000 0 (spec_DrawFindThing_ok a0 v1 h2)) (rfl : ([] : List Nat) = [])) True.intro) (by kernel_rfl)

-- loop.example/g03014/impl.within
def impl_within (a0 : Int) (a1 : Int) (a2 : Int) : Option Bool :=
  bif (decide (a1 ≤ a0)) then
  some (decide (a0 ≤ a2))
  else
  some false
theorem impl_within_ok (a0 : Int) (a1 : Int) (a2 : Int) (r : Bool) (hM : impl_within a0 a1 a2 = some r) :
    Con Tryd.prog 46 [.c (.v (.int .i64 a0)), .c (.v (.int .i64 a1)), .c (.v (.int .i64 a2))] [] (.o (.c (.v (.bool r)))) [] [] := by
  unfold impl_within at hM
  refine cn (N := 15) (pids := []) Tryd_mixed Tryd.func46 (by kernel_rfl) (by kernel_rfl) (by kernel_rfl) rfl fun ρ g w R => ?_
  rcases cond_cases hM with ⟨h1, hM⟩ | ⟨h1, hM⟩
  · have hE : some (decide (a0 ≤ a2)) = some r := hM
    have hE := Option.some.inj hE
    subst hE
    exact pr R 9999 [.as 10 true] [] [] [] (And.intro h1 True.intro) (by kernel_rfl)
  · have hE : some false = some r := hM
    have hE := Option.some.inj hE
    subst hE
    exact pr R 9999 [.as 10 false] [] [] [] (And.intro h1 True.intro) (by kernel_rfl)

-- loop.example/g03014/impl.FindThing
def impl_FindThing_L1_b (a0 : (List Thing)) (a1 : Int) (s1 : Int) : Option (Ctl Int Unit Int) :=
  bif (decide (s1 < (a0.length : Int))) then
  (gi a0 s1).bind fun v3 =>
  bif (v3.Id == a1) then
  some (.ret s1)
  else
  some (.next (w64 (s1 + 1)))
  else
  some (.brk ())
def impl_FindThing_L1 (a0 : (List Thing)) (a1 : Int) (s : Int) : Option (Ctl Int Unit Int) := impl_FindThing_L1_b a0 a1 s
def impl_FindThing_L1_s (a0 : (List Thing)) (a1 : Int) (s1 : Int) : St := ⟨[(1, .o (.c (.v (.int .i64 a1)))), (7, .o (.c (.rs 6 (a0.map Thing.enc)))), (8, .o (.c (.v (.int .i64 (a0.length : Int))))), (9, .o (.c (.v (.int .i64 s1))))], []⟩
def impl_FindThing_L1_S (a0 : (List Thing)) (a1 : Int) (s : Int) : St := impl_FindThing_L1_s a0 a1 s
def impl_FindThing_L1_a : Option Int :=
  some (-1)
def impl_FindThing_L1_k (x : (Unit) ⊕ (Int)) : Option Int := match x with
  | .inl t => impl_FindThing_L1_a
  | .inr y => some y
def impl_FindThing (a0 : (List Thing)) (a1 : Int) : Option Int :=
  (loopM (impl_FindThing_L1 a0 a1) big 0).bind (impl_FindThing_L1_k)
theorem impl_FindThing_ok (a0 : (List Thing)) (a1 : Int) (r : Int) (hM : impl_FindThing a0 a1 = some r) :
    Con Tryd.prog 12 [.c (.rs 6 (a0.map Thing.enc)), .c (.v (.int .i64 a1))] [] (.o (.c (.v (.int .i64 r)))) [] [] := by
  unfold impl_FindThing at hM
  refine cn (N := 20) (pids := []) Tryd_mixed Tryd.func12 (by kernel_rfl) (by kernel_rfl) (by kernel_rfl) rfl fun ρ g w R => ?_
  have K1 : ∀ (_ : Unit), impl_FindThing_L1_a = some r → Gr R [.code (cAt Tryd.f12 [1, 1])] (⟨[], []⟩) := by
    intro _ hM
    unfold impl_FindThing_L1_a at hM
    have hE : some (-1) = some r := hM
    have hE := Option.some.inj hE
    subst hE
    exact pr R 9999 [] [] [] [] True.intro (by kernel_rfl)
  refine pc R 9999 [.ln (a0.length)] [.keep [1, 7, 8, 9] []] (k' := [.code (.loop (cAt Tryd.f12 [1, 0, 1, 0, 0])), .blk 0, .code (cAt Tryd.f12 [1, 1])]) (S' := impl_FindThing_L1_S a0 a1 0) (And.intro (lenm Thing.enc a0) True.intro) (by kernel_rfl) ?_
  refine lq (impl_FindThing_L1_S a0 a1) (body := impl_FindThing_L1 a0 a1) (k := impl_FindThing_L1_k) hM fun m1 s c1 hM hK1 => ?_
  obtain ⟨s1, hs⟩ : ∃ z, z = s := ⟨_, rfl⟩
  subst hs
  have hM : impl_FindThing_L1_b a0 a1 s1 = some c1 := hM
  unfold impl_FindThing_L1_b at hM
  rcases cond_cases hM with ⟨h2, hM⟩ | ⟨h2, hM⟩
  · obtain ⟨v3, h4, hM⟩ := bind_some hM
    rcases cond_cases hM with ⟨h5, hM⟩ | ⟨h5, hM⟩
    · have hE : some (Ctl.ret s1) = some c1 := hM
      have hE := Option.some.inj hE
      subst hE
      have hE : some s1 = some r := hK1
      have hE := Option.some.inj hE
      subst hE
      exact pr R 9999 [.as 10 true, .ix (Thing.enc v3), .new 0, .as 17 true] [] [] [] (And.intro h2 (And.intro (gi_map Thing.enc h4) (And.intro h5 True.intro))) (by kernel_rfl)
    · have hE : some (Ctl.next (w64 (s1 + 1))) = some c1 := hM
      have hE := Option.some.inj hE
      subst hE
      exact pc R 9999 [.as 10 true, .ix (Thing.enc v3), .new 0, .as 17 false] [.keep [1, 7, 8, 9] []] (And.intro h2 (And.intro (gi_map Thing.enc h4) (And.intro h5 True.intro))) (by kernel_rfl) (li (Sf := impl_FindThing_L1_S a0 a1) (M := Mk (impl_FindThing_L1 a0 a1) (impl_FindThing_L1_k) r) (k := [.blk 0, .code (cAt Tryd.f12 [1, 1])]) (Nat.lt_succ_self m1) hK1)
  · have hE : some (Ctl.brk ()) = some c1 := hM
    have hE := Option.some.inj hE
    subst hE
    exact pc R 5 [.as 10 false] [.keep [] []] (And.intro h2 True.intro) (by kernel_rfl) (K1 () hK1)

-- loop.example/g03014/impl.isBox
def impl_isBox (a0 : (List Thing)) (a1 : Int) : Option Bool :=
  (impl_FindThing a0 a1).bind fun v1 =>
  bif (decide (v1 ≥ 0)) then
  (gi a0 v1).bind fun v4 =>
  some v4.Box
  else
  some false
theorem impl_isBox_ok (a0 : (List Thing)) (a1 : Int) (r : Bool) (hM : impl_isBox a0 a1 = some r) :
    Con Tryd.prog 23 [.c (.rs 6 (a0.map Thing.enc)), .c (.v (.int .i64 a1))] [] (.o (.c (.v (.bool r)))) [] [] := by
  unfold impl_isBox at hM
  refine cn (N := 18) (pids := []) Tryd_mixed Tryd.func23 (by kernel_rfl) (by kernel_rfl) (by kernel_rfl) rfl fun ρ g w R => ?_
  obtain ⟨v1, h2, hM⟩ := bind_some hM
  rcases cond_cases hM with ⟨h3, hM⟩ | ⟨h3, hM⟩
  · obtain ⟨v4, h5, hM⟩ := bind_some hM
    have hE : some v4.Box = some r := hM
    have hE := Option.some.inj hE
    subst hE
    exact pr R 9999 [.call false [] (.o (.c (.v (.int .i64 v1)))) [] [], .as 11 true, .ix (Thing.enc v4)] [] [] [] (And.intro (impl_FindThing_ok a0 a1 v1 h2) (And.intro h3 (And.intro (gi_map Thing.enc h5) True.intro))) (by kernel_rfl)
  · have hE : some false = some r := hM
    have hE := Option.some.inj hE
    subst hE
    exact pr R 9999 [.call false [] (.o (.c (.v (.int .i64 v1)))) [] [], .as 11 false] [] [] [] (And.intro (impl_FindThing_ok a0 a1 v1 h2) (And.intro h3 True.intro)) (by kernel_rfl)

-- loop.example/g03014/impl.around
def impl_around_L1_b (a0 : (List Thing)) (s3 : (List Int)) (s4 : Int) : Option (Ctl ((List Int) × Int) (List Int) (List Int)) :=
  bif (decide (s4 ≥ 0)) then
  (gi a0 s4).bind fun v7 =>
  bif (v7.In != 0) then
  bif (decide ((s3.length : Int) ≤ 4)) then
  (gi a0 s4).bind fun v11 =>
  (ap 8 s3 ([v11.In] : List Int)).bind fun v13 =>
  (gi a0 s4).bind fun v15 =>
  (impl_FindThing a0 v15.In).bind fun v17 =>
  some (.next (v13, v17))
  else
  some (.brk s3)
  else
  some (.brk s3)
  else
  some (.brk s3)
def impl_around_L1 (a0 : (List Thing)) (s : (List Int) × Int) : Option (Ctl ((List Int) × Int) (List Int) (List Int)) := impl_around_L1_b a0 s.1 s.2
def impl_around_L1_s (a0 : (List Thing)) (s3 : (List Int)) (s4 : Int) : St := ⟨[(0, .o (.c (.rs 6 (a0.map Thing.enc)))), (5, .o (.c (.sl 0))), (6, .o (.c (.v (.int .i64 s4))))], [(0, .row 3 1 (s3.map encI))]⟩
def impl_around_L1_S (a0 : (List Thing)) (s : (List Int) × Int) : St := impl_around_L1_s a0 s.1 s.2
def impl_around_L1_a (s5 : (List Int)) : Option (List Int) :=
  some s5
def impl_around_L1_k (x : ((List Int)) ⊕ ((List Int))) : Option (List Int) := match x with
  | .inl t => impl_around_L1_a t
  | .inr y => some y
def impl_around (a0 : (List Thing)) (a1 : Int) : Option (List Int) :=
  (impl_FindThing a0 a1).bind fun v1 =>
  (loopM (impl_around_L1 a0) big (([] : List Int), v1)).bind (impl_around_L1_k)
theorem impl_around_ok (a0 : (List Thing)) (a1 : Int) (r : (List Int)) (hM : impl_around a0 a1 = some r) :
    Con Tryd.prog 30 [.c (.rs 6 (a0.map Thing.enc)), .c (.v (.int .i64 a1))] [] (.o (.c (.sl 1000))) [] [(1000, .row 3 1 (r.map encI))] := by
  unfold impl_around at hM
  refine cn (N := 42) (pids := []) Tryd_mixed Tryd.func30 (by kernel_rfl) (by kernel_rfl) (by kernel_rfl) rfl fun ρ g w R => ?_
  obtain ⟨v1, h2, hM⟩ := bind_some hM
  have K1 : ∀ (s5 : (List Int)), impl_around_L1_a s5 = some r → Gr R [.code (cAt Tryd.f30 [1, 1, 1, 1])] (⟨[(5, .o (.c (.sl 0)))], [(0, .row 3 1 (s5.map encI))]⟩) := by
    intro s5 hM
    unfold impl_around_L1_a at hM
    have hE : some s5 = some r := hM
    have hE := Option.some.inj hE
    subst hE
    exact pr R 9999 [] [.sw 0 1000] [] [1000] True.intro (by kernel_rfl)
  refine pc R 9999 [.new 0, .call false [] (.o (.c (.v (.int .i64 v1)))) [] []] [.keep [0, 5, 6] [0]] (k' := [.code (.loop (cAt Tryd.f30 [1, 1, 1, 0, 0, 0])), .blk 0, .code (cAt Tryd.f30 [1, 1, 1, 1])]) (S' := impl_around_L1_S a0 (([] : List Int), v1)) (And.intro (impl_FindThing_ok a0 a1 v1 h2) True.intro) (by kernel_rfl) ?_
  refine lq (impl_around_L1_S a0) (body := impl_around_L1 a0) (k := impl_around_L1_k) hM fun m1 s c1 hM hK1 => ?_
  obtain ⟨s3, s4⟩ := s
  have hM : impl_around_L1_b a0 s3 s4 = some c1 := hM
  unfold impl_around_L1_b at hM
  rcases cond_cases hM with ⟨h6, hM⟩ | ⟨h6, hM⟩
  · obtain ⟨v7, h8, hM⟩ := bind_some hM
    rcases cond_cases hM with ⟨h9, hM⟩ | ⟨h9, hM⟩
    · rcases cond_cases hM with ⟨h10, hM⟩ | ⟨h10, hM⟩
      · obtain ⟨v11, h12, hM⟩ := bind_some hM
        obtain ⟨v13, h14, hM⟩ := bind_some hM
        obtain ⟨v15, h16, hM⟩ := bind_some hM
        obtain ⟨v17, h18, hM⟩ := bind_some hM
        have hE : some (Ctl.next (v13, v17)) = some c1 := hM
        have hE := Option.some.inj hE
        subst hE
        exact pc R 9999 [.as 13 true, .ix (Thing.enc v7), .as 21 true, .ln (s3.length), .as 25 true, .ix (Thing.enc v11), .new 1, .new 2, .nm (v13.map encI), .ix (Thing.enc v15), .call false [] (.o (.c (.v (.int .i64 v17)))) [] []] [.sw 2 0, .keep [0, 5, 6] [0]] (And.intro h6 (And.intro (gi_map Thing.enc h8) (And.intro h9 (And.intro (lenm encI s3) (And.intro h10 (And.intro (gi_map Thing.enc h12) (And.intro (ap_ok encI h14) (And.intro (gi_map Thing.enc h16) (And.intro (impl_FindThing_ok a0 v15.In v17 h18) True.intro))))))))) (by kernel_rfl) (li (Sf := impl_around_L1_S a0) (M := Mk (impl_around_L1 a0) (impl_around_L1_k) r) (k := [.blk 0, .code (cAt Tryd.f30 [1, 1, 1, 1])]) (Nat.lt_succ_self m1) hK1)
      · have hE : some (Ctl.brk s3) = some c1 := hM
        have hE := Option.some.inj hE
        subst hE
        exact pc R 5 [.as 13 true, .ix (Thing.enc v7), .as 21 true, .ln (s3.length), .as 25 false] [.keep [5] [0]] (And.intro h6 (And.intro (gi_map Thing.enc h8) (And.intro h9 (And.intro (lenm encI s3) (And.intro h10 True.intro))))) (by kernel_rfl) (K1 s3 hK1)
    · have hE : some (Ctl.brk s3) = some c1 := hM
      have hE := Option.some.inj hE
      subst hE
      exact pc R 5 [.as 13 true, .ix (Thing.enc v7), .as 21 false] [.keep [5] [0]] (And.intro h6 (And.intro (gi_map Thing.enc h8) (And.intro h9 True.intro))) (by kernel_rfl) (K1 s3 hK1)
  · have hE : some (Ctl.brk s3) = some c1 := hM
    have hE := Option.some.inj hE
    subst hE
    exact pc R 5 [.as 13 false] [.keep [5] [0]] (And.intro h6 True.intro) (by kernel_rfl) (K1 s3 hK1)

-- loop.example/g03014/impl.areDeep
def impl_areDeep_L2_b (a0 : (List Thing)) (s2 : Int) : Option (Ctl Int Unit Bool) :=
  bif (decide (s2 < (a0.length : Int))) then
  (gi a0 s2).bind fun v4 =>
  (impl_around a0 v4.Id).bind fun v6 =>
  bif (decide ((v6.length : Int) > 4)) then
  some (.ret false)
  else
  some (.next (w64 (s2 + 1)))
  else
  some (.brk ())
def impl_areDeep_L2 (a0 : (List Thing)) (s : Int) : Option (Ctl Int Unit Bool) := impl_areDeep_L2_b a0 s
def impl_areDeep_L2_s (a0 : (List Thing)) (s2 : Int) : St := ⟨[(0, .o (.c (.rs 6 (a0.map Thing.enc)))), (74, .o (.c (.rs 6 (a0.map Thing.enc)))), (75, .o (.c (.v (.int .i64 (a0.length : Int))))), (76, .o (.c (.v (.int .i64 s2))))], []⟩
def impl_areDeep_L2_S (a0 : (List Thing)) (s : Int) : St := impl_areDeep_L2_s a0 s
def impl_areDeep_L2_a (a0 : (List Thing)) : Option Bool :=
  some (decide ((a0.length : Int) ≤ 40))
def impl_areDeep_L2_k (a0 : (List Thing)) (x : (Unit) ⊕ (Bool)) : Option Bool := match x with
  | .inl t => impl_areDeep_L2_a a0
  | .inr y => some y
def impl_areDeep_L1_b (a0 : (List Thing)) (s1 : Int) : Option (Ctl Int Unit Bool) :=
  bif (decide (s1 < (a0.length : Int))) then
  (gi a0 s1).bind fun v10 =>
  (impl_within v10.Id 1 9999).bind fun v12 =>
  bif (!v12) then
  some (.ret false)
  else
  bif (decide (s1 > 0)) then
  (gi a0 (w64 (s1 - 1))).bind fun v16 =>
  bif (decide (v16.Id ≥ v10.Id)) then
  some (.ret false)
  else
  (impl_within v10.Own 1 30000).bind fun v19 =>
  bif (!v19) then
  some (.ret false)
  else
  bif v10.Box then
  (impl_within v10.Room 1 1000000).bind fun v23 =>
  bif (!v23) then
  some (.ret false)
  else
  bif (!v10.Box) then
  bif (v10.Room != 0) then
  some (.ret false)
  else
  bif v10.Sealed then
  some (.ret false)
  else
  bif (v10.In != 0) then
  (impl_isBox a0 v10.In).bind fun v30 =>
  bif (!v30) then
  some (.ret false)
  else
  some (.next (w64 (s1 + 1)))
  else
  some (.next (w64 (s1 + 1)))
  else
  bif (v10.In != 0) then
  (impl_isBox a0 v10.In).bind fun v34 =>
  bif (!v34) then
  some (.ret false)
  else
  some (.next (w64 (s1 + 1)))
  else
  some (.next (w64 (s1 + 1)))
  else
  bif (!v10.Box) then
  bif (v10.Room != 0) then
  some (.ret false)
  else
  bif v10.Sealed then
  some (.ret false)
  else
  bif (v10.In != 0) then
  (impl_isBox a0 v10.In).bind fun v41 =>
  bif (!v41) then
  some (.ret false)
  else
  some (.next (w64 (s1 + 1)))
  else
  some (.next (w64 (s1 + 1)))
  else
  bif (v10.In != 0) then
  (impl_isBox a0 v10.In).bind fun v45 =>
  bif (!v45) then
  some (.ret false)
  else
  some (.next (w64 (s1 + 1)))
  else
  some (.next (w64 (s1 + 1)))
  else
  (impl_within v10.Own 1 30000).bind fun v48 =>
  bif (!v48) then
  some (.ret false)
  else
  bif v10.Box then
  (impl_within v10.Room 1 1000000).bind fun v52 =>
  bif (!v52) then
  some (.ret false)
  else
  bif (!v10.Box) then
  bif (v10.Room != 0) then
  some (.ret false)
  else
  bif v10.Sealed then
  some (.ret false)
  else
  bif (v10.In != 0) then
  (impl_isBox a0 v10.In).bind fun v59 =>
  bif (!v59) then
  some (.ret false)
  else
  some (.next (w64 (s1 + 1)))
  else
  some (.next (w64 (s1 + 1)))
  else
  bif (v10.In != 0) then
  (impl_isBox a0 v10.In).bind fun v63 =>
  bif (!v63) then
  some (.ret false)
  else
  some (.next (w64 (s1 + 1)))
  else
  some (.next (w64 (s1 + 1)))
  else
  bif (!v10.Box) then
  bif (v10.Room != 0) then
  some (.ret false)
  else
  bif v10.Sealed then
  some (.ret false)
  else
  bif (v10.In != 0) then
  (impl_isBox a0 v10.In).bind fun v70 =>
  bif (!v70) then
  some (.ret false)
  else
  some (.next (w64 (s1 + 1)))
  else
  some (.next (w64 (s1 + 1)))
  else
  bif (v10.In != 0) then
  (impl_isBox a0 v10.In).bind fun v74 =>
  bif (!v74) then
  some (.ret false)
  else
  some (.next (w64 (s1 + 1)))
  else
  some (.next (w64 (s1 + 1)))
  else
  some (.brk ())
def impl_areDeep_L1 (a0 : (List Thing)) (s : Int) : Option (Ctl Int Unit Bool) := impl_areDeep_L1_b a0 s
def impl_areDeep_L1_s (a0 : (List Thing)) (s1 : Int) : St := ⟨[(0, .o (.c (.rs 6 (a0.map Thing.enc)))), (7, .o (.c (.rs 6 (a0.map Thing.enc)))), (8, .o (.c (.v (.int .i64 (a0.length : Int))))), (9, .o (.c (.v (.int .i64 s1))))], []⟩
def impl_areDeep_L1_S (a0 : (List Thing)) (s : Int) : St := impl_areDeep_L1_s a0 s
def impl_areDeep_L1_a (a0 : (List Thing)) : Option Bool :=
  (loopM (impl_areDeep_L2 a0) big 0).bind (impl_areDeep_L2_k a0)
def impl_areDeep_L1_k (a0 : (List Thing)) (x : (Unit) ⊕ (Bool)) : Option Bool := match x with
  | .inl t => impl_areDeep_L1_a a0
  | .inr y => some y
def impl_areDeep (a0 : (List Thing)) : Option Bool :=
  (loopM (impl_areDeep_L1 a0) big 0).bind (impl_areDeep_L1_k a0)
theorem impl_areDeep_ok (a0 : (List Thing)) (r : Bool) (hM : impl_areDeep a0 = some r) :
    Con Tryd.prog 51 [.c (.rs 6 (a0.map Thing.enc))] [] (.o (.c (.v (.bool r)))) [] [] := by
  unfold impl_areDeep at hM
  refine cn (N := 90) (pids := []) Tryd_mixed Tryd.func51 (by kernel_rfl) (by kernel_rfl) (by kernel_rfl) rfl fun ρ g w R => ?_
  have K1 : ∀ (_ : Unit), impl_areDeep_L1_a a0 = some r → Gr R [.code (cAt Tryd.f51 [1, 1])] (⟨[(0, .o (.c (.rs 6 (a0.map Thing.enc))))], []⟩) := by
    intro _ hM
    unfold impl_areDeep_L1_a at hM
    have K2 : ∀ (_ : Unit), impl_areDeep_L2_a a0 = some r → Gr R [.code (cAt Tryd.f51 [1, 1, 1])] (⟨[(0, .o (.c (.rs 6 (a0.map Thing.enc))))], []⟩) := by
      intro _ hM
      unfold impl_areDeep_L2_a at hM
      have hE : some (decide ((a0.length : Int) ≤ 40)) = some r := hM
      have hE := Option.some.inj hE
      subst hE
      exact pr R 9999 [.ln (a0.length)] [] [] [] (And.intro (lenm Thing.enc a0) True.intro) (by kernel_rfl)
    refine pc R 9999 [.ln (a0.length)] [.keep [0, 74, 75, 76] []] (k' := [.code (.loop (cAt Tryd.f51 [1, 1, 0, 1, 0, 0])), .blk 2, .code (cAt Tryd.f51 [1, 1, 1])]) (S' := impl_areDeep_L2_S a0 0) (And.intro (lenm Thing.enc a0) True.intro) (by kernel_rfl) ?_
    refine lq (impl_areDeep_L2_S a0) (body := impl_areDeep_L2 a0) (k := impl_areDeep_L2_k a0) hM fun m2 s c2 hM hK2 => ?_
    obtain ⟨s2, hs⟩ : ∃ z, z = s := ⟨_, rfl⟩
    subst hs
    have hM : impl_areDeep_L2_b a0 s2 = some c2 := hM
    unfold impl_areDeep_L2_b at hM
    rcases cond_cases hM with ⟨h3, hM⟩ | ⟨h3, hM⟩
    · obtain ⟨v4, h5, hM⟩ := bind_some hM
      obtain ⟨v6, h7, hM⟩ := bind_some hM
      rcases cond_cases hM with ⟨h8, hM⟩ | ⟨h8, hM⟩
      · have hE : some (Ctl.ret false) = some c2 := hM
        have hE := Option.some.inj hE
        subst hE
        have hE : some false = some r := hK2
        have hE := Option.some.inj hE
        subst hE
        exact pr R 9999 [.as 77 true, .ix (Thing.enc v4), .new 0, .call false [] (.o (.c (.sl 1))) [] [(1, .row 3 1 (v6.map encI))], .ln (v6.length), .as 85 true] [] [] [] (And.intro h3 (And.intro (gi_map Thing.enc h5) (And.intro (And.intro (con_sw 1000 1 (impl_around_ok a0 v4.Id v6 h7)) (rfl : ([] : List Nat) = [])) (And.intro (lenm encI v6) (And.intro h8 True.intro))))) (by kernel_rfl)
      · have hE : some (Ctl.next (w64 (s2 + 1))) = some c2 := hM
        have hE := Option.some.inj hE
        subst hE
        exact pc R 9999 [.as 77 true, .ix (Thing.enc v4), .new 0, .call false [] (.o (.c (.sl 1))) [] [(1, .row 3 1 (v6.map encI))], .ln (v6.length), .as 85 false] [.keep [0, 74, 75, 76] []] (And.intro h3 (And.intro (gi_map Thing.enc h5) (And.intro (And.intro (con_sw 1000 1 (impl_around_ok a0 v4.Id v6 h7)) (rfl : ([] : List Nat) = [])) (And.intro (lenm encI v6) (And.intro h8 True.intro))))) (by kernel_rfl) (li (Sf := impl_areDeep_L2_S a0) (M := Mk (impl_areDeep_L2 a0) (impl_areDeep_L2_k a0) r) (k := [.blk 2, .code (cAt Tryd.f51 [1, 1, 1])]) (Nat.lt_succ_self m2) hK2)
    · have hE : some (Ctl.brk ()) = some c2 := hM
      have hE := Option.some.inj hE
      subst hE
      exact pc R 5 [.as 77 false] [.keep [0] []] (And.intro h3 True.intro) (by kernel_rfl) (K2 () hK2)
  refine pc R 9999 [.ln (a0.length)] [.keep [0, 7, 8, 9] []] (k' := [.code (.loop (cAt Tryd.f51 [1, 0, 1, 0, 0])), .blk 0, .code (cAt Tryd.f51 [1, 1])]) (S' := impl_areDeep_L1_S a0 0) (And.intro (lenm Thing.enc a0) True.intro) (by kernel_rfl) ?_
  refine lq (impl_areDeep_L1_S a0) (body := impl_areDeep_L1 a0) (k := impl_areDeep_L1_k a0) hM fun m1 s c1 hM hK1 => ?_
  obtain ⟨s1, hs⟩ : ∃ z, z = s := ⟨_, rfl⟩
  subst hs
  have hM : impl_areDeep_L1_b a0 s1 = some c1 := hM
  unfold impl_areDeep_L1_b at hM
  rcases cond_cases hM with ⟨h9, hM⟩ | ⟨h9, hM⟩
  · obtain ⟨v10, h11, hM⟩ := bind_some hM
    obtain ⟨v12, h13, hM⟩ := bind_some hM
    rcases cond_cases hM with ⟨h14, hM⟩ | ⟨h14, hM⟩
    · have hE : some (Ctl.ret false) = some c1 := hM
      have hE := Option.some.inj hE
      subst hE
      have hE : some false = some r := hK1
      have hE := Option.some.inj hE
      subst hE
      exact pr R 9999 [.as 10 true, .ix (Thing.enc v10), .new 2, .call false [] (.o (.c (.v (.bool v12)))) [] [], .as 18 true] [] [] [] (And.intro h9 (And.intro (gi_map Thing.enc h11) (And.intro (impl_within_ok v10.Id 1 9999 v12 h13) (And.intro h14 True.intro)))) (by kernel_rfl)
    · rcases cond_cases hM with ⟨h15, hM⟩ | ⟨h15, hM⟩
      · obtain ⟨v16, h17, hM⟩ := bind_some hM
        rcases cond_cases hM with ⟨h18, hM⟩ | ⟨h18, hM⟩
        · have hE : some (Ctl.ret false) = some c1 := hM
          have hE := Option.some.inj hE
          subst hE
          have hE : some false = some r := hK1
          have hE := Option.some.inj hE
          subst hE
          exact pr R 9999 [.as 10 true, .ix (Thing.enc v10), .new 2, .call false [] (.o (.c (.v (.bool v12)))) [] [], .as 18 false, .as 21 true, .ix (Thing.enc v16), .as 33 true] [] [] [] (And.intro h9 (And.intro (gi_map Thing.enc h11) (And.intro (impl_within_ok v10.Id 1 9999 v12 h13) (And.intro h14 (And.intro h15 (And.intro (gi_map Thing.enc h17) (And.intro h18 True.intro))))))) (by kernel_rfl)
        · obtain ⟨v19, h20, hM⟩ := bind_some hM
          rcases cond_cases hM with ⟨h21, hM⟩ | ⟨h21, hM⟩
          · have hE : some (Ctl.ret false) = some c1 := hM
            have hE := Option.some.inj hE
            subst hE
            have hE : some false = some r := hK1
            have hE := Option.some.inj hE
            subst hE
            exact pr R 9999 [.as 10 true, .ix (Thing.enc v10), .new 2, .call false [] (.o (.c (.v (.bool v12)))) [] [], .as 18 false, .as 21 true, .ix (Thing.enc v16), .as 33 false, .call false [] (.o (.c (.v (.bool v19)))) [] [], .as 38 true] [] [] [] (And.intro h9 (And.intro (gi_map Thing.enc h11) (And.intro (impl_within_ok v10.Id 1 9999 v12 h13) (And.intro h14 (And.intro h15 (And.intro (gi_map Thing.enc h17) (And.intro h18 (And.intro (impl_within_ok v10.Own 1 30000 v19 h20) (And.intro h21 True.intro))))))))) (by kernel_rfl)
          · rcases cond_cases hM with ⟨h22, hM⟩ | ⟨h22, hM⟩
            · obtain ⟨v23, h24, hM⟩ := bind_some hM
              rcases cond_cases hM with ⟨h25, hM⟩ | ⟨h25, hM⟩
              · have hE : some (Ctl.ret false) = some c1 := hM
                have hE := Option.some.inj hE
                subst hE
                have hE : some false = some r := hK1
                have hE := Option.some.inj hE
                subst hE
                exact pr R 9999 [.as 10 true, .ix (Thing.enc v10), .new 2, .call false [] (.o (.c (.v (.bool v12)))) [] [], .as 18 false, .as 21 true, .ix (Thing.enc v16), .as 33 false, .call false [] (.o (.c (.v (.bool v19)))) [] [], .as 38 false, .as 41 true, .call false [] (.o (.c (.v (.bool v23)))) [] [], .as 47 true] [] [] [] (And.intro h9 (And.intro (gi_map Thing.enc h11) (And.intro (impl_within_ok v10.Id 1 9999 v12 h13) (And.intro h14 (And.intro h15 (And.intro (gi_map Thing.enc h17) (And.intro h18 (And.intro (impl_within_ok v10.Own 1 30000 v19 h20) (And.intro h21 (And.intro h22 (And.intro (impl_within_ok v10.Room 1 1000000 v23 h24) (And.intro h25 True.intro)))))))))))) (by kernel_rfl)
              · rcases cond_cases hM with ⟨h26, hM⟩ | ⟨h26, hM⟩
                · rcases cond_cases hM with ⟨h27, hM⟩ | ⟨h27, hM⟩
                  · have hE : some (Ctl.ret false) = some c1 := hM
                    have hE := Option.some.inj hE
                    subst hE
                    have hE : some false = some r := hK1
                    have hE := Option.some.inj hE
                    subst hE
                    exact pr R 9999 [.as 10 true, .ix (Thing.enc v10), .new 2, .call false [] (.o (.c (.v (.bool v12)))) [] [], .as 18 false, .as 21 true, .ix (Thing.enc v16), .as 33 false, .call false [] (.o (.c (.v (.bool v19)))) [] [], .as 38 false, .as 41 true, .call false [] (.o (.c (.v (.bool v23)))) [] [], .as 47 false, .as 51 true, .as 55 true] [] [] [] (And.intro h9 (And.intro (gi_map Thing.enc h11) (And.intro (impl_within_ok v10.Id 1 9999 v12 h13) (And.intro h14 (And.intro h15 (And.intro (gi_map Thing.enc h17) (And.intro h18 (And.intro (impl_within_ok v10.Own 1 30000 v19 h20) (And.intro h21 (And.intro h22 (And.intro (impl_within_ok v10.Room 1 1000000 v23 h24) (And.intro h25 (And.intro h26 (And.intro h27 True.intro)))))))))))))) (by kernel_rfl)
                  · rcases cond_cases hM with ⟨h28, hM⟩ | ⟨h28, hM⟩
                    · have hE : some (Ctl.ret false) = some c1 := hM
                      have hE := Option.some.inj hE
                      subst hE
                      have hE : some false = some r := hK1
                      have hE := Option.some.inj hE
                      subst hE
                      exact pr R 9999 [.as 10 true, .ix (Thing.enc v10), .new 2, .call false [] (.o (.c (.v (.bool v12)))) [] [], .as 18 false, .as 21 true, .ix (Thing.enc v16), .as 33 false, .call false [] (.o (.c (.v (.bool v19)))) [] [], .as 38 false, .as 41 true, .call false [] (.o (.c (.v (.bool v23)))) [] [], .as 47 false, .as 51 true, .as 55 false, .as 61 true] [] [] [] (And.intro h9 (And.intro (gi_map Thing.enc h11) (And.intro (impl_within_ok v10.Id 1 9999 v12 h13) (And.intro h14 (And.intro h15 (And.intro (gi_map Thing.enc h17) (And.intro h18 (And.intro (impl_within_ok v10.Own 1 30000 v19 h20) (And.intro h21 (And.intro h22 (And.intro (impl_within_ok v10.Room 1 1000000 v23 h24) (And.intro h25 (And.intro h26 (And.intro h27 (And.intro h28 True.intro))))))))))))))) (by kernel_rfl)
                    · rcases cond_cases hM with ⟨h29, hM⟩ | ⟨h29, hM⟩
                      · obtain ⟨v30, h31, hM⟩ := bind_some hM
                        rcases cond_cases hM with ⟨h32, hM⟩ | ⟨h32, hM⟩
                        · have hE : some (Ctl.ret false) = some c1 := hM
                          have hE := Option.some.inj hE
                          subst hE
                          have hE : some false = some r := hK1
                          have hE := Option.some.inj hE
                          subst hE
                          exact pr R 9999 [.as 10 true, .ix (Thing.enc v10), .new 2, .call false [] (.o (.c (.v (.bool v12)))) [] [], .as 18 false, .as 21 true, .ix (Thing.enc v16), .as 33 false, .call false [] (.o (.c (.v (.bool v19)))) [] [], .as 38 false, .as 41 true, .call false [] (.o (.c (.v (.bool v23)))) [] [], .as 47 false, .as 51 true, .as 55 false, .as 61 false, .as 65 true, .call false [] (.o (.c (.v (.bool v30)))) [] [], .as 72 true] [] [] [] (And.intro h9 (And.intro (gi_map Thing.enc h11) (And.intro (impl_within_ok v10.Id 1 9999 v12 h13) (And.intro h14 (And.intro h15 (And.intro (gi_map Thing.enc h17) (And.intro h18 (And.intro (impl_within_ok v10.Own 1 30000 v19 h20) (And.intro h21 (And.intro h22 (And.intro (impl_within_ok v10.Room 1 1000000 v23 h24) (And.intro h25 (And.intro h26 (And.intro h27 (And.intro h28 (And.intro h29 (And.intro (impl_isBox_ok a0 v10.In v30 h31) (And.intro h32 True.intro)))))))))))))))))) (by kernel_rfl)
                        · have hE : some (Ctl.next (w64 (s1 + 1))) = some c1 := hM
                          have hE := Option.some.inj hE
                          subst hE
                          exact pc R 9999 [.as 10 true, .ix (Thing.enc v10), .new 2, .call false [] (.o (.c (.v (.bool v12)))) [] [], .as 18 false, .as 21 true, .ix (Thing.enc v16), .as 33 false, .call false [] (.o (.c (.v (.bool v19)))) [] [], .as 38 false, .as 41 true, .call false [] (.o (.c (.v (.bool v23)))) [] [], .as 47 false, .as 51 true, .as 55 false, .as 61 false, .as 65 true, .call false [] (.o (.c (.v (.bool v30)))) [] [], .as 72 false] [.keep [0, 7, 8, 9] []] (And.intro h9 (And.intro (gi_map Thing.enc h11) (And.intro (impl_within_ok v10.Id 1 9999 v12 h13) (And.intro h14 (And.intro h15 (And.intro (gi_map Thing.enc h17) (And.intro h18 (And.intro (impl_within_ok v10.Own 1 30000 v19 h20) (And.intro h21 (And.intro h22 (And.intro (impl_within_ok v10.Room 1 1000000 v23 h24) (And.intro h25 (And.intro h26 (And.intro h27 (And.intro h28 (And.intro h29 (And.intro (impl_isBox_ok a0 v10.In v30 h31) (And.intro h32 True.intro)))))))))))))))))) (by kernel_rfl) (li (Sf := impl_areDeep_L1_S a0) (M := Mk (impl_areDeep_L1 a0) (impl_areDeep_L1_k a0) r) (k := [.blk 0, .code (cAt Tryd.f51 [1, 1])]) (Nat.lt_succ_self m1) hK1)
                      · have hE : some (Ctl.next (w64 (s1 + 1))) = some c1 := hM
                        have hE := Option.some.inj hE
                        subst hE
                        exact pc R 9999 [.as 10 true, .ix (Thing.enc v10), .new 2, .call false [] (.o (.c (.v (.bool v12)))) [] [], .as 18 false, .as 21 true, .ix (Thing.enc v16), .as 33 false, .call false [] (.o (.c (.v (.bool v19)))) [] [], .as 38 false, .as 41 true, .call false [] (.o (.c (.v (.bool v23)))) [] [], .as 47 false, .as 51 true, .as 55 false, .as 61 false, .as 65 false] [.keep [0, 7, 8, 9] []] (And.intro h9 (And.intro (gi_map Thing.enc h11) (And.intro (impl_within_ok v10.Id 1 9999 v12 h13) (And.intro h14 (And.intro h15 (And.intro (gi_map Thing.enc h17) (And.intro h18 (And.intro (impl_within_ok v10.Own 1 30000 v19 h20) (And.intro h21 (And.intro h22 (And.intro (impl_within_ok v10.Room 1 1000000 v23 h24) (And.intro h25 (And.intro h26 (And.intro h27 (And.intro h28 (And.intro h29 True.intro)))))))))))))))) (by kernel_rfl) (li (Sf := impl_areDeep_L1_S a0) (M := Mk (impl_areDeep_L1 a0) (impl_areDeep_L1_k a0) r) (k := [.blk 0, .code (cAt Tryd.f51 [1, 1])]) (Nat.lt_succ_self m1) hK1)
                · rcases cond_cases hM with ⟨h33, hM⟩ | ⟨h33, hM⟩
                  · obtain ⟨v34, h35, hM⟩ := bind_some hM
                    rcases cond_cases hM with ⟨h36, hM⟩ | ⟨h36, hM⟩
                    · have hE : some (Ctl.ret false) = some c1 := hM
                      have hE := Option.some.inj hE
                      subst hE
                      have hE : some false = some r := hK1
                      have hE := Option.some.inj hE
                      subst hE
                      exact pr R 9999 [.as 10 true, .ix (Thing.enc v10), .new 2, .call false [] (.o (.c (.v (.bool v12)))) [] [], .as 18 false, .as 21 true, .ix (Thing.enc v16), .as 33 false, .call false [] (.o (.c (.v (.bool v19)))) [] [], .as 38 false, .as 41 true, .call false [] (.o (.c (.v (.bool v23)))) [] [], .as 47 false, .as 51 false, .as 65 true, .call false [] (.o (.c (.v (.bool v34)))) [] [], .as 72 true] [] [] [] (And.intro h9 (And.intro (gi_map Thing.enc h11) (And.intro (impl_within_ok v10.Id 1 9999 v12 h13) (And.intro h14 (And.intro h15 (And.intro (gi_map Thing.enc h17) (And.intro h18 (And.intro (impl_within_ok v10.Own 1 30000 v19 h20) (And.intro h21 (And.intro h22 (And.intro (impl_within_ok v10.Room 1 1000000 v23 h24) (And.intro h25 (And.intro h26 (And.intro h33 (And.intro (impl_isBox_ok a0 v10.In v34 h35) (And.intro h36 True.intro)))))))))))))))) (by kernel_rfl)
                    · have hE : some (Ctl.next (w64 (s1 + 1))) = some c1 := hM
                      have hE := Option.some.inj hE
                      subst hE
                      exact pc R 9999 [.as 10 true, .ix (Thing.enc v10), .new 2, .call false [] (.o (.c (.v (.bool v12)))) [] [], .as 18 false, .as 21 true, .ix (Thing.enc v16), .as 33 false, .call false [] (.o (.c (.v (.bool v19)))) [] [], .as 38 false, .as 41 true, .call false [] (.o (.c (.v (.bool v23)))) [] [], .as 47 false, .as 51 false, .as 65 true, .call false [] (.o (.c (.v (.bool v34)))) [] [], .as 72 false] [.keep [0, 7, 8, 9] []] (And.intro h9 (And.intro (gi_map Thing.enc h11) (And.intro (impl_within_ok v10.Id 1 9999 v12 h13) (And.intro h14 (And.intro h15 (And.intro (gi_map Thing.enc h17) (And.intro h18 (And.intro (impl_within_ok v10.Own 1 30000 v19 h20) (And.intro h21 (And.intro h22 (And.intro (impl_within_ok v10.Room 1 1000000 v23 h24) (And.intro h25 (And.intro h26 (And.intro h33 (And.intro (impl_isBox_ok a0 v10.In v34 h35) (And.intro h36 True.intro)))))))))))))))) (by kernel_rfl) (li (Sf := impl_areDeep_L1_S a0) (M := Mk (impl_areDeep_L1 a0) (impl_areDeep_L1_k a0) r) (k := [.blk 0, .code (cAt Tryd.f51 [1, 1])]) (Nat.lt_succ_self m1) hK1)
                  · have hE : some (Ctl.next (w64 (s1 + 1))) = some c1 := hM
                    have hE := Option.some.inj hE
                    subst hE
                    exact pc R 9999 [.as 10 true, .ix (Thing.enc v10), .new 2, .call false [] (.o (.c (.v (.bool v12)))) [] [], .as 18 false, .as 21 true, .ix (Thing.enc v16), .as 33 false, .call false [] (.o (.c (.v (.bool v19)))) [] [], .as 38 false, .as 41 true, .call false [] (.o (.c (.v (.bool v23)))) [] [], .as 47 false, .as 51 false, .as 65 false] [.keep [0, 7, 8, 9] []] (And.intro h9 (And.intro (gi_map Thing.enc h11) (And.intro (impl_within_ok v10.Id 1 9999 v12 h13) (And.intro h14 (And.intro h15 (And.intro (gi_map Thing.enc h17) (And.intro h18 (And.intro (impl_within_ok v10.Own 1 30000 v19 h20) (And.intro h21 (And.intro h22 (And.intro (impl_within_ok v10.Room 1 1000000 v23 h24) (And.intro h25 (And.intro h26 (And.intro h33 True.intro)))))))))))))) (by kernel_rfl) (li (Sf := impl_areDeep_L1_S a0) (M := Mk (impl_areDeep_L1 a0) (impl_areDeep_L1_k a0) r) (k := [.blk 0, .code (cAt Tryd.f51 [1, 1])]) (Nat.lt_succ_self m1) hK1)
            · rcases cond_cases hM with ⟨h37, hM⟩ | ⟨h37, hM⟩
              · rcases cond_cases hM with ⟨h38, hM⟩ | ⟨h38, hM⟩
                · have hE : some (Ctl.ret false) = some c1 := hM
                  have hE := Option.some.inj hE
                  subst hE
                  have hE : some false = some r := hK1
                  have hE := Option.some.inj hE
                  subst hE
                  exact pr R 9999 [.as 10 true, .ix (Thing.enc v10), .new 2, .call false [] (.o (.c (.v (.bool v12)))) [] [], .as 18 false, .as 21 true, .ix (Thing.enc v16), .as 33 false, .call false [] (.o (.c (.v (.bool v19)))) [] [], .as 38 false, .as 41 false, .as 51 true, .as 55 true] [] [] [] (And.intro h9 (And.intro (gi_map Thing.enc h11) (And.intro (impl_within_ok v10.Id 1 9999 v12 h13) (And.intro h14 (And.intro h15 (And.intro (gi_map Thing.enc h17) (And.intro h18 (And.intro (impl_within_ok v10.Own 1 30000 v19 h20) (And.intro h21 (And.intro h22 (And.intro h37 (And.intro h38 True.intro)))))))))))) (by kernel_rfl)
                · rcases cond_cases hM with ⟨h39, hM⟩ | ⟨h39, hM⟩
                  · have hE : some (Ctl.ret false) = some c1 := hM
                    have hE := Option.some.inj hE
                    subst hE
                    have hE : some false = some r := hK1
                    have hE := Option.some.inj hE
                    subst hE
                    exact pr R 9999 [.as 10 true, .ix (Thing.enc v10), .new 2, .call false [] (.o (.c (.v (.bool v12)))) [] [], .as 18 false, .as 21 true, .ix (Thing.enc v16), .as 33 false, .call false [] (.o (.c (.v (.bool v19)))) [] [], .as 38 false, .as 41 false, .as 51 true, .as 55 false, .as 61 true] [] [] [] (And.intro h9 (And.intro (gi_map Thing.enc h11) (And.intro (impl_within_ok v10.Id 1 9999 v12 h13) (And.intro h14 (And.intro h15 (And.intro (gi_map Thing.enc h17) (And.intro h18 (And.intro (impl_within_ok v10.Own 1 30000 v19 h20) (And.intro h21 (And.intro h22 (And.intro h37 (And.intro h38 (And.intro h39 True.intro))))))))))))) (by kernel_rfl)
                  · rcases cond_cases hM with ⟨h40, hM⟩ | ⟨h40, hM⟩
                    · obtain ⟨v41, h42, hM⟩ := bind_some hM
                      rcases cond_cases hM with ⟨h43, hM⟩ | ⟨h43, hM⟩
                      · have hE : some (Ctl.ret false) = some c1 := hM
                        have hE := Option.some.inj hE
                        subst hE
                        have hE : some false = some r := hK1
                        have hE := Option.some.inj hE
                        subst hE
                        exact pr R 9999 [.as 10 true, .ix (Thing.enc v10), .new 2, .call false [] (.o (.c (.v (.bool v12)))) [] [], .as 18 false, .as 21 true, .ix (Thing.enc v16), .as 33 false, .call false [] (.o (.c (.v (.bool v19)))) [] [], .as 38 false, .as 41 false, .as 51 true, .as 55 false, .as 61 false, .as 65 true, .call false [] (.o (.c (.v (.bool v41)))) [] [], .as 72 true] [] [] [] (And.intro h9 (And.intro (gi_map Thing.enc h11) (And.intro (impl_within_ok v10.Id 1 9999 v12 h13) (And.intro h14 (And.intro h15 (And.intro (gi_map Thing.enc h17) (And.intro h18 (And.intro (impl_within_ok v10.Own 1 30000 v19 h20) (And.intro h21 (And.intro h22 (And.intro h37 (And.intro h38 (And.intro h39 (And.intro h40 (And.intro (impl_isBox_ok a0 v10.In v41 h42) (And.intro h43 True.intro)))))))))))))))) (by kernel_rfl)
                      · have hE : some (Ctl.next (w64 (s1 + 1))) = some c1 := hM
                        have hE := Option.some.inj hE
                        subst hE
                        exact pc R 9999 [.as 10 true, .ix (Thing.enc v10), .new 2, .call false [] (.o (.c (.v (.bool v12)))) [] [], .as 18 false, .as 21 true, .ix (Thing.enc v16), .as 33 false, .call false [] (.o (.c (.v (.bool v19)))) [] [], .as 38 false, .as 41 false, .as 51 true, .as 55 false, .as 61 false, .as 65 true, .call false [] (.o (.c (.v (.bool v41)))) [] [], .as 72 false] [.keep [0, 7, 8, 9] []] (And.intro h9 (And.intro (gi_map Thing.enc h11) (And.intro (impl_within_ok v10.Id 1 9999 v12 h13) (And.intro h14 (And.intro h15 (And.intro (gi_map Thing.enc h17) (And.intro h18 (And.intro (impl_within_ok v10.Own 1 30000 v19 h20) (And.intro h21 (And.intro h22 (And.intro h37 (And.intro h38 (And.intro h39 (And.intro h40 (And.intro (impl_isBox_ok a0 v10.In v41 h42) (And.intro h43 True.intro)))))))))))))))) (by kernel_rfl) (li (Sf := impl_areDeep_L1_S a0) (M := Mk (impl_areDeep_L1 a0) (impl_areDeep_L1_k a0) r) (k := [.blk 0, .code (cAt Tryd.f51 [1, 1])]) (Nat.lt_succ_self m1) hK1)
                    · have hE : some (Ctl.next (w64 (s1 + 1))) = some c1 := hM
                      have hE := Option.some.inj hE
                      subst hE
                      exact pc R 9999 [.as 10 true, .ix (Thing.enc v10), .new 2, .call false [] (.o (.c (.v (.bool v12)))) [] [], .as 18 false, .as 21 true, .ix (Thing.enc v16), .as 33 false, .call false [] (.o (.c (.v (.bool v19)))) [] [], .as 38 false, .as 41 false, .as 51 true, .as 55 false, .as 61 false, .as 65 false] [.keep [0, 7, 8, 9] []] (And.intro h9 (And.intro (gi_map Thing.enc h11) (And.intro (impl_within_ok v10.Id 1 9999 v12 h13) (And.intro h14 (And.intro h15 (And.intro (gi_map Thing.enc h17) (And.intro h18 (And.intro (impl_within_ok v10.Own 1 30000 v19 h20) (And.intro h21 (And.intro h22 (And.intro h37 (And.intro h38 (And.intro h39 (And.intro h40 True.intro)))))))))))))) (by kernel_rfl) (li (Sf := impl_areDeep_L1_S a0) (M := Mk (impl_areDeep_L1 a0) (impl_areDeep_L1_k a0) r) (k := [.blk 0, .code (cAt Tryd.f51 [1, 1])]) (Nat.lt_succ_self m1) hK1)
              · rcases cond_cases hM with ⟨h44, hM⟩ | ⟨h44, hM⟩
                · obtain ⟨v45, h46, hM⟩ := bind_some hM
                  rcases cond_cases hM with ⟨h47, hM⟩ | ⟨h47, hM⟩
                  · have hE : some (Ctl.ret false) = some c1 := hM
                    have hE := Option.some.inj hE
                    subst hE
                    have hE : some false = some r := hK1
                    have hE := Option.some.inj hE
                    subst hE
                    exact pr R 9999 [.as 10 true, .ix (Thing.enc v10), .new 2, .call false [] (.o (.c (.v (.bool v12)))) [] [], .as 18 false, .as 21 true, .ix (Thing.enc v16), .as 33 false, .call false [] (.o (.c (.v (.bool v19)))) [] [], .as 38 false, .as 41 false, .as 51 false, .as 65 true, .call false [] (.o (.c (.v (.bool v45)))) [] [], .as 72 true] [] [] [] (And.intro h9 (And.intro (gi_map Thing.enc h11) (And.intro (impl_within_ok v10.Id 1 9999 v12 h13) (And.intro h14 (And.intro h15 (And.intro (gi_map Thing.enc h17) (And.intro h18 (And.intro (impl_within_ok v10.Own 1 30000 v19 h20) (And.intro h21 (And.intro h22 (And.intro h37 (And.intro h44 (And.intro (impl_isBox_ok a0 v10.In v45 h46) (And.intro h47 True.intro)))))))))))))) (by kernel_rfl)
                  · have hE : some (Ctl.next (w64 (s1 + 1))) = some c1 := hM
                    have hE := Option.some.inj hE
                    subst hE
                    exact pc R 9999 [.as 10 true, .ix (Thing.enc v10), .new 2, .call false [] (.o (.c (.v (.bool v12)))) [] [], .as 18 false, .as 21 true, .ix (Thing.enc v16), .as 33 false, .call false [] (.o (.c (.v (.bool v19)))) [] [], .as 38 false, .as 41 false, .as 51 false, .as 65 true, .call false [] (.o (.c (.v (.bool v45)))) [] [], .as 72 false] [.keep [0, 7, 8, 9] []] (And.intro h9 (And.intro (gi_map Thing.enc h11) (And.intro (impl_within_ok v10.Id 1 9999 v12 h13) (And.intro h14 (And.intro h15 (And.intro (gi_map Thing.enc h17) (And.intro h18 (And.intro (impl_within_ok v10.Own 1 30000 v19 h20) (And.intro h21 (And.intro h22 (And.intro h37 (And.intro h44 (And.intro (impl_isBox_ok a0 v10.In v45 h46) (And.intro h47 True.intro)))))))))))))) (by kernel_rfl) (li (Sf := impl_areDeep_L1_S a0) (M := Mk (impl_areDeep_L1 a0) (impl_areDeep_L1_k a0) r) (k := [.blk 0, .code (cAt Tryd.f51 [1, 1])]) (Nat.lt_succ_self m1) hK1)
                · have hE : some (Ctl.next (w64 (s1 + 1))) = some c1 := hM
                  have hE := Option.some.inj hE
                  subst hE
                  exact pc R 9999 [.as 10 true, .ix (Thing.enc v10), .new 2, .call false [] (.o (.c (.v (.bool v12)))) [] [], .as 18 false, .as 21 true, .ix (Thing.enc v16), .as 33 false, .call false [] (.o (.c (.v (.bool v19)))) [] [], .as 38 false, .as 41 false, .as 51 false, .as 65 false] [.keep [0, 7, 8, 9] []] (And.intro h9 (And.intro (gi_map Thing.enc h11) (And.intro (impl_within_ok v10.Id 1 9999 v12 h13) (And.intro h14 (And.intro h15 (And.intro (gi_map Thing.enc h17) (And.intro h18 (And.intro (impl_within_ok v10.Own 1 30000 v19 h20) (And.intro h21 (And.intro h22 (And.intro h37 (And.intro h44 True.intro)))))))))))) (by kernel_rfl) (li (Sf := impl_areDeep_L1_S a0) (M := Mk (impl_areDeep_L1 a0) (impl_areDeep_L1_k a0) r) (k := [.blk 0, .code (cAt Tryd.f51 [1, 1])]) (Nat.lt_succ_self m1) hK1)
      · obtain ⟨v48, h49, hM⟩ := bind_some hM
        rcases cond_cases hM with ⟨h50, hM⟩ | ⟨h50, hM⟩
        · have hE : some (Ctl.ret false) = some c1 := hM
          have hE := Option.some.inj hE
          subst hE
          have hE : some false = some r := hK1
          have hE := Option.some.inj hE
          subst hE
          exact pr R 9999 [.as 10 true, .ix (Thing.enc v10), .new 2, .call false [] (.o (.c (.v (.bool v12)))) [] [], .as 18 false, .as 21 false, .call false [] (.o (.c (.v (.bool v48)))) [] [], .as 38 true] [] [] [] (And.intro h9 (And.intro (gi_map Thing.enc h11) (And.intro (impl_within_ok v10.Id 1 9999 v12 h13) (And.intro h14 (And.intro h15 (And.intro (impl_within_ok v10.Own 1 30000 v48 h49) (And.intro h50 True.intro))))))) (by kernel_rfl)
        · rcases cond_cases hM with ⟨h51, hM⟩ | ⟨h51, hM⟩
          · obtain ⟨v52, h53, hM⟩ := bind_some hM
            rcases cond_cases hM with ⟨h54, hM⟩ | ⟨h54, hM⟩
            · have hE : some (Ctl.ret false) = some c1 := hM
              have hE := Option.some.inj hE
              subst hE
              have hE : some false = some r := hK1
              have hE := Option.some.inj hE
              subst hE
              exact pr R 9999 [.as 10 true, .ix (Thing.enc v10), .new 2, .call false [] (.o (.c (.v (.bool v12)))) [] [], .as 18 false, .as 21 false, .call false [] (.o (.c (.v (.bool v48)))) [] [], .as 38 false, .as 41 true, .call false [] (.o (.c (.v (.bool v52)))) [] [], .as 47 true] [] [] [] (And.intro h9 (And.intro (gi_map Thing.enc h11) (And.intro (impl_within_ok v10.Id 1 9999 v12 h13) (And.intro h14 (And.intro h15 (And.intro (impl_within_ok v10.Own 1 30000 v48 h49) (And.intro h50 (And.intro h51 (And.intro (impl_within_ok v10.Room 1 1000000 v52 h53) (And.intro h54 True.intro)))))))))) (by kernel_rfl)
            · rcases cond_cases hM with ⟨h55, hM⟩ | ⟨h55, hM⟩
              · rcases cond_cases hM with ⟨h56, hM⟩ | ⟨h56, hM⟩
                · have hE : some (Ctl.ret false) = some c1 := hM
                  have hE := Option.some.inj hE
                  subst hE
                  have hE : some false = some r := hK1
                  have hE := Option.some.inj hE
                  subst hE
                  exact pr R 9999 [.as 10 true, .ix (Thing.enc v10), .new 2, .call false [] (.o (.c (.v (.bool v12)))) [] [], .as 18 false, .as 21 false, .call false [] (.o (.c (.v (.bool v48)))) [] [], .as 38 false, .as 41 true, .call false [] (.o (.c (.v (.bool v52)))) [] [], .as 47 false, .as 51 true, .as 55 true] [] [] [] (And.intro h9 (And.intro (gi_map Thing.enc h11) (And.intro (impl_within_ok v10.Id 1 9999 v12 h13) (And.intro h14 (And.intro h15 (And.intro (impl_within_ok v10.Own 1 30000 v48 h49) (And.intro h50 (And.intro h51 (And.intro (impl_within_ok v10.Room 1 1000000 v52 h53) (And.intro h54 (And.intro h55 (And.intro h56 True.intro)))))))))))) (by kernel_rfl)
                · rcases cond_cases hM with ⟨h57, hM⟩ | ⟨h57, hM⟩
                  · have hE : some (Ctl.ret false) = some c1 := hM
                    have hE := Option.some.inj hE
                    subst hE
                    have hE : some false = some r := hK1
                    have hE := Option.some.inj hE
                    subst hE
                    exact pr R 9999 [.as 10 true, .ix (Thing.enc v10), .new 2, .call false [] (.o (.c (.v (.bool v12)))) [] [], .as 18 false, .as 21 false, .call false [] (.o (.c (.v (.bool v48)))) [] [], .as 38 false, .as 41 true, .call false [] (.o (.c (.v (.bool v52)))) [] [], .as 47 false, .as 51 true, .as 55 false, .as 61 true] [] [] [] (And.intro h9 (And.intro (gi_map Thing.enc h11) (And.intro (impl_within_ok v10.Id 1 9999 v12 h13) (And.intro h14 (And.intro h15 (And.intro (impl_within_ok v10.Own 1 30000 v48 h49) (And.intro h50 (And.intro h51 (And.intro (impl_within_ok v10.Room 1 1000000 v52 h53) (And.intro h54 (And.intro h55 (And.intro h56 (And.intro h57 True.intro))))))))))))) (by kernel_rfl)
                  · rcases cond_cases hM with ⟨h58, hM⟩ | ⟨h58, hM⟩
                    · obtain ⟨v59, h60, hM⟩ := bind_some hM
                      rcases cond_cases hM with ⟨h61, hM⟩ | ⟨h61, hM⟩
                      · have hE : some (Ctl.ret false) = some c1 := hM
                        have hE := Option.some.inj hE
                        subst hE
                        have hE : some false = some r := hK1
                        have hE := Option.some.inj hE
                        subst hE
                        exact pr R 9999 [.as 10 true, .ix (Thing.enc v10), .new 2, .call false [] (.o (.c (.v (.bool v12)))) [] [], .as 18 false, .as 21 false, .call false [] (.o (.c (.v (.bool v48)))) [] [], .as 38 false, .as 41 true, .call false [] (.o (.c (.v (.bool v52)))) [] [], .as 47 false, .as 51 true, .as 55 false, .as 61 false, .as 65 true, .call false [] (.o (.c (.v (.bool v59)))) [] [], .as 72 true] [] [] [] (And.intro h9 (And.intro (gi_map Thing.enc h11) (And.intro (impl_within_ok v10.Id 1 9999 v12 h13) (And.intro h14 (And.intro h15 (And.intro (impl_within_ok v10.Own 1 30000 v48 h49) (And.intro h50 (And.intro h51 (And.intro (impl_within_ok v10.Room 1 1000000 v52 h53) (And.intro h54 (And.intro h55 (And.intro h56 (And.intro h57 (And.intro h58 (And.intro (impl_isBox_ok a0 v10.In v59 h60) (And.intro h61 True.intro)))))))))))))))) (by kernel_rfl)
                      · have hE : some (Ctl.next (w64 (s1 + 1))) = some c1 := hM
                        have hE := Option.some.inj hE
                        subst hE
                        exact pc R 9999 [.as 10 true, .ix (Thing.enc v10), .new 2, .call false [] (.o (.c (.v (.bool v12)))) [] [], .as 18 false, .as 21 false, .call false [] (.o (.c (.v (.bool v48)))) [] [], .as 38 false, .as 41 true, .call false [] (.o (.c (.v (.bool v52)))) [] [], .as 47 false, .as 51 true, .as 55 false, .as 61 false, .as 65 true, .call false [] (.o (.c (.v (.bool v59)))) [] [], .as 72 false] [.keep [0, 7, 8, 9] []] (And.intro h9 (And.intro (gi_map Thing.enc h11) (And.intro (impl_within_ok v10.Id 1 9999 v12 h13) (And.intro h14 (And.intro h15 (And.intro (impl_within_ok v10.Own 1 30000 v48 h49) (And.intro h50 (And.intro h51 (And.intro (impl_within_ok v10.Room 1 1000000 v52 h53) (And.intro h54 (And.intro h55 (And.intro h56 (And.intro h57 (And.intro h58 (And.intro (impl_isBox_ok a0 v10.In v59 h60) (And.intro h61 True.intro)))))))))))))))) (by kernel_rfl) (li (Sf := impl_areDeep_L1_S a0) (M := Mk (impl_areDeep_L1 a0) (impl_areDeep_L1_k a0) r) (k := [.blk 0, .code (cAt Tryd.f51 [1, 1])]) (Nat.lt_succ_self m1) hK1)
                    · have hE : some (Ctl.next (w64 (s1 + 1))) = some c1 := hM
                      have hE := Option.some.inj hE
                      subst hE
                      exact pc R 9999 [.as 10 true, .ix (Thing.enc v10), .new 2, .call false [] (.o (.c (.v (.bool v12)))) [] [], .as 18 false, .as 21 false, .call false [] (.o (.c (.v (.bool v48)))) [] [], .as 38 false, .as 41 true, .call false [] (.o (.c (.v (.bool v52)))) [] [], .as 47 false, .as 51 true, .as 55 false, .as 61 false, .as 65 false] [.keep [0, 7, 8, 9] []] (And.intro h9 (And.intro (gi_map Thing.enc h11) (And.intro (impl_within_ok v10.Id 1 9999 v12 h13) (And.intro h14 (And.intro h15 (And.intro (impl_within_ok v10.Own 1 30000 v48 h49) (And.intro h50 (And.intro h51 (And.intro (impl_within_ok v10.Room 1 1000000 v52 h53) (And.intro h54 (And.intro h55 (And.intro h56 (And.intro h57 (And.intro h58 True.intro)))))))))))))) (by kernel_rfl) (li (Sf := impl_areDeep_L1_S a0) (M := Mk (impl_areDeep_L1 a0) (impl_areDeep_L1_k a0) r) (k := [.blk 0, .code (cAt Tryd.f51 [1, 1])]) (Nat.lt_succ_self m1) hK1)
              · rcases cond_cases hM with ⟨h62, hM⟩ | ⟨h62, hM⟩
                · obtain ⟨v63, h64, hM⟩ := bind_some hM
                  rcases cond_cases hM with ⟨h65, hM⟩ | ⟨h65, hM⟩
                  · have hE : some (Ctl.ret false) = some c1 := hM
                    have hE := Option.some.inj hE
                    subst hE
                    have hE : some false = some r := hK1
                    have hE := Option.some.inj hE
                    subst hE
                    exact pr R 9999 [.as 10 true, .ix (Thing.enc v10), .new 2, .call false [] (.o (.c (.v (.bool v12)))) [] [], .as 18 false, .as 21 false, .call false [] (.o (.c (.v (.bool v48)))) [] [], .as 38 false, .as 41 true, .call false [] (.o (.c (.v (.bool v52)))) [] [], .as 47 false, .as 51 false, .as 65 true, .call false [] (.o (.c (.v (.bool v63)))) [] [], .as 72 true] [] [] [] (And.intro h9 (And.intro (gi_map Thing.enc h11) (And.intro (impl_within_ok v10.Id 1 9999 v12 h13) (And.intro h14 (And.intro h15 (And.intro (impl_within_ok v10.Own 1 30000 v48 h49) (And.intro h50 (And.intro h51 (And.intro (impl_within_ok v10.Room 1 1000000 v52 h53) (And.intro h54 (And.intro h55 (And.intro h62 (And.intro (impl_isBox_ok a0 v10.In v63 h64) (And.intro h65 True.intro)))))))))))))) (by kernel_rfl)
                  · have hE : some (Ctl.next (w64 (s1 + 1))) = some c1 := hM
                    have hE := Option.some.inj hE
                    subst hE
                    exact pc R 9999 [.as 10 true, .ix (Thing.enc v10), .new 2, .call false [] (.o (.c (.v (.bool v12)))) [] [], .as 18 false, .as 21 false, .call false [] (.o (.c (.v (.bool v48)))) [] [], .as 38 false, .as 41 true, .call false [] (.o (.c (.v (.bool v52)))) [] [], .as 47 false, .as 51 false, .as 65 true, .call false [] (.o (.c (.v (.bool v63)))) [] [], .as 72 false] [.keep [0, 7, 8, 9] []] (And.intro h9 (And.intro (gi_map Thing.enc h11) (And.intro (impl_within_ok v10.Id 1 9999 v12 h13) (And.intro h14 (And.intro h15 (And.intro (impl_within_ok v10.Own 1 30000 v48 h49) (And.intro h50 (And.intro h51 (And.intro (impl_within_ok v10.Room 1 1000000 v52 h53) (And.intro h54 (And.intro h55 (And.intro h62 (And.intro (impl_isBox_ok a0 v10.In v63 h64) (And.intro h65 True.intro)))))))))))))) (by kernel_rfl) (li (Sf := impl_areDeep_L1_S a0) (M := Mk (impl_areDeep_L1 a0) (impl_areDeep_L1_k a0) r) (k := [.blk 0, .code (cAt Tryd.f51 [1, 1])]) (Nat.lt_succ_self m1) hK1)
                · have hE : some (Ctl.next (w64 (s1 + 1))) = some c1 := hM
                  have hE := Option.some.inj hE
                  subst hE
                  exact pc R 9999 [.as 10 true, .ix (Thing.enc v10), .new 2, .call false [] (.o (.c (.v (.bool v12)))) [] [], .as 18 false, .as 21 false, .call false [] (.o (.c (.v (.bool v48)))) [] [], .as 38 false, .as 41 true, .call false [] (.o (.c (.v (.bool v52)))) [] [], .as 47 false, .as 51 false, .as 65 false] [.keep [0, 7, 8, 9] []] (And.intro h9 (And.intro (gi_map Thing.enc h11) (And.intro (impl_within_ok v10.Id 1 9999 v12 h13) (And.intro h14 (And.intro h15 (And.intro (impl_within_ok v10.Own 1 30000 v48 h49) (And.intro h50 (And.intro h51 (And.intro (impl_within_ok v10.Room 1 1000000 v52 h53) (And.intro h54 (And.intro h55 (And.intro h62 True.intro)))))))))))) (by kernel_rfl) (li (Sf := impl_areDeep_L1_S a0) (M := Mk (impl_areDeep_L1 a0) (impl_areDeep_L1_k a0) r) (k := [.blk 0, .code (cAt Tryd.f51 [1, 1])]) (Nat.lt_succ_self m1) hK1)
          · rcases cond_cases hM with ⟨h66, hM⟩ | ⟨h66, hM⟩
            · rcases cond_cases hM with ⟨h67, hM⟩ | ⟨h67, hM⟩
              · have hE : some (Ctl.ret false) = some c1 := hM
                have hE := Option.some.inj hE
                subst hE
                have hE : some false = some r := hK1
                have hE := Option.some.inj hE
                subst hE
                exact pr R 9999 [.as 10 true, .ix (Thing.enc v10), .new 2, .call false [] (.o (.c (.v (.bool v12)))) [] [], .as 18 false, .as 21 false, .call false [] (.o (.c (.v (.bool v48)))) [] [], .as 38 false, .as 41 false, .as 51 true, .as 55 true] [] [] [] (And.intro h9 (And.intro (gi_map Thing.enc h11) (And.intro (impl_within_ok v10.Id 1 9999 v12 h13) (And.intro h14 (And.intro h15 (And.intro (impl_within_ok v10.Own 1 30000 v48 h49) (And.intro h50 (And.intro h51 (And.intro h66 (And.intro h67 True.intro)))))))))) (by kernel_rfl)
              · rcases cond_cases hM with ⟨h68, hM⟩ | ⟨h68, hM⟩
                · have hE : some (Ctl.ret false) = some c1 := hM
                  have hE := Option.some.inj hE
                  subst hE
                  have hE : some false = some r := hK1
                  have hE := Option.some.inj hE
                  subst hE
                  exact pr R 9999 [.as 10 true, .ix (Thing.enc v10), .new 2, .call false [] (.o (.c (.v (.bool v12)))) [] [], .as 18 false, .as 21 false, .call false [] (.o (.c (.v (.bool v48)))) [] [], .as 38 false, .as 41 false, .as 51 true, .as 55 false, .as 61 true] [] [] [] (And.intro h9 (And.intro (gi_map Thing.enc h11) (And.intro (impl_within_ok v10.Id 1 9999 v12 h13) (And.intro h14 (And.intro h15 (And.intro (impl_within_ok v10.Own 1 30000 v48 h49) (And.intro h50 (And.intro h51 (And.intro h66 (And.intro h67 (And.intro h68 True.intro))))))))))) (by kernel_rfl)
                · rcases cond_cases hM with ⟨h69, hM⟩ | ⟨h69, hM⟩
                  · obtain ⟨v70, h71, hM⟩ := bind_some hM
                    rcases cond_cases hM with ⟨h72, hM⟩ | ⟨h72, hM⟩
                    · have hE : some (Ctl.ret false) = some c1 := hM
                      have hE := Option.some.inj hE
                      subst hE
                      have hE : some false = some r := hK1
                      have hE := Option.some.inj hE
                      subst hE
                      exact pr R 9999 [.as 10 true, .ix (Thing.enc v10), .new 2, .call false [] (.o (.c (.v (.bool v12)))) [] [], .as 18 false, .as 21 false, .call false [] (.o (.c (.v (.bool v48)))) [] [], .as 38 false, .as 41 false, .as 51 true, .as 55 false, .as 61 false, .as 65 true, .call false [] (.o (.c (.v (.bool v70)))) [] [], .as 72 true] [] [] [] (And.intro h9 (And.intro (gi_map Thing.enc h11) (And.intro (impl_within_ok v10.Id 1 9999 v12 h13) (And.intro h14 (And.intro h15 (And.intro (impl_within_ok v10.Own 1 30000 v48 h49) (And.intro h50 (And.intro h51 (And.intro h66 (And.intro h67 (And.intro h68 (And.intro h69 (And.intro (impl_isBox_ok a0 v10.In v70 h71) (And.intro h72 True.intro)))))))))))))) (by kernel_rfl)
                    · have hE : some (Ctl.next (w64 (s1 + 1))) = some c1 := hM
                      have hE := Option.some.inj hE
                      subst hE
                      exact pc R 9999 [.as 10 true, .ix (Thing.enc v10), .new 2, .call false [] (.o (.c (.v (.bool v12)))) [] [], .as 18 false, .as 21 false, .call false [] (.o (.c (.v (.bool v48)))) [] [], .as 38 false, .as 41 false, .as 51 true, .as 55 false, .as 61 false, .as 65 true, .call false [] (.o (.c (.v (.bool v70)))) [] [], .as 72 false] [.keep [0, 7, 8, 9] []] (And.intro h9 (And.intro (gi_map Thing.enc h11) (And.intro (impl_within_ok v10.Id 1 9999 v12 h13) (And.intro h14 (And.intro h15 (And.intro (impl_within_ok v10.Own 1 30000 v48 h49) (And.intro h50 (And.intro h51 (And.intro h66 (And.intro h67 (And.intro h68 (And.intro h69 (And.intro (impl_isBox_ok a0 v10.In v70 h71) (And.intro h72 True.intro)))))))))))))) (by kernel_rfl) (li (Sf := impl_areDeep_L1_S a0) (M := Mk (impl_areDeep_L1 a0) (impl_areDeep_L1_k a0) r) (k := [.blk 0, .code (cAt Tryd.f51 [1, 1])]) (Nat.lt_succ_self m1) hK1)
                  · have hE : some (Ctl.next (w64 (s1 + 1))) = some c1 := hM
                    have hE := Option.some.inj hE
                    subst hE
                    exact pc R 9999 [.as 10 true, .ix (Thing.enc v10), .new 2, .call false [] (.o (.c (.v (.bool v12)))) [] [], .as 18 false, .as 21 false, .call false [] (.o (.c (.v (.bool v48)))) [] [], .as 38 false, .as 41 false, .as 51 true, .as 55 false, .as 61 false, .as 65 false] [.keep [0, 7, 8, 9] []] (And.intro h9 (And.intro (gi_map Thing.enc h11) (And.intro (impl_within_ok v10.Id 1 9999 v12 h13) (And.intro h14 (And.intro h15 (And.intro (impl_within_ok v10.Own 1 30000 v48 h49) (And.intro h50 (And.intro h51 (And.intro h66 (And.intro h67 (And.intro h68 (And.intro h69 True.intro)))))))))))) (by kernel_rfl) (li (Sf := impl_areDeep_L1_S a0) (M := Mk (impl_areDeep_L1 a0) (impl_areDeep_L1_k a0) r) (k := [.blk 0, .code (cAt Tryd.f51 [1, 1])]) (Nat.lt_succ_self m1) hK1)
            · rcases cond_cases hM with ⟨h73, hM⟩ | ⟨h73, hM⟩
              · obtain ⟨v74, h75, hM⟩ := bind_some hM
                rcases cond_cases hM with ⟨h76, hM⟩ | ⟨h76, hM⟩
                · have hE : some (Ctl.ret false) = some c1 := hM
                  have hE := Option.some.inj hE
                  subst hE
                  have hE : some false = some r := hK1
                  have hE := Option.some.inj hE
                  subst hE
                  exact pr R 9999 [.as 10 true, .ix (Thing.enc v10), .new 2, .call false [] (.o (.c (.v (.bool v12)))) [] [], .as 18 false, .as 21 false, .call false [] (.o (.c (.v (.bool v48)))) [] [], .as 38 false, .as 41 false, .as 51 false, .as 65 true, .call false [] (.o (.c (.v (.bool v74)))) [] [], .as 72 true] [] [] [] (And.intro h9 (And.intro (gi_map Thing.enc h11) (And.intro (impl_within_ok v10.Id 1 9999 v12 h13) (And.intro h14 (And.intro h15 (And.intro (impl_within_ok v10.Own 1 30000 v48 h49) (And.intro h50 (And.intro h51 (And.intro h66 (And.intro h73 (And.intro (impl_isBox_ok a0 v10.In v74 h75) (And.intro h76 True.intro)))))))))))) (by kernel_rfl)
                · have hE : some (Ctl.next (w64 (s1 + 1))) = some c1 := hM
                  have hE := Option.some.inj hE
                  subst hE
                  exact pc R 9999 [.as 10 true, .ix (Thing.enc v10), .new 2, .call false [] (.o (.c (.v (.bool v12)))) [] [], .as 18 false, .as 21 false, .call false [] (.o (.c (.v (.bool v48)))) [] [], .as 38 false, .as 41 false, .as 51 false, .as 65 true, .call false [] (.o (.c (.v (.bool v74)))) [] [], .as 72 false] [.keep [0, 7, 8, 9] []] (And.intro h9 (And.intro (gi_map Thing.enc h11) (And.intro (impl_within_ok v10.Id 1 9999 v12 h13) (And.intro h14 (And.intro h15 (And.intro (impl_within_ok v10.Own 1 30000 v48 h49) (And.intro h50 (And.intro h51 (And.intro h66 (And.intro h73 (And.intro (impl_isBox_ok a0 v10.In v74 h75) (And.intro h76 True.intro)))))))))))) (by kernel_rfl) (li (Sf := impl_areDeep_L1_S a0) (M := Mk (impl_areDeep_L1 a0) (impl_areDeep_L1_k a0) r) (k := [.blk 0, .code (cAt Tryd.f51 [1, 1])]) (Nat.lt_succ_self m1) hK1)
              · have hE : some (Ctl.next (w64 (s1 + 1))) = some c1 := hM
                have hE := Option.some.inj hE
                subst hE
                exact pc R 9999 [.as 10 true, .ix (Thing.enc v10), .new 2, .call false [] (.o (.c (.v (.bool v12)))) [] [], .as 18 false, .as 21 false, .call false [] (.o (.c (.v (.bool v48)))) [] [], .as 38 false, .as 41 false, .as 51 false, .as 65 false] [.keep [0, 7, 8, 9] []] (And.intro h9 (And.intro (gi_map Thing.enc h11) (And.intro (impl_within_ok v10.Id 1 9999 v12 h13) (And.intro h14 (And.intro h15 (And.intro (impl_within_ok v10.Own 1 30000 v48 h49) (And.intro h50 (And.intro h51 (And.intro h66 (And.intro h73 True.intro)))))))))) (by kernel_rfl) (li (Sf := impl_areDeep_L1_S a0) (M := Mk (impl_areDeep_L1 a0) (impl_areDeep_L1_k a0) r) (k := [.blk 0, .code (cAt Tryd.f51 [1, 1])]) (Nat.lt_succ_self m1) hK1)
  · have hE : some (Ctl.brk ()) = some c1 := hM
    have hE := Option.some.inj hE
    subst hE
    exact pc R 5 [.as 10 false] [.keep [0] []] (And.intro h9 True.intro) (by kernel_rfl) (K1 () hK1)

-- loop.example/g03014/impl.gross
def impl_gross_L1_b (self : (List Thing) → Int → Option Int) (a0 : (List Thing)) (a1 : Int) (s3 : Int) (s4 : Int) : Option (Ctl (Int × Int) Int Int) :=
  bif (decide (s4 < (a0.length : Int))) then
  (gi a0 s4).bind fun v7 =>
  (gi a0 a1).bind fun v9 =>
  bif (v7.In == v9.Id) then
  (self a0 s4).bind fun v12 =>
  some (.next (w64 (s3 + v12), w64 (s4 + 1)))
  else
  some (.next (s3, w64 (s4 + 1)))
  else
  some (.brk s3)
def impl_gross_L1 (self : (List Thing) → Int → Option Int) (a0 : (List Thing)) (a1 : Int) (s : Int × Int) : Option (Ctl (Int × Int) Int Int) := impl_gross_L1_b self a0 a1 s.1 s.2
def impl_gross_L1_s (a0 : (List Thing)) (a1 : Int) (s3 : Int) (s4 : Int) : St := ⟨[(0, .o (.c (.rs 6 (a0.map Thing.enc)))), (1, .o (.c (.v (.int .i64 a1)))), (5, .o (.c (.v (.int .i64 s3)))), (13, .o (.c (.rs 6 (a0.map Thing.enc)))), (14, .o (.c (.v (.int .i64 (a0.length : Int))))), (15, .o (.c (.v (.int .i64 s4))))], []⟩
def impl_gross_L1_S (a0 : (List Thing)) (a1 : Int) (s : Int × Int) : St := impl_gross_L1_s a0 a1 s.1 s.2
def impl_gross_L1_a (s5 : Int) : Option Int :=
  some s5
def impl_gross_L1_k (x : (Int) ⊕ (Int)) : Option Int := match x with
  | .inl t => impl_gross_L1_a t
  | .inr y => some y
def impl_gross_F (self : (List Thing) → Int → Option Int) (a0 : (List Thing)) (a1 : Int) : Option Int :=
  (gi a0 a1).bind fun v1 =>
  (loopM (impl_gross_L1 self a0 a1) big (v1.Own, 0)).bind (impl_gross_L1_k)
def impl_gross_n : Nat → (List Thing) → Int → Option Int
  | 0, _, _ => none
  | n + 1, a0, a1 => impl_gross_F (impl_gross_n n) a0 a1
def impl_gross (a0 : (List Thing)) (a1 : Int) : Option Int := impl_gross_n big a0 a1
theorem impl_gross_step (self : (List Thing) → Int → Option Int) (ih : ∀ (a0 : (List Thing)) (a1 : Int) (r : Int), self a0 a1 = some r →
    Con Tryd.prog 52 [.c (.rs 6 (a0.map Thing.enc)), .c (.v (.int .i64 a1))] [] (.o (.c (.v (.int .i64 r)))) [] [])
     (a0 : (List Thing)) (a1 : Int) (r : Int) (hM : impl_gross_F self a0 a1 = some r) :
    Con Tryd.prog 52 [.c (.rs 6 (a0.map Thing.enc)), .c (.v (.int .i64 a1))] [] (.o (.c (.v (.int .i64 r)))) [] [] := by
  unfold impl_gross_F at hM
  refine cn (N := 35) (pids := []) Tryd_mixed Tryd.func52 (by kernel_rfl) (by kernel_rfl) (by kernel_rfl) rfl fun ρ g w R => ?_
  obtain ⟨v1, h2, hM⟩ := bind_some hM
  have K1 : ∀ (s5 : Int), impl_gross_L1_a s5 = some r → Gr R [.code (cAt Tryd.f52 [1, 1, 1])] (⟨[(5, .o (.c (.v (.int .i64 s5))))], []⟩) := by
    intro s5 hM
    unfold impl_gross_L1_a at hM
    have hE : some s5 = some r := hM
    have hE := Option.some.inj hE
    subst hE
    exact pr R 9999 [] [] [] [] True.intro (by kernel_rfl)
  refine pc R 9999 [.ix (Thing.enc v1), .ln (a0.length)] [.keep [0, 1, 5, 13, 14, 15] []] (k' := [.code (.loop (cAt Tryd.f52 [1, 1, 0, 1, 0, 0])), .blk 0, .code (cAt Tryd.f52 [1, 1, 1])]) (S' := impl_gross_L1_S a0 a1 (v1.Own, 0)) (And.intro (gi_map Thing.enc h2) (And.intro (lenm Thing.enc a0) True.intro)) (by kernel_rfl) ?_
  refine lq (impl_gross_L1_S a0 a1) (body := impl_gross_L1 self a0 a1) (k := impl_gross_L1_k) hM fun m1 s c1 hM hK1 => ?_
  obtain ⟨s3, s4⟩ := s
  have hM : impl_gross_L1_b self a0 a1 s3 s4 = some c1 := hM
  unfold impl_gross_L1_b at hM
  rcases cond_cases hM with ⟨h6, hM⟩ | ⟨h6, hM⟩
  · obtain ⟨v7, h8, hM⟩ := bind_some hM
    obtain ⟨v9, h10, hM⟩ := bind_some hM
    rcases cond_cases hM with ⟨h11, hM⟩ | ⟨h11, hM⟩
    · obtain ⟨v12, h13, hM⟩ := bind_some hM
      have hE : some (Ctl.next (w64 (s3 + v12), w64 (s4 + 1))) = some c1 := hM
      have hE := Option.some.inj hE
      subst hE
      exact pc R 9999 [.as 16 true, .ix (Thing.enc v7), .new 0, .ix (Thing.enc v9), .as 27 true, .call false [] (.o (.c (.v (.int .i64 v12)))) [] []] [.keep [0, 1, 5, 13, 14, 15] []] (And.intro h6 (And.intro (gi_map Thing.enc h8) (And.intro (gi_map Thing.enc h10) (And.intro h11 (And.intro (ih a0 s4 v12 h13) True.intro))))) (by kernel_rfl) (li (Sf := impl_gross_L1_S a0 a1) (M := Mk (impl_gross_L1 self a0 a1) (impl_gross_L1_k) r) (k := [.blk 0, .code (cAt Tryd.f52 [1, 1, 1])]) (Nat.lt_succ_self m1) hK1)
    · have hE : some (Ctl.next (s3, w64 (s4 + 1))) = some c1 := hM
      have hE := Option.some.inj hE
      subst hE
      exact pc R 9999 [.as 16 true, .ix (Thing.enc v7), .new 0, .ix (Thing.enc v9), .as 27 false] [.keep [0, 1, 5, 13, 14, 15] []] (And.intro h6 (And.intro (gi_map Thing.enc h8) (And.intro (gi_map Thing.enc h10) (And.intro h11 True.intro)))) (by kernel_rfl) (li (Sf := impl_gross_L1_S a0 a1) (M := Mk (impl_gross_L1 self a0 a1) (impl_gross_L1_k) r) (k := [.blk 0, .code (cAt Tryd.f52 [1, 1, 1])]) (Nat.lt_succ_self m1) hK1)
  · have hE : some (Ctl.brk s3) = some c1 := hM
    have hE := Option.some.inj hE
    subst hE
    exact pc R 5 [.as 16 false] [.keep [5] []] (And.intro h6 True.intro) (by kernel_rfl) (K1 s3 hK1)
theorem impl_gross_nok : ∀ (n : Nat) (a0 : (List Thing)) (a1 : Int) (r : Int), impl_gross_n n a0 a1 = some r →
    Con Tryd.prog 52 [.c (.rs 6 (a0.map Thing.enc)), .c (.v (.int .i64 a1))] [] (.o (.c (.v (.int .i64 r)))) [] []
  | 0, _, _, _, h => by cases h
  | n + 1, a0, a1, r, h => impl_gross_step (impl_gross_n n) (impl_gross_nok n) a0 a1 r h
theorem impl_gross_ok (a0 : (List Thing)) (a1 : Int) (r : Int) (h : impl_gross a0 a1 = some r) :
    Con Tryd.prog 52 [.c (.rs 6 (a0.map Thing.enc)), .c (.v (.int .i64 a1))] [] (.o (.c (.v (.int .i64 r)))) [] [] := impl_gross_nok big a0 a1 r h

-- loop.example/g03014/impl.AreThings
def impl_AreThings_L1_b (a0 : (List Thing)) (s5 : Int) : Option (Ctl Int Unit Bool) :=
  bif (decide (s5 < (a0.length : Int))) then
  (gi a0 s5).bind fun v7 =>
  bif v7.Box then
  (impl_gross a0 s5).bind fun v10 =>
  bif (decide ((w64 (v10 - v7.Own)) > v7.Room)) then
  some (.ret false)
  else
  some (.next (w64 (s5 + 1)))
  else
  some (.next (w64 (s5 + 1)))
  else
  some (.brk ())
def impl_AreThings_L1 (a0 : (List Thing)) (s : Int) : Option (Ctl Int Unit Bool) := impl_AreThings_L1_b a0 s
def impl_AreThings_L1_s (a0 : (List Thing)) (s5 : Int) : St := ⟨[(0, .o (.c (.rs 6 (a0.map Thing.enc)))), (13, .o (.c (.rs 6 (a0.map Thing.enc)))), (14, .o (.c (.v (.int .i64 (a0.length : Int))))), (15, .o (.c (.v (.int .i64 s5))))], []⟩
def impl_AreThings_L1_S (a0 : (List Thing)) (s : Int) : St := impl_AreThings_L1_s a0 s
def impl_AreThings_L1_a : Option Bool :=
  some true
def impl_AreThings_L1_k (x : (Unit) ⊕ (Bool)) : Option Bool := match x with
  | .inl t => impl_AreThings_L1_a
  | .inr y => some y
def impl_AreThings (a0 : (List Thing)) : Option Bool :=
  bif (decide ((a0.length : Int) > 40)) then
  some false
  else
  (impl_areDeep a0).bind fun v2 =>
  bif (!v2) then
  some false
  else
  (loopM (impl_AreThings_L1 a0) big 0).bind (impl_AreThings_L1_k)
theorem impl_AreThings_ok (a0 : (List Thing)) (r : Bool) (hM : impl_AreThings a0 = some r) :
    Con Tryd.prog 39 [.c (.rs 6 (a0.map Thing.enc))] [] (.o (.c (.v (.bool r)))) [] [] := by
  unfold impl_AreThings at hM
  refine cn (N := 34) (pids := []) Tryd_mixed Tryd.func39 (by kernel_rfl) (by kernel_rfl) (by kernel_rfl) rfl fun ρ g w R => ?_
  rcases cond_cases hM with ⟨h1, hM⟩ | ⟨h1, hM⟩
  · have hE : some false = some r := hM
    have hE := Option.some.inj hE
    subst hE
    exact pr R 9999 [.ln (a0.length), .as 8 true] [] [] [] (And.intro (lenm Thing.enc a0) (And.intro h1 True.intro)) (by kernel_rfl)
  · obtain ⟨v2, h3, hM⟩ := bind_some hM
    rcases cond_cases hM with ⟨h4, hM⟩ | ⟨h4, hM⟩
    · have hE : some false = some r := hM
      have hE := Option.some.inj hE
      subst hE
      exact pr R 9999 [.ln (a0.length), .as 8 false, .call false [] (.o (.c (.v (.bool v2)))) [] [], .as 12 true] [] [] [] (And.intro (lenm Thing.enc a0) (And.intro h1 (And.intro (impl_areDeep_ok a0 v2 h3) (And.intro h4 True.intro)))) (by kernel_rfl)
    · have K1 : ∀ (_ : Unit), impl_AreThings_L1_a = some r → Gr R [.code (cAt Tryd.f39 [1, 1, 1])] (⟨[], []⟩) := by
        intro _ hM
        unfold impl_AreThings_L1_a at hM
        have hE : some true = some r := hM
        have hE := Option.some.inj hE
        subst hE
        exact pr R 9999 [] [] [] [] True.intro (by kernel_rfl)
      refine pc R 9999 [.ln (a0.length), .as 8 false, .call false [] (.o (.c (.v (.bool v2)))) [] [], .as 12 false, .ln (a0.length)] [.keep [0, 13, 14, 15] []] (k' := [.code (.loop (cAt Tryd.f39 [1, 1, 0, 1, 0, 0])), .blk 0, .code (cAt Tryd.f39 [1, 1, 1])]) (S' := impl_AreThings_L1_S a0 0) (And.intro (lenm Thing.enc a0) (And.intro h1 (And.intro (impl_areDeep_ok a0 v2 h3) (And.intro h4 (And.intro (lenm Thing.enc a0) True.intro))))) (by kernel_rfl) ?_
      refine lq (impl_AreThings_L1_S a0) (body := impl_AreThings_L1 a0) (k := impl_AreThings_L1_k) hM fun m1 s c1 hM hK1 => ?_
      obtain ⟨s5, hs⟩ : ∃ z, z = s := ⟨_, rfl⟩
      subst hs
      have hM : impl_AreThings_L1_b a0 s5 = some c1 := hM
      unfold impl_AreThings_L1_b at hM
      rcases cond_cases hM with ⟨h6, hM⟩ | ⟨h6, hM⟩
      · obtain ⟨v7, h8, hM⟩ := bind_some hM
        rcases cond_cases hM with ⟨h9, hM⟩ | ⟨h9, hM⟩
        · obtain ⟨v10, h11, hM⟩ := bind_some hM
          rcases cond_cases hM with ⟨h12, hM⟩ | ⟨h12, hM⟩
          · have hE : some (Ctl.ret false) = some c1 := hM
            have hE := Option.some.inj hE
            subst hE
            have hE : some false = some r := hK1
            have hE := Option.some.inj hE
            subst hE
            exact pr R 9999 [.as 16 true, .ix (Thing.enc v7), .new 0, .as 22 true, .call false [] (.o (.c (.v (.int .i64 v10)))) [] [], .as 32 true] [] [] [] (And.intro h6 (And.intro (gi_map Thing.enc h8) (And.intro h9 (And.intro (impl_gross_ok a0 s5 v10 h11) (And.intro h12 True.intro))))) (by kernel_rfl)
          · have hE : some (Ctl.next (w64 (s5 + 1))) = some c1 := hM
            have hE := Option.some.inj hE
            subst hE
            exact pc R 9999 [.as 16 true, .ix (Thing.enc v7), .new 0, .as 22 true, .call false [] (.o (.c (.v (.int .i64 v10)))) [] [], .as 32 false] [.keep [0, 13, 14, 15] []] (And.intro h6 (And.intro (gi_map Thing.enc h8) (And.intro h9 (And.intro (impl_gross_ok a0 s5 v10 h11) (And.intro h12 True.intro))))) (by kernel_rfl) (li (Sf := impl_AreThings_L1_S a0) (M := Mk (impl_AreThings_L1 a0) (impl_AreThings_L1_k) r) (k := [.blk 0, .code (cAt Tryd.f39 [1, 1, 1])]) (Nat.lt_succ_self m1) hK1)
        · have hE : some (Ctl.next (w64 (s5 + 1))) = some c1 := hM
          have hE := Option.some.inj hE
          subst hE
          exact pc R 9999 [.as 16 true, .ix (Thing.enc v7), .new 0, .as 22 false] [.keep [0, 13, 14, 15] []] (And.intro h6 (And.intro (gi_map Thing.enc h8) (And.intro h9 True.intro))) (by kernel_rfl) (li (Sf := impl_AreThings_L1_S a0) (M := Mk (impl_AreThings_L1 a0) (impl_AreThings_L1_k) r) (k := [.blk 0, .code (cAt Tryd.f39 [1, 1, 1])]) (Nat.lt_succ_self m1) hK1)
      · have hE : some (Ctl.brk ()) = some c1 := hM
        have hE := Option.some.inj hE
        subst hE
        exact pc R 5 [.as 16 false] [.keep [] []] (And.intro h6 True.intro) (by kernel_rfl) (K1 () hK1)

-- loop.example/g03014/impl.isThing
def impl_isThing (a0 : (List Thing)) (a1 : Int) : Option Bool :=
  (impl_AreThings a0).bind fun v1 =>
  bif v1 then
  (impl_FindThing a0 a1).bind fun v4 =>
  some (decide (v4 ≥ 0))
  else
  some false
theorem impl_isThing_ok (a0 : (List Thing)) (a1 : Int) (r : Bool) (hM : impl_isThing a0 a1 = some r) :
    Con Tryd.prog 21 [.c (.rs 6 (a0.map Thing.enc)), .c (.v (.int .i64 a1))] [] (.o (.c (.v (.bool r)))) [] [] := by
  unfold impl_isThing at hM
  refine cn (N := 13) (pids := []) Tryd_mixed Tryd.func21 (by kernel_rfl) (by kernel_rfl) (by kernel_rfl) rfl fun ρ g w R => ?_
  obtain ⟨v1, h2, hM⟩ := bind_some hM
  rcases cond_cases hM with ⟨h3, hM⟩ | ⟨h3, hM⟩
  · obtain ⟨v4, h5, hM⟩ := bind_some hM
    have hE : some (decide (v4 ≥ 0)) = some r := hM
    have hE := Option.some.inj hE
    subst hE
    exact pr R 9999 [.call false [] (.o (.c (.v (.bool v1)))) [] [], .as 7 true, .call false [] (.o (.c (.v (.int .i64 v4)))) [] []] [] [] [] (And.intro (impl_AreThings_ok a0 v1 h2) (And.intro h3 (And.intro (impl_FindThing_ok a0 a1 v4 h5) True.intro))) (by kernel_rfl)
  · have hE : some false = some r := hM
    have hE := Option.some.inj hE
    subst hE
    exact pr R 9999 [.call false [] (.o (.c (.v (.bool v1)))) [] [], .as 7 false] [] [] [] (And.intro (impl_AreThings_ok a0 v1 h2) (And.intro h3 True.intro)) (by kernel_rfl)

-- loop.example/g03014/impl.FormatInt
def impl_FormatInt (a0 : Int) : Option ByteArray :=
  (strconv_Itoa a0).bind fun v1 =>
  some v1
theorem impl_FormatInt_ok (a0 : Int) (r : ByteArray) (hM : impl_FormatInt a0 = some r) :
    Con Tryd.prog 22 [.c (.v (.int .i64 a0))] [] (.o (.c (.v (.string r)))) [] [] := by
  unfold impl_FormatInt at hM
  refine cn (N := 5) (pids := []) Tryd_mixed Tryd.func22 (by kernel_rfl) (by kernel_rfl) (by kernel_rfl) rfl fun ρ g w R => ?_
  obtain ⟨v1, h2, hM⟩ := bind_some hM
  have hE : some v1 = some r := hM
  have hE := Option.some.inj hE
  subst hE
  exact pr R 9999 [.call false [] (.o (.c (.v (.string v1)))) [] []] [] [] [] (And.intro (strconv_Itoa_ok a0 v1 h2) True.intro) (by kernel_rfl)

-- loop.example/g03014/impl.InsideOf
def impl_InsideOf_L1_b (a0 : (List Thing)) (a1 : Int) (s4 : (List Int)) (s5 : Int) : Option (Ctl ((List Int) × Int) (List Int) (List Int)) :=
  bif (decide (s5 < (a0.length : Int))) then
  (gi a0 s5).bind fun v8 =>
  bif (v8.In == a1) then
  (ap 8 s4 ([v8.Id] : List Int)).bind fun v11 =>
  some (.next (v11, w64 (s5 + 1)))
  else
  some (.next (s4, w64 (s5 + 1)))
  else
  some (.brk s4)
def impl_InsideOf_L1 (a0 : (List Thing)) (a1 : Int) (s : (List Int) × Int) : Option (Ctl ((List Int) × Int) (List Int) (List Int)) := impl_InsideOf_L1_b a0 a1 s.1 s.2
def impl_InsideOf_L1_s (a0 : (List Thing)) (a1 : Int) (s4 : (List Int)) (s5 : Int) : St := ⟨[(1, .o (.c (.v (.int .i64 a1)))), (5, .o (.c (.sl 0))), (14, .o (.c (.rs 6 (a0.map Thing.enc)))), (15, .o (.c (.v (.int .i64 (a0.length : Int))))), (16, .o (.c (.v (.int .i64 s5))))], [(0, .row 3 1 (s4.map encI))]⟩
def impl_InsideOf_L1_S (a0 : (List Thing)) (a1 : Int) (s : (List Int) × Int) : St := impl_InsideOf_L1_s a0 a1 s.1 s.2
def impl_InsideOf_L1_a (s6 : (List Int)) : Option (List Int) :=
  some s6
def impl_InsideOf_L1_k (x : ((List Int)) ⊕ ((List Int))) : Option (List Int) := match x with
  | .inl t => impl_InsideOf_L1_a t
  | .inr y => some y
def impl_InsideOf (a0 : (List Thing)) (a1 : Int) : Option (List Int) :=
  (impl_isThing a0 a1).bind fun v1 =>
  bif (!v1) then
  some ([] : List Int)
  else
  (loopM (impl_InsideOf_L1 a0 a1) big (([] : List Int), 0)).bind (impl_InsideOf_L1_k)
theorem impl_InsideOf_ok (a0 : (List Thing)) (a1 : Int) (r : (List Int)) (hM : impl_InsideOf a0 a1 = some r) :
    Con Tryd.prog 24 [.c (.rs 6 (a0.map Thing.enc)), .c (.v (.int .i64 a1))] [] (.o (.c (.sl 1000))) [] [(1000, .row 3 1 (r.map encI))] := by
  unfold impl_InsideOf at hM
  refine cn (N := 31) (pids := []) Tryd_mixed Tryd.func24 (by kernel_rfl) (by kernel_rfl) (by kernel_rfl) rfl fun ρ g w R => ?_
  obtain ⟨v1, h2, hM⟩ := bind_some hM
  rcases cond_cases hM with ⟨h3, hM⟩ | ⟨h3, hM⟩
  · have hE : some ([] : List Int) = some r := hM
    have hE := Option.some.inj hE
    subst hE
    exact pr R 9999 [.new 0, .call false [] (.o (.c (.v (.bool v1)))) [] [], .as 12 true] [.sw 0 1000] [] [1000] (And.intro (impl_isThing_ok a0 a1 v1 h2) (And.intro h3 True.intro)) (by kernel_rfl)
  · have K1 : ∀ (s6 : (List Int)), impl_InsideOf_L1_a s6 = some r → Gr R [.code (cAt Tryd.f24 [1, 1, 1, 1])] (⟨[(5, .o (.c (.sl 0)))], [(0, .row 3 1 (s6.map encI))]⟩) := by
      intro s6 hM
      unfold impl_InsideOf_L1_a at hM
      have hE : some s6 = some r := hM
      have hE := Option.some.inj hE
      subst hE
      exact pr R 9999 [] [.sw 0 1000] [] [1000] True.intro (by kernel_rfl)
    refine pc R 9999 [.new 0, .call false [] (.o (.c (.v (.bool v1)))) [] [], .as 12 false, .ln (a0.length)] [.keep [1, 5, 14, 15, 16] [0]] (k' := [.code (.loop (cAt Tryd.f24 [1, 1, 1, 0, 1, 0, 0])), .blk 0, .code (cAt Tryd.f24 [1, 1, 1, 1])]) (S' := impl_InsideOf_L1_S a0 a1 (([] : List Int), 0)) (And.intro (impl_isThing_ok a0 a1 v1 h2) (And.intro h3 (And.intro (lenm Thing.enc a0) True.intro))) (by kernel_rfl) ?_
    refine lq (impl_InsideOf_L1_S a0 a1) (body := impl_InsideOf_L1 a0 a1) (k := impl_InsideOf_L1_k) hM fun m1 s c1 hM hK1 => ?_
    obtain ⟨s4, s5⟩ := s
    have hM : impl_InsideOf_L1_b a0 a1 s4 s5 = some c1 := hM
    unfold impl_InsideOf_L1_b at hM
    rcases cond_cases hM with ⟨h7, hM⟩ | ⟨h7, hM⟩
    · obtain ⟨v8, h9, hM⟩ := bind_some hM
      rcases cond_cases hM with ⟨h10, hM⟩ | ⟨h10, hM⟩
      · obtain ⟨v11, h12, hM⟩ := bind_some hM
        have hE : some (Ctl.next (v11, w64 (s5 + 1))) = some c1 := hM
        have hE := Option.some.inj hE
        subst hE
        exact pc R 9999 [.as 17 true, .ix (Thing.enc v8), .new 1, .as 23 true, .new 2, .new 3, .nm (v11.map encI)] [.sw 3 0, .keep [1, 5, 14, 15, 16] [0]] (And.intro h7 (And.intro (gi_map Thing.enc h9) (And.intro h10 (And.intro (ap_ok encI h12) True.intro)))) (by kernel_rfl) (li (Sf := impl_InsideOf_L1_S a0 a1) (M := Mk (impl_InsideOf_L1 a0 a1) (impl_InsideOf_L1_k) r) (k := [.blk 0, .code (cAt Tryd.f24 [1, 1, 1, 1])]) (Nat.lt_succ_self m1) hK1)
      · have hE : some (Ctl.next (s4, w64 (s5 + 1))) = some c1 := hM
        have hE := Option.some.inj hE
        subst hE
        exact pc R 9999 [.as 17 true, .ix (Thing.enc v8), .new 1, .as 23 false] [.keep [1, 5, 14, 15, 16] [0]] (And.intro h7 (And.intro (gi_map Thing.enc h9) (And.intro h10 True.intro))) (by kernel_rfl) (li (Sf := impl_InsideOf_L1_S a0 a1) (M := Mk (impl_InsideOf_L1 a0 a1) (impl_InsideOf_L1_k) r) (k := [.blk 0, .code (cAt Tryd.f24 [1, 1, 1, 1])]) (Nat.lt_succ_self m1) hK1)
    · have hE : some (Ctl.brk s4) = some c1 := hM
      have hE := Option.some.inj hE
      subst hE
      exact pc R 5 [.as 17 false] [.keep [5] [0]] (And.intro h7 True.intro) (by kernel_rfl) (K1 s4 hK1)
end Go.Sx
