/- The functions of the program as plain Lean, and that each runs so (printed by wip/gen). -/
import Derived.Test.YtbeialanbblkoaaBpW2
namespace Go.Sx
open Go.Proofs
set_option linter.unusedVariables false
set_option maxRecDepth 100000

-- loop.example/g03014/spec.l1Byte
def spec_l1Byte (a0 : l1Cur) : Option (Int × l1Cur) :=
  bif (decide (a0.i < (a0.b.length : Int))) then
  (gi a0.b a0.i).bind fun v2 =>
  some (w64 ((BitVec.ofInt 64 (w64 ((w64 ((BitVec.ofInt 64 (w64 ((BitVec.ofInt 64 (Int.fdiv (w64 ((w64 (a0.h * 6364136223846793005)) + 1442695040888963407)) (2 ^ 35)) ^^^ BitVec.ofInt 64 (Int.fdiv (w64 ((w64 (a0.h * 6364136223846793005)) + 1442695040888963407)) (2 ^ 45))).toNat)) &&& BitVec.ofInt 64 255).toNat)) + (w64 v2))) &&& BitVec.ofInt 64 255).toNat), (l1Cur.mk a0.b (w64 (a0.i + 1)) (w64 ((w64 (a0.h * 6364136223846793005)) + 1442695040888963407))))
  else
  some (w64 ((BitVec.ofInt 64 (w64 ((BitVec.ofInt 64 (Int.fdiv (w64 ((w64 (a0.h * 6364136223846793005)) + 1442695040888963407)) (2 ^ 35)) ^^^ BitVec.ofInt 64 (Int.fdiv (w64 ((w64 (a0.h * 6364136223846793005)) + 1442695040888963407)) (2 ^ 45))).toNat)) &&& BitVec.ofInt 64 255).toNat), (l1Cur.mk a0.b a0.i (w64 ((w64 (a0.h * 6364136223846793005)) + 1442695040888963407))))
theorem spec_l1Byte_ok (a0 : l1Cur) (r : Int × l1Cur) (hM : spec_l1Byte a0 = some r) :
    Con Try.prog 65 [.c (.ptr 900 0)] [(900, .box 62 [.rs 1 (a0.b.map encU8), .v (.int .i64 a0.i), .v (.int .i64 a0.h)])] (.o (.c (.v (.int .i64 r.1)))) [(900, .box 62 [.rs 1 (r.2.b.map encU8), .v (.int .i64 r.2.i), .v (.int .i64 r.2.h)])] [] := by
  unfold spec_l1Byte at hM
  refine cn (N := 58) (pids := [900]) Try_mixed Try.func65 (by kernel_rfl) (by kernel_rfl) (by kernel_rfl) rfl fun ρ g w R => ?_
  rcases cond_cases hM with ⟨h1, hM⟩ | ⟨h1, hM⟩
  · obtain ⟨v2, h3, hM⟩ := bind_some hM
    have hE : some (w64 ((BitVec.ofInt 64 (w64 ((w64 ((BitVec.ofInt 64 (w64 ((BitVec.ofInt 64 (Int.fdiv (w64 ((w64 (a0.h * 6364136223846793005)) + 1442695040888963407)) (2 ^ 35)) ^^^ BitVec.ofInt 64 (Int.fdiv (w64 ((w64 (a0.h * 6364136223846793005)) + 1442695040888963407)) (2 ^ 45))).toNat)) &&& BitVec.ofInt 64 255).toNat)) + (w64 v2))) &&& BitVec.ofInt 64 255).toNat), (l1Cur.mk a0.b (w64 (a0.i + 1)) (w64 ((w64 (a0.h * 6364136223846793005)) + 1442695040888963407)))) = some r := hM
    have hE := Option.some.inj hE
    subst hE
    exact pr R 9999 [.ln (a0.b.length), .as 34 true, .ix (encU8 v2)] [] [900] [] (And.intro (lenm encU8 a0.b) (And.intro h1 (And.intro (gi_map encU8 h3) True.intro))) (by kernel_rfl)
  · have hE : some (w64 ((BitVec.ofInt 64 (w64 ((BitVec.ofInt 64 (Int.fdiv (w64 ((w64 (a0.h * 6364136223846793005)) + 1442695040888963407)) (2 ^ 35)) ^^^ BitVec.ofInt 64 (Int.fdiv (w64 ((w64 (a0.h * 6364136223846793005)) + 1442695040888963407)) (2 ^ 45))).toNat)) &&& BitVec.ofInt 64 255).toNat), (l1Cur.mk a0.b a0.i (w64 ((w64 (a0.h * 6364136223846793005)) + 1442695040888963407)))) = some r := hM
    have hE := Option.some.inj hE
    subst hE
    exact pr R 9999 [.ln (a0.b.length), .as 34 false] [] [900] [] (And.intro (lenm encU8 a0.b) (And.intro h1 True.intro)) (by kernel_rfl)

-- loop.example/g03014/spec.l1Below
def spec_l1Below (a0 : l1Cur) (a1 : Int) : Option (Int × l1Cur) :=
  bif (decide (a1 ≤ 0)) then
  some (0, a0)
  else
  bif (decide (a1 ≤ 256)) then
  (spec_l1Byte a0).bind fun v3 =>
  (rM v3.1 a1).bind fun v5 =>
  some (v5, v3.2)
  else
  (spec_l1Byte a0).bind fun v7 =>
  (spec_l1Byte v7.2).bind fun v9 =>
  (spec_l1Byte v9.2).bind fun v11 =>
  (rM (w64 ((w64 ((w64 (v7.1 * 65536)) + (w64 (v9.1 * 256)))) + v11.1)) a1).bind fun v13 =>
  some (v13, v11.2)
theorem spec_l1Below_ok (a0 : l1Cur) (a1 : Int) (r : Int × l1Cur) (hM : spec_l1Below a0 a1 = some r) :
    Con Try.prog 45 [.c (.ptr 900 0), .c (.v (.int .i64 a1))] [(900, .box 62 [.rs 1 (a0.b.map encU8), .v (.int .i64 a0.i), .v (.int .i64 a0.h)])] (.o (.c (.v (.int .i64 r.1)))) [(900, .box 62 [.rs 1 (r.2.b.map encU8), .v (.int .i64 r.2.i), .v (.int .i64 r.2.h)])] [] := by
  unfold spec_l1Below at hM
  refine cn (N := 31) (pids := [900]) Try_mixed Try.func45 (by kernel_rfl) (by kernel_rfl) (by kernel_rfl) rfl fun ρ g w R => ?_
  rcases cond_cases hM with ⟨h1, hM⟩ | ⟨h1, hM⟩
  · have hE : some (0, a0) = some r := hM
    have hE := Option.some.inj hE
    subst hE
    exact pr R 9999 [.as 9 true] [] [900] [] (And.intro h1 True.intro) (by kernel_rfl)
  · rcases cond_cases hM with ⟨h2, hM⟩ | ⟨h2, hM⟩
    · obtain ⟨v3, h4, hM⟩ := bind_some hM
      obtain ⟨v5, h6, hM⟩ := bind_some hM
      have hE : some (v5, v3.2) = some r := hM
      have hE := Option.some.inj hE
      subst hE
      exact pr R 9999 [.as 9 false, .as 11 true, .call true [900] (.o (.c (.v (.int .i64 v3.1)))) [(900, .box 62 [.rs 1 (v3.2.b.map encU8), .v (.int .i64 v3.2.i), .v (.int .i64 v3.2.h)])] [], .run 15 (.int .i64 v5)] [] [900] [] (And.intro h1 (And.intro h2 (And.intro (And.intro (con_sw 900 900 (spec_l1Byte_ok a0 v3 h4)) (rfl : ([900] : List Nat) = [900])) (And.intro (rM_run (P := Try.prog) (t := 3) (x := .tmp 0) (y := .tmp 0) h6) True.intro)))) (by kernel_rfl)
    · obtain ⟨v7, h8, hM⟩ := bind_some hM
      obtain ⟨v9, h10, hM⟩ := bind_some hM
      obtain ⟨v11, h12, hM⟩ := bind_some hM
      obtain ⟨v13, h14, hM⟩ := bind_some hM
      have hE : some (v13, v11.2) = some r := hM
      have hE := Option.some.inj hE
      subst hE
      exact pr R 9999 [.as 9 false, .as 11 false, .call true [900] (.o (.c (.v (.int .i64 v7.1)))) [(900, .box 62 [.rs 1 (v7.2.b.map encU8), .v (.int .i64 v7.2.i), .v (.int .i64 v7.2.h)])] [], .call true [900] (.o (.c (.v (.int .i64 v9.1)))) [(900, .box 62 [.rs 1 (v9.2.b.map encU8), .v (.int .i64 v9.2.i), .v (.int .i64 v9.2.h)])] [], .call true [900] (.o (.c (.v (.int .i64 v11.1)))) [(900, .box 62 [.rs 1 (v11.2.b.map encU8), .v (.int .i64 v11.2.i), .v (.int .i64 v11.2.h)])] [], .run 30 (.int .i64 v13)] [] [900] [] (And.intro h1 (And.intro h2 (And.intro (And.intro (con_sw 900 900 (spec_l1Byte_ok a0 v7 h8)) (rfl : ([900] : List Nat) = [900])) (And.intro (And.intro (con_sw 900 900 (spec_l1Byte_ok v7.2 v9 h10)) (rfl : ([900] : List Nat) = [900])) (And.intro (And.intro (con_sw 900 900 (spec_l1Byte_ok v9.2 v11 h12)) (rfl : ([900] : List Nat) = [900])) (And.intro (rM_run (P := Try.prog) (t := 3) (x := .tmp 0) (y := .tmp 0) h14) True.intro)))))) (by kernel_rfl)

-- loop.example/g03014/spec.l1Once
def spec_l1Once (a0 : l1Cur) (a1 : Int) : Option (Bool × l1Cur) :=
  (spec_l1Below a0 a1).bind fun v1 =>
  some (v1.1 == 0, v1.2)
theorem spec_l1Once_ok (a0 : l1Cur) (a1 : Int) (r : Bool × l1Cur) (hM : spec_l1Once a0 a1 = some r) :
    Con Try.prog 25 [.c (.ptr 900 0), .c (.v (.int .i64 a1))] [(900, .box 62 [.rs 1 (a0.b.map encU8), .v (.int .i64 a0.i), .v (.int .i64 a0.h)])] (.o (.c (.v (.bool r.1)))) [(900, .box 62 [.rs 1 (r.2.b.map encU8), .v (.int .i64 r.2.i), .v (.int .i64 r.2.h)])] [] := by
  unfold spec_l1Once at hM
  refine cn (N := 9) (pids := [900]) Try_mixed Try.func25 (by kernel_rfl) (by kernel_rfl) (by kernel_rfl) rfl fun ρ g w R => ?_
  obtain ⟨v1, h2, hM⟩ := bind_some hM
  have hE : some (v1.1 == 0, v1.2) = some r := hM
  have hE := Option.some.inj hE
  subst hE
  exact pr R 9999 [.call true [900] (.o (.c (.v (.int .i64 v1.1)))) [(900, .box 62 [.rs 1 (v1.2.b.map encU8), .v (.int .i64 v1.2.i), .v (.int .i64 v1.2.h)])] []] [] [900] [] (And.intro (And.intro (con_sw 900 900 (spec_l1Below_ok a0 a1 v1 h2)) (rfl : ([900] : List Nat) = [900])) True.intro) (by kernel_rfl)

-- loop.example/g03014/spec.l1Int
def spec_l1Int (a0 : l1Cur) (a1 : (List Int)) : Option (Int × l1Cur) :=
  (spec_l1Below a0 (a1.length : Int)).bind fun v1 =>
  (gi a1 v1.1).bind fun v3 =>
  some (v3, v1.2)
theorem spec_l1Int_ok (a0 : l1Cur) (a1 : (List Int)) (r : Int × l1Cur) (hM : spec_l1Int a0 a1 = some r) :
    Con Try.prog 47 [.c (.ptr 900 0), .c (.sl 901)] [(900, .box 62 [.rs 1 (a0.b.map encU8), .v (.int .i64 a0.i), .v (.int .i64 a0.h)]), (901, .row 3 1 (a1.map encI))] (.o (.c (.v (.int .i64 r.1)))) [(900, .box 62 [.rs 1 (r.2.b.map encU8), .v (.int .i64 r.2.i), .v (.int .i64 r.2.h)]), (901, .row 3 1 (a1.map encI))] [] := by
  unfold spec_l1Int at hM
  refine cn (N := 12) (pids := [900, 901]) Try_mixed Try.func47 (by kernel_rfl) (by kernel_rfl) (by kernel_rfl) rfl fun ρ g w R => ?_
  obtain ⟨v1, h2, hM⟩ := bind_some hM
  obtain ⟨v3, h4, hM⟩ := bind_some hM
  have hE : some (v3, v1.2) = some r := hM
  have hE := Option.some.inj hE
  subst hE
  exact pr R 9999 [.ln (a1.length), .call true [900] (.o (.c (.v (.int .i64 v1.1)))) [(900, .box 62 [.rs 1 (v1.2.b.map encU8), .v (.int .i64 v1.2.i), .v (.int .i64 v1.2.h)])] [], .ix (encI v3)] [] [900, 901] [] (And.intro (lenm encI a1) (And.intro (And.intro (con_sw 900 900 (spec_l1Below_ok a0 (a1.length : Int) v1 h2)) (rfl : ([900] : List Nat) = [900])) (And.intro (gi_lt encI h4) (And.intro ((gi_map encI h4).2) True.intro)))) (by kernel_rfl)

-- loop.example/g03014/spec.l5Id
def spec_l5Id (a0 : l1Cur) (a1 : (List Thing)) : Option (Int × l1Cur) :=
  bif ((a1.length : Int) == 0) then
  (spec_l1Int a0 ([0, (-1), 9999, 10000] : List Int)).bind fun v2 =>
  some v2
  else
  (spec_l1Once a0 12).bind fun v4 =>
  bif v4.1 then
  (spec_l1Int v4.2 ([0, (-1), 9999, 10000] : List Int)).bind fun v7 =>
  some v7
  else
  (spec_l1Below v4.2 (a1.length : Int)).bind fun v9 =>
  (gi a1 v9.1).bind fun v11 =>
  some (v11.Id, v9.2)
theorem spec_l5Id_ok (a0 : l1Cur) (a1 : (List Thing)) (r : Int × l1Cur) (hM : spec_l5Id a0 a1 = some r) :
    Con Try.prog 27 [.c (.ptr 900 0), .c (.sl 901)] [(900, .box 62 [.rs 1 (a0.b.map encU8), .v (.int .i64 a0.i), .v (.int .i64 a0.h)]), (901, .row 35 6 (a1.map Thing.enc))] (.o (.c (.v (.int .i64 r.1)))) [(900, .box 62 [.rs 1 (r.2.b.map encU8), .v (.int .i64 r.2.i), .v (.int .i64 r.2.h)]), (901, .row 35 6 (a1.map Thing.enc))] [] := by
  unfold spec_l5Id at hM
  refine cn (N := 23) (pids := [900, 901]) Try_mixed Try.func27 (by kernel_rfl) (by kernel_rfl) (by kernel_rfl) rfl fun ρ g w R => ?_
  rcases cond_cases hM with ⟨h1, hM⟩ | ⟨h1, hM⟩
  · obtain ⟨v2, h3, hM⟩ := bind_some hM
    have hE : some v2 = some r := hM
    have hE := Option.some.inj hE
    subst hE
    exact pr R 9999 [.ln (a1.length), .as 8 true, .new 0, .ad (.keep [0, 1, 4, 5, 6, 7, 8, 9, 10, 11, 12, 13] [900, 0, 901]), .call true [900, 0] (.o (.c (.v (.int .i64 v2.1)))) [(900, .box 62 [.rs 1 (v2.2.b.map encU8), .v (.int .i64 v2.2.i), .v (.int .i64 v2.2.h)]), (0, .row 3 1 (([0, (-1), 9999, 10000] : List Int).map encI))] []] [] [900, 901] [] (And.intro (lenm Thing.enc a1) (And.intro h1 (And.intro (And.intro (con_sw 901 0 (con_sw 900 900 (spec_l1Int_ok a0 ([0, (-1), 9999, 10000] : List Int) v2 h3))) (rfl : ([900, 0] : List Nat) = [900, 0])) True.intro))) (by kernel_rfl)
  · obtain ⟨v4, h5, hM⟩ := bind_some hM
    rcases cond_cases hM with ⟨h6, hM⟩ | ⟨h6, hM⟩
    · obtain ⟨v7, h8, hM⟩ := bind_some hM
      have hE : some v7 = some r := hM
      have hE := Option.some.inj hE
      subst hE
      exact pr R 9999 [.ln (a1.length), .as 8 false, .call true [900] (.o (.c (.v (.bool v4.1)))) [(900, .box 62 [.rs 1 (v4.2.b.map encU8), .v (.int .i64 v4.2.i), .v (.int .i64 v4.2.h)])] [], .as 11 true, .new 1, .ad (.keep [0, 1, 4, 5, 6, 7, 8, 9, 10, 11, 12, 13] [900, 1, 901]), .call true [900, 1] (.o (.c (.v (.int .i64 v7.1)))) [(900, .box 62 [.rs 1 (v7.2.b.map encU8), .v (.int .i64 v7.2.i), .v (.int .i64 v7.2.h)]), (1, .row 3 1 (([0, (-1), 9999, 10000] : List Int).map encI))] []] [] [900, 901] [] (And.intro (lenm Thing.enc a1) (And.intro h1 (And.intro (And.intro (con_sw 900 900 (spec_l1Once_ok a0 12 v4 h5)) (rfl : ([900] : List Nat) = [900])) (And.intro h6 (And.intro (And.intro (con_sw 901 1 (con_sw 900 900 (spec_l1Int_ok v4.2 ([0, (-1), 9999, 10000] : List Int) v7 h8))) (rfl : ([900, 1] : List Nat) = [900, 1])) True.intro))))) (by kernel_rfl)
    · obtain ⟨v9, h10, hM⟩ := bind_some hM
      obtain ⟨v11, h12, hM⟩ := bind_some hM
      have hE : some (v11.Id, v9.2) = some r := hM
      have hE := Option.some.inj hE
      subst hE
      exact pr R 9999 [.ln (a1.length), .as 8 false, .call true [900] (.o (.c (.v (.bool v4.1)))) [(900, .box 62 [.rs 1 (v4.2.b.map encU8), .v (.int .i64 v4.2.i), .v (.int .i64 v4.2.h)])] [], .as 11 false, .ln (a1.length), .call true [900] (.o (.c (.v (.int .i64 v9.1)))) [(900, .box 62 [.rs 1 (v9.2.b.map encU8), .v (.int .i64 v9.2.i), .v (.int .i64 v9.2.h)])] [], .ix (Thing.enc v11)] [] [900, 901] [] (And.intro (lenm Thing.enc a1) (And.intro h1 (And.intro (And.intro (con_sw 900 900 (spec_l1Once_ok a0 12 v4 h5)) (rfl : ([900] : List Nat) = [900])) (And.intro h6 (And.intro (lenm Thing.enc a1) (And.intro (And.intro (con_sw 900 900 (spec_l1Below_ok v4.2 (a1.length : Int) v9 h10)) (rfl : ([900] : List Nat) = [900])) (And.intro (gi_lt Thing.enc h12) (And.intro ((gi_map Thing.enc h12).2) True.intro)))))))) (by kernel_rfl)

-- loop.example/g03014/spec.SealBox
def spec_SealBox (a0 : (List Thing)) (a1 : Int) (a2 : Bool) : Option ((List Thing) × Int) :=
  (spec_l5Copy a0).bind fun v1 =>
  (spec_FindThing a0 a1).bind fun v3 =>
  (spec_AreThings a0).bind fun v5 =>
  bif (!v5) then
  some (v1, 1)
  else
  bif (decide (v3 < 0)) then
  some (v1, 1)
  else
  (gi a0 v3).bind fun v9 =>
  bif (!v9.Box) then
  some (v1, 1)
  else
  (spec_l5Locked a0 a1).bind fun v12 =>
  bif v12 then
  some (v1, 2)
  else
  (gi v1 v3).bind fun v15 =>
  some (List.set v1 (Int.toNat v3) (Thing.mk v15.Id v15.Own v15.Room v15.In v15.Box a2), 0)
theorem spec_SealBox_ok (a0 : (List Thing)) (a1 : Int) (a2 : Bool) (r : (List Thing) × Int) (hM : spec_SealBox a0 a1 a2 = some r) :
    Con Try.prog 46 [.c (.rs 6 (a0.map Thing.enc)), .c (.v (.int .i64 a1)), .c (.v (.bool a2))] [] (.tup [.c (.sl 1000), .c (.v (.int .i64 r.2))]) [] [(1000, .row 35 6 (r.1.map Thing.enc))] := by
  unfold spec_SealBox at hM
  refine cn (N := 43) (pids := []) Try_mixed Try.func46 (by kernel_rfl) (by kernel_rfl) (by kernel_rfl) rfl fun ρ g w R => ?_
  obtain ⟨v1, h2, hM⟩ := bind_some hM
  obtain ⟨v3, h4, hM⟩ := bind_some hM
  obtain ⟨v5, h6, hM⟩ := bind_some hM
  rcases cond_cases hM with ⟨h7, hM⟩ | ⟨h7, hM⟩
  · have hE : some (v1, 1) = some r := hM
    have hE := Option.some.inj hE
    subst hE
    exact pr R 9999 [.call false [] (.o (.c (.sl 0))) [] [(0, .row 35 6 (v1.map Thing.enc))], .call false [] (.o (.c (.v (.int .i64 v3)))) [] [], .call false [] (.o (.c (.v (.bool v5)))) [] [], .as 19 true] [.sw 0 1000] [] [1000] (And.intro (And.intro (con_sw 1000 0 (spec_l5Copy_ok a0 v1 h2)) (rfl : ([] : List Nat) = [])) (And.intro (spec_FindThing_ok a0 a1 v3 h4) (And.intro (spec_AreThings_ok a0 v5 h6) (And.intro h7 True.intro)))) (by kernel_rfl)
  · rcases cond_cases hM with ⟨h8, hM⟩ | ⟨h8, hM⟩
    · have hE : some (v1, 1) = some r := hM
      have hE := Option.some.inj hE
      subst hE
      exact pr R 9999 [.call false [] (.o (.c (.sl 0))) [] [(0, .row 35 6 (v1.map Thing.enc))], .call false [] (.o (.c (.v (.int .i64 v3)))) [] [], .call false [] (.o (.c (.v (.bool v5)))) [] [], .as 19 false, .as 23 true] [.sw 0 1000] [] [1000] (And.intro (And.intro (con_sw 1000 0 (spec_l5Copy_ok a0 v1 h2)) (rfl : ([] : List Nat) = [])) (And.intro (spec_FindThing_ok a0 a1 v3 h4) (And.intro (spec_AreThings_ok a0 v5 h6) (And.intro h7 (And.intro h8 True.intro))))) (by kernel_rfl)
    · obtain ⟨v9, h10, hM⟩ := bind_some hM
      rcases cond_cases hM with ⟨h11, hM⟩ | ⟨h11, hM⟩
      · have hE : some (v1, 1) = some r := hM
        have hE := Option.some.inj hE
        subst hE
        exact pr R 9999 [.call false [] (.o (.c (.sl 0))) [] [(0, .row 35 6 (v1.map Thing.enc))], .call false [] (.o (.c (.v (.int .i64 v3)))) [] [], .call false [] (.o (.c (.v (.bool v5)))) [] [], .as 19 false, .as 23 false, .ix (Thing.enc v9), .as 15 true] [.sw 0 1000] [] [1000] (And.intro (And.intro (con_sw 1000 0 (spec_l5Copy_ok a0 v1 h2)) (rfl : ([] : List Nat) = [])) (And.intro (spec_FindThing_ok a0 a1 v3 h4) (And.intro (spec_AreThings_ok a0 v5 h6) (And.intro h7 (And.intro h8 (And.intro (gi_map Thing.enc h10) (And.intro h11 True.intro))))))) (by kernel_rfl)
      · obtain ⟨v12, h13, hM⟩ := bind_some hM
        rcases cond_cases hM with ⟨h14, hM⟩ | ⟨h14, hM⟩
        · have hE : some (v1, 2) = some r := hM
          have hE := Option.some.inj hE
          subst hE
          exact pr R 9999 [.call false [] (.o (.c (.sl 0))) [] [(0, .row 35 6 (v1.map Thing.enc))], .call false [] (.o (.c (.v (.int .i64 v3)))) [] [], .call false [] (.o (.c (.v (.bool v5)))) [] [], .as 19 false, .as 23 false, .ix (Thing.enc v9), .as 15 false, .call false [] (.o (.c (.v (.bool v12)))) [] [], .as 32 true] [.sw 0 1000] [] [1000] (And.intro (And.intro (con_sw 1000 0 (spec_l5Copy_ok a0 v1 h2)) (rfl : ([] : List Nat) = [])) (And.intro (spec_FindThing_ok a0 a1 v3 h4) (And.intro (spec_AreThings_ok a0 v5 h6) (And.intro h7 (And.intro h8 (And.intro (gi_map Thing.enc h10) (And.intro h11 (And.intro (spec_l5Locked_ok a0 a1 v12 h13) (And.intro h14 True.intro))))))))) (by kernel_rfl)
        · obtain ⟨v15, h16, hM⟩ := bind_some hM
          have hE : some (List.set v1 (Int.toNat v3) (Thing.mk v15.Id v15.Own v15.Room v15.In v15.Box a2), 0) = some r := hM
          have hE := Option.some.inj hE
          subst hE
          exact pr R 9999 [.call false [] (.o (.c (.sl 0))) [] [(0, .row 35 6 (v1.map Thing.enc))], .call false [] (.o (.c (.v (.int .i64 v3)))) [] [], .call false [] (.o (.c (.v (.bool v5)))) [] [], .as 19 false, .as 23 false, .ix (Thing.enc v9), .as 15 false, .call false [] (.o (.c (.v (.bool v12)))) [] [], .as 32 false, .ix (Thing.enc v15), .nm ((List.set v1 (Int.toNat v3) (Thing.mk v15.Id v15.Own v15.Room v15.In v15.Box a2)).map Thing.enc)] [.sw 0 1000] [] [1000] (And.intro (And.intro (con_sw 1000 0 (spec_l5Copy_ok a0 v1 h2)) (rfl : ([] : List Nat) = [])) (And.intro (spec_FindThing_ok a0 a1 v3 h4) (And.intro (spec_AreThings_ok a0 v5 h6) (And.intro h7 (And.intro h8 (And.intro (gi_map Thing.enc h10) (And.intro h11 (And.intro (spec_l5Locked_ok a0 a1 v12 h13) (And.intro h14 (And.intro (gi_lt Thing.enc h16) (And.intro (And.intro (gi_map Thing.enc h16).2 (set_map Thing.enc v1 (Int.toNat v3) (Thing.mk v15.Id v15.Own v15.Room v15.In v15.Box a2))) True.intro))))))))))) (by kernel_rfl)

-- loop.example/g03014/spec.l5Draw
def spec_l5Draw_L3_b (s26 : (List Int)) (s27 : Int) (s28 : Int) (s29 : (List Thing)) (s30 : Int) : Option (Ctl ((List Int) × Int × Int × (List Thing) × Int) ((List Int) × Int × Int × (List Thing)) ((List Thing) × l1Cur)) :=
  bif (decide (s30 > 0)) then
  (spec_l5Id (l1Cur.mk s26 s27 s28) s29).bind fun v36 =>
  (spec_SealBox s29 v36.1 true).bind fun v38 =>
  some (.next (v36.2.b, v36.2.i, v36.2.h, v38.1, w64 (s30 - 1)))
  else
  some (.brk (s26, s27, s28, s29))
def spec_l5Draw_L3 (s : (List Int) × Int × Int × (List Thing) × Int) : Option (Ctl ((List Int) × Int × Int × (List Thing) × Int) ((List Int) × Int × Int × (List Thing)) ((List Thing) × l1Cur)) := spec_l5Draw_L3_b s.1 s.2.1 s.2.2.1 s.2.2.2.1 s.2.2.2.2
def spec_l5Draw_L3_s (s26 : (List Int)) (s27 : Int) (s28 : Int) (s29 : (List Thing)) (s30 : Int) : St := ⟨[(0, .o (.c (.ptr 900 0))), (5, .o (.c (.sl 0))), (12, .o (.c (.v (.int .i64 s30))))], [(900, .box 62 [.rs 1 (s26.map encU8), .v (.int .i64 s27), .v (.int .i64 s28)]), (0, .row 35 6 (s29.map Thing.enc))]⟩
def spec_l5Draw_L3_S (s : (List Int) × Int × Int × (List Thing) × Int) : St := spec_l5Draw_L3_s s.1 s.2.1 s.2.2.1 s.2.2.2.1 s.2.2.2.2
def spec_l5Draw_L3_a (s31 : (List Int)) (s32 : Int) (s33 : Int) (s34 : (List Thing)) : Option ((List Thing) × l1Cur) :=
  some (s34, (l1Cur.mk s31 s32 s33))
def spec_l5Draw_L3_k (x : ((List Int) × Int × Int × (List Thing)) ⊕ ((List Thing) × l1Cur)) : Option ((List Thing) × l1Cur) := match x with
  | .inl t => spec_l5Draw_L3_a t.1 t.2.1 t.2.2.1 t.2.2.2
  | .inr y => some y
def spec_l5Draw_L2_b (s15 : (List Int)) (s16 : Int) (s17 : Int) (s18 : (List Thing)) (s19 : Int) : Option (Ctl ((List Int) × Int × Int × (List Thing) × Int) ((List Int) × Int × Int × (List Thing)) ((List Thing) × l1Cur)) :=
  bif (decide (s19 > 0)) then
  (spec_l5Id (l1Cur.mk s15 s16 s17) s18).bind fun v41 =>
  (spec_l5Id v41.2 s18).bind fun v43 =>
  (spec_PutInto s18 v41.1 v43.1).bind fun v45 =>
  some (.next (v43.2.b, v43.2.i, v43.2.h, v45.1, w64 (s19 - 1)))
  else
  some (.brk (s15, s16, s17, s18))
def spec_l5Draw_L2 (s : (List Int) × Int × Int × (List Thing) × Int) : Option (Ctl ((List Int) × Int × Int × (List Thing) × Int) ((List Int) × Int × Int × (List Thing)) ((List Thing) × l1Cur)) := spec_l5Draw_L2_b s.1 s.2.1 s.2.2.1 s.2.2.2.1 s.2.2.2.2
def spec_l5Draw_L2_s (s15 : (List Int)) (s16 : Int) (s17 : Int) (s18 : (List Thing)) (s19 : Int) : St := ⟨[(0, .o (.c (.ptr 900 0))), (5, .o (.c (.sl 0))), (9, .o (.c (.v (.int .i64 s19))))], [(900, .box 62 [.rs 1 (s15.map encU8), .v (.int .i64 s16), .v (.int .i64 s17)]), (0, .row 35 6 (s18.map Thing.enc))]⟩
def spec_l5Draw_L2_S (s : (List Int) × Int × Int × (List Thing) × Int) : St := spec_l5Draw_L2_s s.1 s.2.1 s.2.2.1 s.2.2.2.1 s.2.2.2.2
def spec_l5Draw_L2_a (s20 : (List Int)) (s21 : Int) (s22 : Int) (s23 : (List Thing)) : Option ((List Thing) × l1Cur) :=
  (spec_l1Below (l1Cur.mk s20 s21 s22) 3).bind fun v24 =>
  (loopM (spec_l5Draw_L3) big (v24.2.b, v24.2.i, v24.2.h, s23, v24.1)).bind (spec_l5Draw_L3_k)
def spec_l5Draw_L2_k (x : ((List Int) × Int × Int × (List Thing)) ⊕ ((List Thing) × l1Cur)) : Option ((List Thing) × l1Cur) := match x with
  | .inl t => spec_l5Draw_L2_a t.1 t.2.1 t.2.2.1 t.2.2.2
  | .inr y => some y
def spec_l5Draw_j1 (s6 : (List Thing)) (s7 : Int) (s8 : Int) (v48 : (Int × l1Cur)) (v50 : (Int × l1Cur)) (s54 : (List Int)) (s55 : Int) (s56 : Int) (s57 : Int) (s58 : Bool) : Option (Ctl ((List Int) × Int × Int × (List Thing) × Int × Int) ((List Int) × Int × Int × (List Thing)) ((List Thing) × l1Cur)) :=
  (ap 40 s6 ([(Thing.mk ((Thing.mk (w64 ((w64 (s7 + 1)) + v48.1)) (w64 (1 + v50.1)) 0 0 false false).Id) ((Thing.mk (w64 ((w64 (s7 + 1)) + v48.1)) (w64 (1 + v50.1)) 0 0 false false).Own) s57 ((Thing.mk (w64 ((w64 (s7 + 1)) + v48.1)) (w64 (1 + v50.1)) 0 0 false false).In) s58 ((Thing.mk (w64 ((w64 (s7 + 1)) + v48.1)) (w64 (1 + v50.1)) 0 0 false false).Sealed))] : List Thing)).bind fun v59 =>
  some (.next (s54, s55, s56, v59, w64 ((w64 (s7 + 1)) + v48.1), w64 (s8 - 1)))
def spec_l5Draw_L1_b (s3 : (List Int)) (s4 : Int) (s5 : Int) (s6 : (List Thing)) (s7 : Int) (s8 : Int) : Option (Ctl ((List Int) × Int × Int × (List Thing) × Int × Int) ((List Int) × Int × Int × (List Thing)) ((List Thing) × l1Cur)) :=
  bif (decide (s8 > 0)) then
  (spec_l1Below (l1Cur.mk s3 s4 s5) 4).bind fun v48 =>
  (spec_l1Below v48.2 3000).bind fun v50 =>
  (spec_l1Once v50.2 2).bind fun v52 =>
  bif v52.1 then
  (spec_l1Below v52.2 20000).bind fun v62 =>
  spec_l5Draw_j1 s6 s7 s8 v48 v50 v62.2.b v62.2.i v62.2.h (w64 (1 + v62.1)) true
  else
  spec_l5Draw_j1 s6 s7 s8 v48 v50 v52.2.b v52.2.i v52.2.h ((Thing.mk (w64 ((w64 (s7 + 1)) + v48.1)) (w64 (1 + v50.1)) 0 0 false false).Room) ((Thing.mk (w64 ((w64 (s7 + 1)) + v48.1)) (w64 (1 + v50.1)) 0 0 false false).Box)
  else
  some (.brk (s3, s4, s5, s6))
def spec_l5Draw_L1 (s : (List Int) × Int × Int × (List Thing) × Int × Int) : Option (Ctl ((List Int) × Int × Int × (List Thing) × Int × Int) ((List Int) × Int × Int × (List Thing)) ((List Thing) × l1Cur)) := spec_l5Draw_L1_b s.1 s.2.1 s.2.2.1 s.2.2.2.1 s.2.2.2.2.1 s.2.2.2.2.2
def spec_l5Draw_L1_s (s3 : (List Int)) (s4 : Int) (s5 : Int) (s6 : (List Thing)) (s7 : Int) (s8 : Int) : St := ⟨[(0, .o (.c (.ptr 900 0))), (5, .o (.c (.sl 0))), (6, .o (.c (.v (.int .i64 s7)))), (7, .o (.c (.v (.int .i64 s8))))], [(900, .box 62 [.rs 1 (s3.map encU8), .v (.int .i64 s4), .v (.int .i64 s5)]), (0, .row 35 6 (s6.map Thing.enc))]⟩
def spec_l5Draw_L1_S (s : (List Int) × Int × Int × (List Thing) × Int × Int) : St := spec_l5Draw_L1_s s.1 s.2.1 s.2.2.1 s.2.2.2.1 s.2.2.2.2.1 s.2.2.2.2.2
def spec_l5Draw_L1_a (s9 : (List Int)) (s10 : Int) (s11 : Int) (s12 : (List Thing)) : Option ((List Thing) × l1Cur) :=
  (spec_l1Below (l1Cur.mk s9 s10 s11) (w64 (2 * (s12.length : Int)))).bind fun v13 =>
  (loopM (spec_l5Draw_L2) big (v13.2.b, v13.2.i, v13.2.h, s12, v13.1)).bind (spec_l5Draw_L2_k)
def spec_l5Draw_L1_k (x : ((List Int) × Int × Int × (List Thing)) ⊕ ((List Thing) × l1Cur)) : Option ((List Thing) × l1Cur) := match x with
  | .inl t => spec_l5Draw_L1_a t.1 t.2.1 t.2.2.1 t.2.2.2
  | .inr y => some y
def spec_l5Draw (a0 : l1Cur) (a1 : Int) : Option ((List Thing) × l1Cur) :=
  (spec_l1Below a0 a1).bind fun v1 =>
  (loopM (spec_l5Draw_L1) big (v1.2.b, v1.2.i, v1.2.h, ([] : List Thing), 0, w64 (2 + v1.1))).bind (spec_l5Draw_L1_k)
theorem spec_l5Draw_ok (a0 : l1Cur) (a1 : Int) (r : (List Thing) × l1Cur) (hM : spec_l5Draw a0 a1 = some r) :
    Con Try.prog 24 [.c (.ptr 900 0), .c (.v (.int .i64 a1))] [(900, .box 62 [.rs 1 (a0.b.map encU8), .v (.int .i64 a0.i), .v (.int .i64 a0.h)])] (.o (.c (.sl 1000))) [(900, .box 62 [.rs 1 (r.2.b.map encU8), .v (.int .i64 r.2.i), .v (.int .i64 r.2.h)])] [(1000, .row 35 6 (r.1.map Thing.enc))] := by
  unfold spec_l5Draw at hM
  refine cn (N := 82) (pids := [900]) Try_mixed Try.func24 (by kernel_rfl) (by kernel_rfl) (by kernel_rfl) rfl fun ρ g w R => ?_
  obtain ⟨v1, h2, hM⟩ := bind_some hM
  have K1 : ∀ (s9 : (List Int)) (s10 : Int) (s11 : Int) (s12 : (List Thing)), spec_l5Draw_L1_a s9 s10 s11 s12 = some r → Gr R [.code (cAt Try.f24 [1, 1, 1, 1])] (⟨[(0, .o (.c (.ptr 900 0))), (5, .o (.c (.sl 0)))], [(900, .box 62 [.rs 1 (s9.map encU8), .v (.int .i64 s10), .v (.int .i64 s11)]), (0, .row 35 6 (s12.map Thing.enc))]⟩) := by
    intro s9 s10 s11 s12 hM
    unfold spec_l5Draw_L1_a at hM
    obtain ⟨v13, h14, hM⟩ := bind_some hM
    have K2 : ∀ (s20 : (List Int)) (s21 : Int) (s22 : Int) (s23 : (List Thing)), spec_l5Draw_L2_a s20 s21 s22 s23 = some r → Gr R [.code (cAt Try.f24 [1, 1, 1, 1, 1])] (⟨[(0, .o (.c (.ptr 900 0))), (5, .o (.c (.sl 0)))], [(900, .box 62 [.rs 1 (s20.map encU8), .v (.int .i64 s21), .v (.int .i64 s22)]), (0, .row 35 6 (s23.map Thing.enc))]⟩) := by
      intro s20 s21 s22 s23 hM
      unfold spec_l5Draw_L2_a at hM
      obtain ⟨v24, h25, hM⟩ := bind_some hM
      have K3 : ∀ (s31 : (List Int)) (s32 : Int) (s33 : Int) (s34 : (List Thing)), spec_l5Draw_L3_a s31 s32 s33 s34 = some r → Gr R [.code (cAt Try.f24 [1, 1, 1, 1, 1, 1])] (⟨[(0, .o (.c (.ptr 900 0))), (5, .o (.c (.sl 0)))], [(900, .box 62 [.rs 1 (s31.map encU8), .v (.int .i64 s32), .v (.int .i64 s33)]), (0, .row 35 6 (s34.map Thing.enc))]⟩) := by
        intro s31 s32 s33 s34 hM
        unfold spec_l5Draw_L3_a at hM
        have hE : some (s34, (l1Cur.mk s31 s32 s33)) = some r := hM
        have hE := Option.some.inj hE
        subst hE
        exact pr R 9999 [] [.sw 0 1000] [900] [1000] True.intro (by kernel_rfl)
      refine pc R 9999 [.call true [900] (.o (.c (.v (.int .i64 v24.1)))) [(900, .box 62 [.rs 1 (v24.2.b.map encU8), .v (.int .i64 v24.2.i), .v (.int .i64 v24.2.h)])] []] [.keep [0, 5, 12] [900, 0]] (k' := [.code (.loop (cAt Try.f24 [1, 1, 1, 1, 1, 0, 1, 0, 0])), .blk 4, .code (cAt Try.f24 [1, 1, 1, 1, 1, 1])]) (S' := spec_l5Draw_L3_S (v24.2.b, v24.2.i, v24.2.h, s23, v24.1)) (And.intro (And.intro (con_sw 900 900 (spec_l1Below_ok (l1Cur.mk s20 s21 s22) 3 v24 h25)) (rfl : ([900] : List Nat) = [900])) True.intro) (by kernel_rfl) ?_
      refine lq (spec_l5Draw_L3_S) (body := spec_l5Draw_L3) (k := spec_l5Draw_L3_k) hM fun m3 s c3 hM hK3 => ?_
      obtain ⟨s26, s27, s28, s29, s30⟩ := s
      have hM : spec_l5Draw_L3_b s26 s27 s28 s29 s30 = some c3 := hM
      unfold spec_l5Draw_L3_b at hM
      rcases cond_cases hM with ⟨h35, hM⟩ | ⟨h35, hM⟩
      · obtain ⟨v36, h37, hM⟩ := bind_some hM
        obtain ⟨v38, h39, hM⟩ := bind_some hM
        have hE : some (Ctl.next (v36.2.b, v36.2.i, v36.2.h, v38.1, w64 (s30 - 1))) = some c3 := hM
        have hE := Option.some.inj hE
        subst hE
        exact pc R 9999 [.as 69 true, .ad (.keep [0, 5, 12, 68, 69, 73, 74, 75] [900, 0]), .call true [900, 0] (.o (.c (.v (.int .i64 v36.1)))) [(900, .box 62 [.rs 1 (v36.2.b.map encU8), .v (.int .i64 v36.2.i), .v (.int .i64 v36.2.h)]), (0, .row 35 6 (s29.map Thing.enc))] [], .call false [] (.tup [.c (.sl 1), .c (.v (.int .i64 v38.2))]) [] [(1, .row 35 6 (v38.1.map Thing.enc))]] [.sw 1 0, .keep [0, 5, 12] [900, 0]] (And.intro h35 (And.intro (And.intro (con_sw 901 0 (con_sw 900 900 (spec_l5Id_ok (l1Cur.mk s26 s27 s28) s29 v36 h37))) (rfl : ([900, 0] : List Nat) = [900, 0])) (And.intro (And.intro (con_sw 1000 1 (spec_SealBox_ok s29 v36.1 true v38 h39)) (rfl : ([] : List Nat) = [])) True.intro))) (by kernel_rfl) (li (Sf := spec_l5Draw_L3_S) (M := Mk (spec_l5Draw_L3) (spec_l5Draw_L3_k) r) (k := [.blk 4, .code (cAt Try.f24 [1, 1, 1, 1, 1, 1])]) (Nat.lt_succ_self m3) hK3)
      · have hE : some (Ctl.brk (s26, s27, s28, s29)) = some c3 := hM
        have hE := Option.some.inj hE
        subst hE
        exact pc R 5 [.as 69 false] [.keep [0, 5] [900, 0]] (And.intro h35 True.intro) (by kernel_rfl) (K3 s26 s27 s28 s29 hK3)
    refine pc R 9999 [.ln (s12.length), .call true [900] (.o (.c (.v (.int .i64 v13.1)))) [(900, .box 62 [.rs 1 (v13.2.b.map encU8), .v (.int .i64 v13.2.i), .v (.int .i64 v13.2.h)])] []] [.keep [0, 5, 9] [900, 0]] (k' := [.code (.loop (cAt Try.f24 [1, 1, 1, 1, 0, 1, 0, 0])), .blk 2, .code (cAt Try.f24 [1, 1, 1, 1, 1])]) (S' := spec_l5Draw_L2_S (v13.2.b, v13.2.i, v13.2.h, s12, v13.1)) (And.intro (lenm Thing.enc s12) (And.intro (And.intro (con_sw 900 900 (spec_l1Below_ok (l1Cur.mk s9 s10 s11) (w64 (2 * (s12.length : Int))) v13 h14)) (rfl : ([900] : List Nat) = [900])) True.intro)) (by kernel_rfl) ?_
    refine lq (spec_l5Draw_L2_S) (body := spec_l5Draw_L2) (k := spec_l5Draw_L2_k) hM fun m2 s c2 hM hK2 => ?_
    obtain ⟨s15, s16, s17, s18, s19⟩ := s
    have hM : spec_l5Draw_L2_b s15 s16 s17 s18 s19 = some c2 := hM
    unfold spec_l5Draw_L2_b at hM
    rcases cond_cases hM with ⟨h40, hM⟩ | ⟨h40, hM⟩
    · obtain ⟨v41, h42, hM⟩ := bind_some hM
      obtain ⟨v43, h44, hM⟩ := bind_some hM
      obtain ⟨v45, h46, hM⟩ := bind_some hM
      have hE : some (Ctl.next (v43.2.b, v43.2.i, v43.2.h, v45.1, w64 (s19 - 1))) = some c2 := hM
      have hE := Option.some.inj hE
      subst hE
      exact pc R 9999 [.as 51 true, .ad (.keep [0, 5, 9, 50, 51, 55, 56, 57] [900, 0]), .call true [900, 0] (.o (.c (.v (.int .i64 v41.1)))) [(900, .box 62 [.rs 1 (v41.2.b.map encU8), .v (.int .i64 v41.2.i), .v (.int .i64 v41.2.h)]), (0, .row 35 6 (s18.map Thing.enc))] [], .ad (.keep [0, 5, 9, 50, 51, 55, 56, 57, 58, 59, 60] [900, 0]), .call true [900, 0] (.o (.c (.v (.int .i64 v43.1)))) [(900, .box 62 [.rs 1 (v43.2.b.map encU8), .v (.int .i64 v43.2.i), .v (.int .i64 v43.2.h)]), (0, .row 35 6 (s18.map Thing.enc))] [], .call false [] (.tup [.c (.sl 2), .c (.v (.int .i64 v45.2))]) [] [(2, .row 35 6 (v45.1.map Thing.enc))]] [.sw 2 0, .keep [0, 5, 9] [900, 0]] (And.intro h40 (And.intro (And.intro (con_sw 901 0 (con_sw 900 900 (spec_l5Id_ok (l1Cur.mk s15 s16 s17) s18 v41 h42))) (rfl : ([900, 0] : List Nat) = [900, 0])) (And.intro (And.intro (con_sw 901 0 (con_sw 900 900 (spec_l5Id_ok v41.2 s18 v43 h44))) (rfl : ([900, 0] : List Nat) = [900, 0])) (And.intro (And.intro (con_sw 1000 2 (spec_PutInto_ok s18 v41.1 v43.1 v45 h46)) (rfl : ([] : List Nat) = [])) True.intro)))) (by kernel_rfl) (li (Sf := spec_l5Draw_L2_S) (M := Mk (spec_l5Draw_L2) (spec_l5Draw_L2_k) r) (k := [.blk 2, .code (cAt Try.f24 [1, 1, 1, 1, 1])]) (Nat.lt_succ_self m2) hK2)
    · have hE : some (Ctl.brk (s15, s16, s17, s18)) = some c2 := hM
      have hE := Option.some.inj hE
      subst hE
      exact pc R 5 [.as 51 false] [.keep [0, 5] [900, 0]] (And.intro h40 True.intro) (by kernel_rfl) (K2 s15 s16 s17 s18 hK2)
  refine pc R 9999 [.new 0, .call true [900] (.o (.c (.v (.int .i64 v1.1)))) [(900, .box 62 [.rs 1 (v1.2.b.map encU8), .v (.int .i64 v1.2.i), .v (.int .i64 v1.2.h)])] []] [.keep [0, 5, 6, 7] [900, 0]] (k' := [.code (.loop (cAt Try.f24 [1, 1, 1, 0, 1, 0, 0])), .blk 0, .code (cAt Try.f24 [1, 1, 1, 1])]) (S' := spec_l5Draw_L1_S (v1.2.b, v1.2.i, v1.2.h, ([] : List Thing), 0, w64 (2 + v1.1))) (And.intro (And.intro (con_sw 900 900 (spec_l1Below_ok a0 a1 v1 h2)) (rfl : ([900] : List Nat) = [900])) True.intro) (by kernel_rfl) ?_
  refine lq (spec_l5Draw_L1_S) (body := spec_l5Draw_L1) (k := spec_l5Draw_L1_k) hM fun m1 s c1 hM hK1 => ?_
  obtain ⟨s3, s4, s5, s6, s7, s8⟩ := s
  have hM : spec_l5Draw_L1_b s3 s4 s5 s6 s7 s8 = some c1 := hM
  unfold spec_l5Draw_L1_b at hM
  rcases cond_cases hM with ⟨h47, hM⟩ | ⟨h47, hM⟩
  · obtain ⟨v48, h49, hM⟩ := bind_some hM
    obtain ⟨v50, h51, hM⟩ := bind_some hM
    obtain ⟨v52, h53, hM⟩ := bind_some hM
    have J1 : ∀ (s54 : (List Int)) (s55 : Int) (s56 : Int) (s57 : Int) (s58 : Bool), spec_l5Draw_j1 s6 s7 s8 v48 v50 s54 s55 s56 s57 s58 = some c1 → Gr R [.code (cAt Try.f24 [1, 1, 1, 0, 1, 0, 0, 1, 0, 0, 1, 1, 1]), .blk 1, .code (cAt Try.f24 [1, 1, 1, 0, 1, 0, 0, 1, 1]), .inv (Jr R (spec_l5Draw_L1_S) (Mk (spec_l5Draw_L1) (spec_l5Draw_L1_k) r) (m1 + 1)), .blk 0, .code (cAt Try.f24 [1, 1, 1, 1])] (⟨[(0, .o (.c (.ptr 900 0))), (5, .o (.c (.sl 0))), (6, .o (.c (.v (.int .i64 (w64 ((w64 (s7 + 1)) + v48.1)))))), (7, .o (.c (.v (.int .i64 s8)))), (8, .o (.c (.ptr 3 0)))], [(900, .box 62 [.rs 1 (s54.map encU8), .v (.int .i64 s55), .v (.int .i64 s56)]), (0, .row 35 6 (s6.map Thing.enc)), (3, .box 35 [.v (.int .i64 ((Thing.mk (w64 ((w64 (s7 + 1)) + v48.1)) (w64 (1 + v50.1)) 0 0 false false).Id)), .v (.int .i64 ((Thing.mk (w64 ((w64 (s7 + 1)) + v48.1)) (w64 (1 + v50.1)) 0 0 false false).Own)), .v (.int .i64 s57), .v (.int .i64 ((Thing.mk (w64 ((w64 (s7 + 1)) + v48.1)) (w64 (1 + v50.1)) 0 0 false false).In)), .v (.bool s58), .v (.bool ((Thing.mk (w64 ((w64 (s7 + 1)) + v48.1)) (w64 (1 + v50.1)) 0 0 false false).Sealed))])]⟩) := by
      intro s54 s55 s56 s57 s58 hM
      unfold spec_l5Draw_j1 at hM
      obtain ⟨v59, h60, hM⟩ := bind_some hM
      have hE : some (Ctl.next (s54, s55, s56, v59, w64 ((w64 (s7 + 1)) + v48.1), w64 (s8 - 1))) = some c1 := hM
      have hE := Option.some.inj hE
      subst hE
      exact pc R 9999 [.new 4, .new 5, .nm (v59.map Thing.enc)] [.sw 5 0, .keep [0, 5, 6, 7] [900, 0]] (And.intro (ap_ok Thing.enc h60) True.intro) (by kernel_rfl) (li (Sf := spec_l5Draw_L1_S) (M := Mk (spec_l5Draw_L1) (spec_l5Draw_L1_k) r) (k := [.blk 0, .code (cAt Try.f24 [1, 1, 1, 1])]) (Nat.lt_succ_self m1) hK1)
    rcases cond_cases hM with ⟨h61, hM⟩ | ⟨h61, hM⟩
    · obtain ⟨v62, h63, hM⟩ := bind_some hM
      exact pc R 18 [.as 21 true, .call true [900] (.o (.c (.v (.int .i64 v48.1)))) [(900, .box 62 [.rs 1 (v48.2.b.map encU8), .v (.int .i64 v48.2.i), .v (.int .i64 v48.2.h)])] [], .call true [900] (.o (.c (.v (.int .i64 v50.1)))) [(900, .box 62 [.rs 1 (v50.2.b.map encU8), .v (.int .i64 v50.2.i), .v (.int .i64 v50.2.h)])] [], .new 3, .call true [900] (.o (.c (.v (.bool v52.1)))) [(900, .box 62 [.rs 1 (v52.2.b.map encU8), .v (.int .i64 v52.2.i), .v (.int .i64 v52.2.h)])] [], .as 35 true, .call true [900] (.o (.c (.v (.int .i64 v62.1)))) [(900, .box 62 [.rs 1 (v62.2.b.map encU8), .v (.int .i64 v62.2.i), .v (.int .i64 v62.2.h)])] []] [.keep [0, 5, 6, 7, 8] [900, 0, 3]] (And.intro h47 (And.intro (And.intro (con_sw 900 900 (spec_l1Below_ok (l1Cur.mk s3 s4 s5) 4 v48 h49)) (rfl : ([900] : List Nat) = [900])) (And.intro (And.intro (con_sw 900 900 (spec_l1Below_ok v48.2 3000 v50 h51)) (rfl : ([900] : List Nat) = [900])) (And.intro (And.intro (con_sw 900 900 (spec_l1Once_ok v50.2 2 v52 h53)) (rfl : ([900] : List Nat) = [900])) (And.intro h61 (And.intro (And.intro (con_sw 900 900 (spec_l1Below_ok v52.2 20000 v62 h63)) (rfl : ([900] : List Nat) = [900])) True.intro)))))) (by kernel_rfl) (J1 v62.2.b v62.2.i v62.2.h (w64 (1 + v62.1)) true hM)
    · exact pc R 16 [.as 21 true, .call true [900] (.o (.c (.v (.int .i64 v48.1)))) [(900, .box 62 [.rs 1 (v48.2.b.map encU8), .v (.int .i64 v48.2.i), .v (.int .i64 v48.2.h)])] [], .call true [900] (.o (.c (.v (.int .i64 v50.1)))) [(900, .box 62 [.rs 1 (v50.2.b.map encU8), .v (.int .i64 v50.2.i), .v (.int .i64 v50.2.h)])] [], .new 3, .call true [900] (.o (.c (.v (.bool v52.1)))) [(900, .box 62 [.rs 1 (v52.2.b.map encU8), .v (.int .i64 v52.2.i), .v (.int .i64 v52.2.h)])] [], .as 35 false] [.keep [0, 5, 6, 7, 8] [900, 0, 3]] (And.intro h47 (And.intro (And.intro (con_sw 900 900 (spec_l1Below_ok (l1Cur.mk s3 s4 s5) 4 v48 h49)) (rfl : ([900] : List Nat) = [900])) (And.intro (And.intro (con_sw 900 900 (spec_l1Below_ok v48.2 3000 v50 h51)) (rfl : ([900] : List Nat) = [900])) (And.intro (And.intro (con_sw 900 900 (spec_l1Once_ok v50.2 2 v52 h53)) (rfl : ([900] : List Nat) = [900])) (And.intro h61 True.intro))))) (by kernel_rfl) (J1 v52.2.b v52.2.i v52.2.h ((Thing.mk (w64 ((w64 (s7 + 1)) + v48.1)) (w64 (1 + v50.1)) 0 0 false false).Room) ((Thing.mk (w64 ((w64 (s7 + 1)) + v48.1)) (w64 (1 + v50.1)) 0 0 false false).Box) hM)
  · have hE : some (Ctl.brk (s3, s4, s5, s6)) = some c1 := hM
    have hE := Option.some.inj hE
    subst hE
    exact pc R 5 [.as 21 false] [.keep [0, 5] [900, 0]] (And.intro h47 True.intro) (by kernel_rfl) (K1 s3 s4 s5 s6 hK1)

-- loop.example/g03014/spec.l5Any
def spec_l5Any (a0 : l1Cur) : Option ((List Thing) × l1Cur) :=
  (spec_l5Draw a0 8).bind fun v1 =>
  (spec_l1Below v1.2 (v1.1.length : Int)).bind fun v3 =>
  (spec_l1Below v3.2 12).bind fun v5 =>
  bif (v5.1 == 0) then
  (spec_l1Below v5.2 (v1.1.length : Int)).bind fun v8 =>
  (gi v1.1 v8.1).bind fun v10 =>
  (gi v1.1 v3.1).bind fun v12 =>
  some (List.set v1.1 (Int.toNat v3.1) (Thing.mk v12.Id v12.Own v12.Room v10.Id v12.Box v12.Sealed), v8.2)
  else
  bif (v5.1 == 1) then
  (spec_l1Int v5.2 ([0, (-1), 30000, 30001] : List Int)).bind fun v15 =>
  (gi v1.1 v3.1).bind fun v17 =>
  some (List.set v1.1 (Int.toNat v3.1) (Thing.mk v17.Id v15.1 v17.Room v17.In v17.Box v17.Sealed), v15.2)
  else
  bif (v5.1 == 2) then
  (spec_l1Int v5.2 ([0, 1, 1000000, 1000001] : List Int)).bind fun v20 =>
  (gi v1.1 v3.1).bind fun v22 =>
  some (List.set v1.1 (Int.toNat v3.1) (Thing.mk v22.Id v22.Own v20.1 v22.In v22.Box v22.Sealed), v20.2)
  else
  bif (v5.1 == 3) then
  (gi v1.1 v3.1).bind fun v25 =>
  (gi v1.1 v3.1).bind fun v27 =>
  some (List.set v1.1 (Int.toNat v3.1) (Thing.mk v27.Id v27.Own v27.Room v27.In (!v25.Box) v27.Sealed), v5.2)
  else
  bif (v5.1 == 4) then
  (gi v1.1 v3.1).bind fun v30 =>
  some (List.set v1.1 (Int.toNat v3.1) (Thing.mk v30.Id v30.Own v30.Room v30.In v30.Box true), v5.2)
  else
  bif (v5.1 == 5) then
  (gi v1.1 0).bind fun v33 =>
  (spec_l1Int v5.2 ([0, 9999, 10000, v33.Id] : List Int)).bind fun v35 =>
  (gi v1.1 v3.1).bind fun v37 =>
  some (List.set v1.1 (Int.toNat v3.1) (Thing.mk v35.1 v37.Own v37.Room v37.In v37.Box v37.Sealed), v35.2)
  else
  bif (v5.1 == 6) then
  (spec_l1Int v5.2 ([(-1), 9998] : List Int)).bind fun v40 =>
  (gi v1.1 v3.1).bind fun v42 =>
  some (List.set v1.1 (Int.toNat v3.1) (Thing.mk v42.Id v42.Own v42.Room v40.1 v42.Box v42.Sealed), v40.2)
  else
  some (v1.1, v5.2)
theorem spec_l5Any_ok (a0 : l1Cur) (r : (List Thing) × l1Cur) (hM : spec_l5Any a0 = some r) :
    Con Try.prog 26 [.c (.ptr 900 0)] [(900, .box 62 [.rs 1 (a0.b.map encU8), .v (.int .i64 a0.i), .v (.int .i64 a0.h)])] (.o (.c (.sl 1000))) [(900, .box 62 [.rs 1 (r.2.b.map encU8), .v (.int .i64 r.2.i), .v (.int .i64 r.2.h)])] [(1000, .row 35 6 (r.1.map Thing.enc))] := by
  unfold spec_l5Any at hM
  refine cn (N := 86) (pids := [900]) Try_mixed Try.func26 (by kernel_rfl) (by kernel_rfl) (by kernel_rfl) rfl fun ρ g w R => ?_
  obtain ⟨v1, h2, hM⟩ := bind_some hM
  obtain ⟨v3, h4, hM⟩ := bind_some hM
  obtain ⟨v5, h6, hM⟩ := bind_some hM
  rcases cond_cases hM with ⟨h7, hM⟩ | ⟨h7, hM⟩
  · obtain ⟨v8, h9, hM⟩ := bind_some hM
    obtain ⟨v10, h11, hM⟩ := bind_some hM
    obtain ⟨v12, h13, hM⟩ := bind_some hM
    have hE : some (List.set v1.1 (Int.toNat v3.1) (Thing.mk v12.Id v12.Own v12.Room v10.Id v12.Box v12.Sealed), v8.2) = some r := hM
    have hE := Option.some.inj hE
    subst hE
    exact pr R 9999 [.call true [900] (.o (.c (.sl 0))) [(900, .box 62 [.rs 1 (v1.2.b.map encU8), .v (.int .i64 v1.2.i), .v (.int .i64 v1.2.h)])] [(0, .row 35 6 (v1.1.map Thing.enc))], .ln (v1.1.length), .call true [900] (.o (.c (.v (.int .i64 v3.1)))) [(900, .box 62 [.rs 1 (v3.2.b.map encU8), .v (.int .i64 v3.2.i), .v (.int .i64 v3.2.h)])] [], .call true [900] (.o (.c (.v (.int .i64 v5.1)))) [(900, .box 62 [.rs 1 (v5.2.b.map encU8), .v (.int .i64 v5.2.i), .v (.int .i64 v5.2.h)])] [], .as 13 true, .ln (v1.1.length), .call true [900] (.o (.c (.v (.int .i64 v8.1)))) [(900, .box 62 [.rs 1 (v8.2.b.map encU8), .v (.int .i64 v8.2.i), .v (.int .i64 v8.2.h)])] [], .ix (Thing.enc v10), .ix (Thing.enc v12), .nm ((List.set v1.1 (Int.toNat v3.1) (Thing.mk v12.Id v12.Own v12.Room v10.Id v12.Box v12.Sealed)).map Thing.enc)] [.sw 0 1000] [900] [1000] (And.intro (And.intro (con_sw 900 900 (con_sw 1000 0 (spec_l5Draw_ok a0 8 v1 h2))) (rfl : ([900] : List Nat) = [900])) (And.intro (lenm Thing.enc v1.1) (And.intro (And.intro (con_sw 900 900 (spec_l1Below_ok v1.2 (v1.1.length : Int) v3 h4)) (rfl : ([900] : List Nat) = [900])) (And.intro (And.intro (con_sw 900 900 (spec_l1Below_ok v3.2 12 v5 h6)) (rfl : ([900] : List Nat) = [900])) (And.intro h7 (And.intro (lenm Thing.enc v1.1) (And.intro (And.intro (con_sw 900 900 (spec_l1Below_ok v5.2 (v1.1.length : Int) v8 h9)) (rfl : ([900] : List Nat) = [900])) (And.intro (gi_lt Thing.enc h11) (And.intro ((gi_map Thing.enc h11).2) (And.intro (gi_lt Thing.enc h13) (And.intro (And.intro (gi_map Thing.enc h13).2 (set_map Thing.enc v1.1 (Int.toNat v3.1) (Thing.mk v12.Id v12.Own v12.Room v10.Id v12.Box v12.Sealed))) True.intro))))))))))) (by kernel_rfl)
  · rcases cond_cases hM with ⟨h14, hM⟩ | ⟨h14, hM⟩
    · obtain ⟨v15, h16, hM⟩ := bind_some hM
      obtain ⟨v17, h18, hM⟩ := bind_some hM
      have hE : some (List.set v1.1 (Int.toNat v3.1) (Thing.mk v17.Id v15.1 v17.Room v17.In v17.Box v17.Sealed), v15.2) = some r := hM
      have hE := Option.some.inj hE
      subst hE
      exact pr R 9999 [.call true [900] (.o (.c (.sl 0))) [(900, .box 62 [.rs 1 (v1.2.b.map encU8), .v (.int .i64 v1.2.i), .v (.int .i64 v1.2.h)])] [(0, .row 35 6 (v1.1.map Thing.enc))], .ln (v1.1.length), .call true [900] (.o (.c (.v (.int .i64 v3.1)))) [(900, .box 62 [.rs 1 (v3.2.b.map encU8), .v (.int .i64 v3.2.i), .v (.int .i64 v3.2.h)])] [], .call true [900] (.o (.c (.v (.int .i64 v5.1)))) [(900, .box 62 [.rs 1 (v5.2.b.map encU8), .v (.int .i64 v5.2.i), .v (.int .i64 v5.2.h)])] [], .as 13 false, .as 27 true, .new 1, .ad (.keep [0, 2, 3, 4, 5, 6, 7, 8, 9, 10, 11, 12, 13, 14, 27, 28, 29, 30, 31, 32] [900, 1, 0]), .call true [900, 1] (.o (.c (.v (.int .i64 v15.1)))) [(900, .box 62 [.rs 1 (v15.2.b.map encU8), .v (.int .i64 v15.2.i), .v (.int .i64 v15.2.h)]), (1, .row 3 1 (([0, (-1), 30000, 30001] : List Int).map encI))] [], .ix (Thing.enc v17), .nm ((List.set v1.1 (Int.toNat v3.1) (Thing.mk v17.Id v15.1 v17.Room v17.In v17.Box v17.Sealed)).map Thing.enc)] [.sw 0 1000] [900] [1000] (And.intro (And.intro (con_sw 900 900 (con_sw 1000 0 (spec_l5Draw_ok a0 8 v1 h2))) (rfl : ([900] : List Nat) = [900])) (And.intro (lenm Thing.enc v1.1) (And.intro (And.intro (con_sw 900 900 (spec_l1Below_ok v1.2 (v1.1.length : Int) v3 h4)) (rfl : ([900] : List Nat) = [900])) (And.intro (And.intro (con_sw 900 900 (spec_l1Below_ok v3.2 12 v5 h6)) (rfl : ([900] : List Nat) = [900])) (And.intro h7 (And.intro h14 (And.intro (And.intro (con_sw 901 1 (con_sw 900 900 (spec_l1Int_ok v5.2 ([0, (-1), 30000, 30001] : List Int) v15 h16))) (rfl : ([900, 1] : List Nat) = [900, 1])) (And.intro (gi_lt Thing.enc h18) (And.intro (And.intro (gi_map Thing.enc h18).2 (set_map Thing.enc v1.1 (Int.toNat v3.1) (Thing.mk v17.Id v15.1 v17.Room v17.In v17.Box v17.Sealed))) True.intro))))))))) (by kernel_rfl)
    · rcases cond_cases hM with ⟨h19, hM⟩ | ⟨h19, hM⟩
      · obtain ⟨v20, h21, hM⟩ := bind_some hM
        obtain ⟨v22, h23, hM⟩ := bind_some hM
        have hE : some (List.set v1.1 (Int.toNat v3.1) (Thing.mk v22.Id v22.Own v20.1 v22.In v22.Box v22.Sealed), v20.2) = some r := hM
        have hE := Option.some.inj hE
        subst hE
        exact pr R 9999 [.call true [900] (.o (.c (.sl 0))) [(900, .box 62 [.rs 1 (v1.2.b.map encU8), .v (.int .i64 v1.2.i), .v (.int .i64 v1.2.h)])] [(0, .row 35 6 (v1.1.map Thing.enc))], .ln (v1.1.length), .call true [900] (.o (.c (.v (.int .i64 v3.1)))) [(900, .box 62 [.rs 1 (v3.2.b.map encU8), .v (.int .i64 v3.2.i), .v (.int .i64 v3.2.h)])] [], .call true [900] (.o (.c (.v (.int .i64 v5.1)))) [(900, .box 62 [.rs 1 (v5.2.b.map encU8), .v (.int .i64 v5.2.i), .v (.int .i64 v5.2.h)])] [], .as 13 false, .as 27 false, .as 36 true, .new 2, .ad (.keep [0, 2, 3, 4, 5, 6, 7, 8, 9, 10, 11, 12, 13, 14, 27, 28, 36, 37, 38, 39, 40, 41] [900, 2, 0]), .call true [900, 2] (.o (.c (.v (.int .i64 v20.1)))) [(900, .box 62 [.rs 1 (v20.2.b.map encU8), .v (.int .i64 v20.2.i), .v (.int .i64 v20.2.h)]), (2, .row 3 1 (([0, 1, 1000000, 1000001] : List Int).map encI))] [], .ix (Thing.enc v22), .nm ((List.set v1.1 (Int.toNat v3.1) (Thing.mk v22.Id v22.Own v20.1 v22.In v22.Box v22.Sealed)).map Thing.enc)] [.sw 0 1000] [900] [1000] (And.intro (And.intro (con_sw 900 900 (con_sw 1000 0 (spec_l5Draw_ok a0 8 v1 h2))) (rfl : ([900] : List Nat) = [900])) (And.intro (lenm Thing.enc v1.1) (And.intro (And.intro (con_sw 900 900 (spec_l1Below_ok v1.2 (v1.1.length : Int) v3 h4)) (rfl : ([900] : List Nat) = [900])) (And.intro (And.intro (con_sw 900 900 (spec_l1Below_ok v3.2 12 v5 h6)) (rfl : ([900] : List Nat) = [900])) (And.intro h7 (And.intro h14 (And.intro h19 (And.intro (And.intro (con_sw 901 2 (con_sw 900 900 (spec_l1Int_ok v5.2 ([0, 1, 1000000, 1000001] : List Int) v20 h21))) (rfl : ([900, 2] : List Nat) = [900, 2])) (And.intro (gi_lt Thing.enc h23) (And.intro (And.intro (gi_map Thing.enc h23).2 (set_map Thing.enc v1.1 (Int.toNat v3.1) (Thing.mk v22.Id v22.Own v20.1 v22.In v22.Box v22.Sealed))) True.intro)))))))))) (by kernel_rfl)
      · rcases cond_cases hM with ⟨h24, hM⟩ | ⟨h24, hM⟩
        · obtain ⟨v25, h26, hM⟩ := bind_some hM
          obtain ⟨v27, h28, hM⟩ := bind_some hM
          have hE : some (List.set v1.1 (Int.toNat v3.1) (Thing.mk v27.Id v27.Own v27.Room v27.In (!v25.Box) v27.Sealed), v5.2) = some r := hM
          have hE := Option.some.inj hE
          subst hE
          exact pr R 9999 [.call true [900] (.o (.c (.sl 0))) [(900, .box 62 [.rs 1 (v1.2.b.map encU8), .v (.int .i64 v1.2.i), .v (.int .i64 v1.2.h)])] [(0, .row 35 6 (v1.1.map Thing.enc))], .ln (v1.1.length), .call true [900] (.o (.c (.v (.int .i64 v3.1)))) [(900, .box 62 [.rs 1 (v3.2.b.map encU8), .v (.int .i64 v3.2.i), .v (.int .i64 v3.2.h)])] [], .call true [900] (.o (.c (.v (.int .i64 v5.1)))) [(900, .box 62 [.rs 1 (v5.2.b.map encU8), .v (.int .i64 v5.2.i), .v (.int .i64 v5.2.h)])] [], .as 13 false, .as 27 false, .as 36 false, .as 45 true, .ix (Thing.enc v25), .ix (Thing.enc v27), .nm ((List.set v1.1 (Int.toNat v3.1) (Thing.mk v27.Id v27.Own v27.Room v27.In (!v25.Box) v27.Sealed)).map Thing.enc)] [.sw 0 1000] [900] [1000] (And.intro (And.intro (con_sw 900 900 (con_sw 1000 0 (spec_l5Draw_ok a0 8 v1 h2))) (rfl : ([900] : List Nat) = [900])) (And.intro (lenm Thing.enc v1.1) (And.intro (And.intro (con_sw 900 900 (spec_l1Below_ok v1.2 (v1.1.length : Int) v3 h4)) (rfl : ([900] : List Nat) = [900])) (And.intro (And.intro (con_sw 900 900 (spec_l1Below_ok v3.2 12 v5 h6)) (rfl : ([900] : List Nat) = [900])) (And.intro h7 (And.intro h14 (And.intro h19 (And.intro h24 (And.intro (gi_lt Thing.enc h26) (And.intro ((gi_map Thing.enc h26).2) (And.intro (gi_lt Thing.enc h28) (And.intro (And.intro (gi_map Thing.enc h28).2 (set_map Thing.enc v1.1 (Int.toNat v3.1) (Thing.mk v27.Id v27.Own v27.Room v27.In (!v25.Box) v27.Sealed))) True.intro)))))))))))) (by kernel_rfl)
        · rcases cond_cases hM with ⟨h29, hM⟩ | ⟨h29, hM⟩
          · obtain ⟨v30, h31, hM⟩ := bind_some hM
            have hE : some (List.set v1.1 (Int.toNat v3.1) (Thing.mk v30.Id v30.Own v30.Room v30.In v30.Box true), v5.2) = some r := hM
            have hE := Option.some.inj hE
            subst hE
            exact pr R 9999 [.call true [900] (.o (.c (.sl 0))) [(900, .box 62 [.rs 1 (v1.2.b.map encU8), .v (.int .i64 v1.2.i), .v (.int .i64 v1.2.h)])] [(0, .row 35 6 (v1.1.map Thing.enc))], .ln (v1.1.length), .call true [900] (.o (.c (.v (.int .i64 v3.1)))) [(900, .box 62 [.rs 1 (v3.2.b.map encU8), .v (.int .i64 v3.2.i), .v (.int .i64 v3.2.h)])] [], .call true [900] (.o (.c (.v (.int .i64 v5.1)))) [(900, .box 62 [.rs 1 (v5.2.b.map encU8), .v (.int .i64 v5.2.i), .v (.int .i64 v5.2.h)])] [], .as 13 false, .as 27 false, .as 36 false, .as 45 false, .as 57 true, .ix (Thing.enc v30), .nm ((List.set v1.1 (Int.toNat v3.1) (Thing.mk v30.Id v30.Own v30.Room v30.In v30.Box true)).map Thing.enc)] [.sw 0 1000] [900] [1000] (And.intro (And.intro (con_sw 900 900 (con_sw 1000 0 (spec_l5Draw_ok a0 8 v1 h2))) (rfl : ([900] : List Nat) = [900])) (And.intro (lenm Thing.enc v1.1) (And.intro (And.intro (con_sw 900 900 (spec_l1Below_ok v1.2 (v1.1.length : Int) v3 h4)) (rfl : ([900] : List Nat) = [900])) (And.intro (And.intro (con_sw 900 900 (spec_l1Below_ok v3.2 12 v5 h6)) (rfl : ([900] : List Nat) = [900])) (And.intro h7 (And.intro h14 (And.intro h19 (And.intro h24 (And.intro h29 (And.intro (gi_lt Thing.enc h31) (And.intro (And.intro (gi_map Thing.enc h31).2 (set_map Thing.enc v1.1 (Int.toNat v3.1) (Thing.mk v30.Id v30.Own v30.Room v30.In v30.Box true))) True.intro))))))))))) (by kernel_rfl)
          · rcases cond_cases hM with ⟨h32, hM⟩ | ⟨h32, hM⟩
            · obtain ⟨v33, h34, hM⟩ := bind_some hM
              obtain ⟨v35, h36, hM⟩ := bind_some hM
              obtain ⟨v37, h38, hM⟩ := bind_some hM
              have hE : some (List.set v1.1 (Int.toNat v3.1) (Thing.mk v35.1 v37.Own v37.Room v37.In v37.Box v37.Sealed), v35.2) = some r := hM
              have hE := Option.some.inj hE
              subst hE
              exact pr R 9999 [.call true [900] (.o (.c (.sl 0))) [(900, .box 62 [.rs 1 (v1.2.b.map encU8), .v (.int .i64 v1.2.i), .v (.int .i64 v1.2.h)])] [(0, .row 35 6 (v1.1.map Thing.enc))], .ln (v1.1.length), .call true [900] (.o (.c (.v (.int .i64 v3.1)))) [(900, .box 62 [.rs 1 (v3.2.b.map encU8), .v (.int .i64 v3.2.i), .v (.int .i64 v3.2.h)])] [], .call true [900] (.o (.c (.v (.int .i64 v5.1)))) [(900, .box 62 [.rs 1 (v5.2.b.map encU8), .v (.int .i64 v5.2.i), .v (.int .i64 v5.2.h)])] [], .as 13 false, .as 27 false, .as 36 false, .as 45 false, .as 57 false, .as 63 true, .ix (Thing.enc v33), .new 3, .ad (.keep [0, 2, 3, 4, 5, 6, 7, 8, 9, 10, 11, 12, 13, 14, 27, 28, 36, 37, 45, 46, 57, 58, 63, 64, 65, 66, 67, 68, 69, 70, 71, 72] [900, 3, 0]), .call true [900, 3] (.o (.c (.v (.int .i64 v35.1)))) [(900, .box 62 [.rs 1 (v35.2.b.map encU8), .v (.int .i64 v35.2.i), .v (.int .i64 v35.2.h)]), (3, .row 3 1 (([0, 9999, 10000, v33.Id] : List Int).map encI))] [], .ix (Thing.enc v37), .nm ((List.set v1.1 (Int.toNat v3.1) (Thing.mk v35.1 v37.Own v37.Room v37.In v37.Box v37.Sealed)).map Thing.enc)] [.sw 0 1000] [900] [1000] (And.intro (And.intro (con_sw 900 900 (con_sw 1000 0 (spec_l5Draw_ok a0 8 v1 h2))) (rfl : ([900] : List Nat) = [900])) (And.intro (lenm Thing.enc v1.1) (And.intro (And.intro (con_sw 900 900 (spec_l1Below_ok v1.2 (v1.1.length : Int) v3 h4)) (rfl : ([900] : List Nat) = [900])) (And.intro (And.intro (con_sw 900 900 (spec_l1Below_ok v3.2 12 v5 h6)) (rfl : ([900] : List Nat) = [900])) (And.intro h7 (And.intro h14 (And.intro h19 (And.intro h24 (And.intro h29 (And.intro h32 (And.intro (gi_lt Thing.enc h34) (And.intro ((gi_map Thing.enc h34).2) (And.intro (And.intro (con_sw 901 3 (con_sw 900 900 (spec_l1Int_ok v5.2 ([0, 9999, 10000, v33.Id] : List Int) v35 h36))) (rfl : ([900, 3] : List Nat) = [900, 3])) (And.intro (gi_lt Thing.enc h38) (And.intro (And.intro (gi_map Thing.enc h38).2 (set_map Thing.enc v1.1 (Int.toNat v3.1) (Thing.mk v35.1 v37.Own v37.Room v37.In v37.Box v37.Sealed))) True.intro))))))))))))))) (by kernel_rfl)
            · rcases cond_cases hM with ⟨h39, hM⟩ | ⟨h39, hM⟩
              · obtain ⟨v40, h41, hM⟩ := bind_some hM
                obtain ⟨v42, h43, hM⟩ := bind_some hM
                have hE : some (List.set v1.1 (Int.toNat v3.1) (Thing.mk v42.Id v42.Own v42.Room v40.1 v42.Box v42.Sealed), v40.2) = some r := hM
                have hE := Option.some.inj hE
                subst hE
                exact pr R 9999 [.call true [900] (.o (.c (.sl 0))) [(900, .box 62 [.rs 1 (v1.2.b.map encU8), .v (.int .i64 v1.2.i), .v (.int .i64 v1.2.h)])] [(0, .row 35 6 (v1.1.map Thing.enc))], .ln (v1.1.length), .call true [900] (.o (.c (.v (.int .i64 v3.1)))) [(900, .box 62 [.rs 1 (v3.2.b.map encU8), .v (.int .i64 v3.2.i), .v (.int .i64 v3.2.h)])] [], .call true [900] (.o (.c (.v (.int .i64 v5.1)))) [(900, .box 62 [.rs 1 (v5.2.b.map encU8), .v (.int .i64 v5.2.i), .v (.int .i64 v5.2.h)])] [], .as 13 false, .as 27 false, .as 36 false, .as 45 false, .as 57 false, .as 63 false, .as 76 true, .new 4, .ad (.keep [0, 2, 3, 4, 5, 6, 7, 8, 9, 10, 11, 12, 13, 14, 27, 28, 36, 37, 45, 46, 57, 58, 63, 64, 76, 77, 78, 79, 80, 81] [900, 4, 0]), .call true [900, 4] (.o (.c (.v (.int .i64 v40.1)))) [(900, .box 62 [.rs 1 (v40.2.b.map encU8), .v (.int .i64 v40.2.i), .v (.int .i64 v40.2.h)]), (4, .row 3 1 (([(-1), 9998] : List Int).map encI))] [], .ix (Thing.enc v42), .nm ((List.set v1.1 (Int.toNat v3.1) (Thing.mk v42.Id v42.Own v42.Room v40.1 v42.Box v42.Sealed)).map Thing.enc)] [.sw 0 1000] [900] [1000] (And.intro (And.intro (con_sw 900 900 (con_sw 1000 0 (spec_l5Draw_ok a0 8 v1 h2))) (rfl : ([900] : List Nat) = [900])) (And.intro (lenm Thing.enc v1.1) (And.intro (And.intro (con_sw 900 900 (spec_l1Below_ok v1.2 (v1.1.length : Int) v3 h4)) (rfl : ([900] : List Nat) = [900])) (And.intro (And.intro (con_sw 900 900 (spec_l1Below_ok v3.2 12 v5 h6)) (rfl : ([900] : List Nat) = [900])) (And.intro h7 (And.intro h14 (And.intro h19 (And.intro h24 (And.intro h29 (And.intro h32 (And.intro h39 (And.intro (And.intro (con_sw 901 4 (con_sw 900 900 (spec_l1Int_ok v5.2 ([(-1), 9998] : List Int) v40 h41))) (rfl : ([900, 4] : List Nat) = [900, 4])) (And.intro (gi_lt Thing.enc h43) (And.intro (And.intro (gi_map Thing.enc h43).2 (set_map Thing.enc v1.1 (Int.toNat v3.1) (Thing.mk v42.Id v42.Own v42.Room v40.1 v42.Box v42.Sealed))) True.intro)))))))))))))) (by kernel_rfl)
              · have hE : some (v1.1, v5.2) = some r := hM
                have hE := Option.some.inj hE
                subst hE
                exact pr R 9999 [.call true [900] (.o (.c (.sl 0))) [(900, .box 62 [.rs 1 (v1.2.b.map encU8), .v (.int .i64 v1.2.i), .v (.int .i64 v1.2.h)])] [(0, .row 35 6 (v1.1.map Thing.enc))], .ln (v1.1.length), .call true [900] (.o (.c (.v (.int .i64 v3.1)))) [(900, .box 62 [.rs 1 (v3.2.b.map encU8), .v (.int .i64 v3.2.i), .v (.int .i64 v3.2.h)])] [], .call true [900] (.o (.c (.v (.int .i64 v5.1)))) [(900, .box 62 [.rs 1 (v5.2.b.map encU8), .v (.int .i64 v5.2.i), .v (.int .i64 v5.2.h)])] [], .as 13 false, .as 27 false, .as 36 false, .as 45 false, .as 57 false, .as 63 false, .as 76 false] [.sw 0 1000] [900] [1000] (And.intro (And.intro (con_sw 900 900 (con_sw 1000 0 (spec_l5Draw_ok a0 8 v1 h2))) (rfl : ([900] : List Nat) = [900])) (And.intro (lenm Thing.enc v1.1) (And.intro (And.intro (con_sw 900 900 (spec_l1Below_ok v1.2 (v1.1.length : Int) v3 h4)) (rfl : ([900] : List Nat) = [900])) (And.intro (And.intro (con_sw 900 900 (spec_l1Below_ok v3.2 12 v5 h6)) (rfl : ([900] : List Nat) = [900])) (And.intro h7 (And.intro h14 (And.intro h19 (And.intro h24 (And.intro h29 (And.intro h32 (And.intro h39 True.intro))))))))))) (by kernel_rfl)

-- loop.example/g03014/spec.DrawPackAll
def spec_DrawPackAll_L1_b (s10 : (List Thing)) (s11 : (List Int)) (s12 : Int) (s13 : Int) (s14 : (List Int)) (s15 : (List Int)) (s16 : Int) : Option (Ctl ((List Int) × Int × Int × (List Int) × (List Int) × Int) ((List Int) × Int × Int × (List Int) × (List Int)) ((List Thing) × (List Int) × (List Int))) :=
  bif (decide (s16 < (s10.length : Int))) then
  (gi s10 s16).bind fun v30 =>
  bif v30.Box then
  (spec_l1Once (l1Cur.mk s11 s12 s13) 2).bind fun v33 =>
  bif v33.1 then
  (gi s10 s16).bind fun v36 =>
  (ap 8 s15 ([v36.Id] : List Int)).bind fun v38 =>
  some (.next (v33.2.b, v33.2.i, v33.2.h, s14, v38, w64 (s16 + 1)))
  else
  (spec_l1Once v33.2 2).bind fun v40 =>
  bif v40.1 then
  (gi s10 s16).bind fun v43 =>
  (ap 8 s14 ([v43.Id] : List Int)).bind fun v45 =>
  some (.next (v40.2.b, v40.2.i, v40.2.h, v45, s15, w64 (s16 + 1)))
  else
  some (.next (v40.2.b, v40.2.i, v40.2.h, s14, s15, w64 (s16 + 1)))
  else
  (spec_l1Once (l1Cur.mk s11 s12 s13) 2).bind fun v47 =>
  bif v47.1 then
  (gi s10 s16).bind fun v50 =>
  (ap 8 s14 ([v50.Id] : List Int)).bind fun v52 =>
  some (.next (v47.2.b, v47.2.i, v47.2.h, v52, s15, w64 (s16 + 1)))
  else
  some (.next (v47.2.b, v47.2.i, v47.2.h, s14, s15, w64 (s16 + 1)))
  else
  some (.brk (s11, s12, s13, s14, s15))
def spec_DrawPackAll_L1 (s10 : (List Thing)) (s : (List Int) × Int × Int × (List Int) × (List Int) × Int) : Option (Ctl ((List Int) × Int × Int × (List Int) × (List Int) × Int) ((List Int) × Int × Int × (List Int) × (List Int)) ((List Thing) × (List Int) × (List Int))) := spec_DrawPackAll_L1_b s10 s.1 s.2.1 s.2.2.1 s.2.2.2.1 s.2.2.2.2.1 s.2.2.2.2.2
def spec_DrawPackAll_L1_s (s10 : (List Thing)) (s11 : (List Int)) (s12 : Int) (s13 : Int) (s14 : (List Int)) (s15 : (List Int)) (s16 : Int) : St := ⟨[(5, .o (.c (.ptr 0 0))), (6, .o (.c (.sl 2))), (7, .o (.c (.sl 3))), (8, .o (.c (.sl 4))), (9, .o (.c (.v (.int .i64 s16))))], [(0, .box 62 [.rs 1 (s11.map encU8), .v (.int .i64 s12), .v (.int .i64 s13)]), (2, .row 35 6 (s10.map Thing.enc)), (3, .row 3 1 (s14.map encI)), (4, .row 3 1 (s15.map encI))]⟩
def spec_DrawPackAll_L1_S (s10 : (List Thing)) (s : (List Int) × Int × Int × (List Int) × (List Int) × Int) : St := spec_DrawPackAll_L1_s s10 s.1 s.2.1 s.2.2.1 s.2.2.2.1 s.2.2.2.2.1 s.2.2.2.2.2
def spec_DrawPackAll_L1_a (s10 : (List Thing)) (s17 : (List Int)) (s18 : Int) (s19 : Int) (s20 : (List Int)) (s21 : (List Int)) : Option ((List Thing) × (List Int) × (List Int)) :=
  (spec_l1Once (l1Cur.mk s17 s18 s19) 5).bind fun v22 =>
  bif v22.1 then
  (spec_l5Id v22.2 s10).bind fun v25 =>
  (ap 8 s20 ([v25.1] : List Int)).bind fun v27 =>
  some (s10, v27, s21)
  else
  some (s10, s20, s21)
def spec_DrawPackAll_L1_k (s10 : (List Thing)) (x : ((List Int) × Int × Int × (List Int) × (List Int)) ⊕ ((List Thing) × (List Int) × (List Int))) : Option ((List Thing) × (List Int) × (List Int)) := match x with
  | .inl t => spec_DrawPackAll_L1_a s10 t.1 t.2.1 t.2.2.1 t.2.2.2.1 t.2.2.2.2
  | .inr y => some y
def spec_DrawPackAll_j1 (s7 : (List Int)) (s8 : Int) (s9 : Int) (s10 : (List Thing)) : Option ((List Thing) × (List Int) × (List Int)) :=
  (loopM (spec_DrawPackAll_L1 s10) big (s7, s8, s9, ([] : List Int), ([] : List Int), 0)).bind (spec_DrawPackAll_L1_k s10)
def spec_DrawPackAll (a0 : (List Int)) : Option ((List Thing) × (List Int) × (List Int)) :=
  (spec_l1New a0).bind fun v1 =>
  (spec_l5Draw v1 12).bind fun v3 =>
  (spec_l1Once v3.2 9).bind fun v5 =>
  bif v5.1 then
  (spec_l5Any v5.2).bind fun v55 =>
  spec_DrawPackAll_j1 v55.2.b v55.2.i v55.2.h v55.1
  else
  spec_DrawPackAll_j1 v5.2.b v5.2.i v5.2.h v3.1
theorem spec_DrawPackAll_ok (a0 : (List Int)) (r : (List Thing) × (List Int) × (List Int)) (hM : spec_DrawPackAll a0 = some r) :
    Con Try.prog 6 [.c (.rs 1 (a0.map encU8))] [] (.tup [.c (.sl 1000), .c (.sl 1001), .c (.sl 1002)]) [] [(1000, .row 35 6 (r.1.map Thing.enc)), (1001, .row 3 1 (r.2.1.map encI)), (1002, .row 3 1 (r.2.2.map encI))] := by
  unfold spec_DrawPackAll at hM
  refine cn (N := 64) (pids := []) Try_mixed Try.func6 (by kernel_rfl) (by kernel_rfl) (by kernel_rfl) rfl fun ρ g w R => ?_
  obtain ⟨v1, h2, hM⟩ := bind_some hM
  obtain ⟨v3, h4, hM⟩ := bind_some hM
  obtain ⟨v5, h6, hM⟩ := bind_some hM
  have J1 : ∀ (s7 : (List Int)) (s8 : Int) (s9 : Int) (s10 : (List Thing)), spec_DrawPackAll_j1 s7 s8 s9 s10 = some r → Gr R [.code (cAt Try.f6 [1, 1, 1, 1])] (⟨[(5, .o (.c (.ptr 0 0))), (6, .o (.c (.sl 2)))], [(0, .box 62 [.rs 1 (s7.map encU8), .v (.int .i64 s8), .v (.int .i64 s9)]), (2, .row 35 6 (s10.map Thing.enc))]⟩) := by
    intro s7 s8 s9 s10 hM
    unfold spec_DrawPackAll_j1 at hM
    have K1 : ∀ (s17 : (List Int)) (s18 : Int) (s19 : Int) (s20 : (List Int)) (s21 : (List Int)), spec_DrawPackAll_L1_a s10 s17 s18 s19 s20 s21 = some r → Gr R [.code (cAt Try.f6 [1, 1, 1, 1, 1, 1, 1])] (⟨[(5, .o (.c (.ptr 0 0))), (6, .o (.c (.sl 2))), (7, .o (.c (.sl 3))), (8, .o (.c (.sl 4)))], [(0, .box 62 [.rs 1 (s17.map encU8), .v (.int .i64 s18), .v (.int .i64 s19)]), (2, .row 35 6 (s10.map Thing.enc)), (3, .row 3 1 (s20.map encI)), (4, .row 3 1 (s21.map encI))]⟩) := by
      intro s17 s18 s19 s20 s21 hM
      unfold spec_DrawPackAll_L1_a at hM
      obtain ⟨v22, h23, hM⟩ := bind_some hM
      rcases cond_cases hM with ⟨h24, hM⟩ | ⟨h24, hM⟩
      · obtain ⟨v25, h26, hM⟩ := bind_some hM
        obtain ⟨v27, h28, hM⟩ := bind_some hM
        have hE : some (s10, v27, s21) = some r := hM
        have hE := Option.some.inj hE
        subst hE
        exact pr R 9999 [.call true [0] (.o (.c (.v (.bool v22.1)))) [(0, .box 62 [.rs 1 (v22.2.b.map encU8), .v (.int .i64 v22.2.i), .v (.int .i64 v22.2.h)])] [], .as 54 true, .ad (.keep [5, 6, 7, 8, 53, 54, 55, 56, 57] [0, 2, 3, 4]), .call true [0, 2] (.o (.c (.v (.int .i64 v25.1)))) [(0, .box 62 [.rs 1 (v25.2.b.map encU8), .v (.int .i64 v25.2.i), .v (.int .i64 v25.2.h)]), (2, .row 35 6 (s10.map Thing.enc))] [], .new 5, .new 6, .nm (v27.map encI)] [.sw 2 1000, .sw 6 1001, .sw 4 1002] [] [1000, 1001, 1002] (And.intro (And.intro (con_sw 900 0 (spec_l1Once_ok (l1Cur.mk s17 s18 s19) 5 v22 h23)) (rfl : ([0] : List Nat) = [0])) (And.intro h24 (And.intro (And.intro (con_sw 901 2 (con_sw 900 0 (spec_l5Id_ok v22.2 s10 v25 h26))) (rfl : ([0, 2] : List Nat) = [0, 2])) (And.intro (ap_ok encI h28) True.intro)))) (by kernel_rfl)
      · have hE : some (s10, s20, s21) = some r := hM
        have hE := Option.some.inj hE
        subst hE
        exact pr R 9999 [.call true [0] (.o (.c (.v (.bool v22.1)))) [(0, .box 62 [.rs 1 (v22.2.b.map encU8), .v (.int .i64 v22.2.i), .v (.int .i64 v22.2.h)])] [], .as 54 false] [.sw 2 1000, .sw 3 1001, .sw 4 1002] [] [1000, 1001, 1002] (And.intro (And.intro (con_sw 900 0 (spec_l1Once_ok (l1Cur.mk s17 s18 s19) 5 v22 h23)) (rfl : ([0] : List Nat) = [0])) (And.intro h24 True.intro)) (by kernel_rfl)
    refine pc R 9999 [.new 3, .new 4] [.keep [5, 6, 7, 8, 9] [0, 2, 3, 4]] (k' := [.code (.loop (cAt Try.f6 [1, 1, 1, 1, 1, 1, 0, 1, 0, 0])), .blk 0, .code (cAt Try.f6 [1, 1, 1, 1, 1, 1, 1])]) (S' := spec_DrawPackAll_L1_S s10 (s7, s8, s9, ([] : List Int), ([] : List Int), 0)) True.intro (by kernel_rfl) ?_
    refine lq (spec_DrawPackAll_L1_S s10) (body := spec_DrawPackAll_L1 s10) (k := spec_DrawPackAll_L1_k s10) hM fun m1 s c1 hM hK1 => ?_
    obtain ⟨s11, s12, s13, s14, s15, s16⟩ := s
    have hM : spec_DrawPackAll_L1_b s10 s11 s12 s13 s14 s15 s16 = some c1 := hM
    unfold spec_DrawPackAll_L1_b at hM
    rcases cond_cases hM with ⟨h29, hM⟩ | ⟨h29, hM⟩
    · obtain ⟨v30, h31, hM⟩ := bind_some hM
      rcases cond_cases hM with ⟨h32, hM⟩ | ⟨h32, hM⟩
      · obtain ⟨v33, h34, hM⟩ := bind_some hM
        rcases cond_cases hM with ⟨h35, hM⟩ | ⟨h35, hM⟩
        · obtain ⟨v36, h37, hM⟩ := bind_some hM
          obtain ⟨v38, h39, hM⟩ := bind_some hM
          have hE : some (Ctl.next (v33.2.b, v33.2.i, v33.2.h, s14, v38, w64 (s16 + 1))) = some c1 := hM
          have hE := Option.some.inj hE
          subst hE
          exact pc R 9999 [.ln (s10.length), .as 23 true, .ix (Thing.enc v30), .as 31 true, .call true [0] (.o (.c (.v (.bool v33.1)))) [(0, .box 62 [.rs 1 (v33.2.b.map encU8), .v (.int .i64 v33.2.i), .v (.int .i64 v33.2.h)])] [], .as 34 true, .ix (Thing.enc v36), .new 7, .new 8, .nm (v38.map encI)] [.sw 8 4, .keep [5, 6, 7, 8, 9] [0, 2, 3, 4]] (And.intro (lenm Thing.enc s10) (And.intro h29 (And.intro (gi_lt Thing.enc h31) (And.intro ((gi_map Thing.enc h31).2) (And.intro h32 (And.intro (And.intro (con_sw 900 0 (spec_l1Once_ok (l1Cur.mk s11 s12 s13) 2 v33 h34)) (rfl : ([0] : List Nat) = [0])) (And.intro h35 (And.intro (gi_lt Thing.enc h37) (And.intro ((gi_map Thing.enc h37).2) (And.intro (ap_ok encI h39) True.intro)))))))))) (by kernel_rfl) (li (Sf := spec_DrawPackAll_L1_S s10) (M := Mk (spec_DrawPackAll_L1 s10) (spec_DrawPackAll_L1_k s10) r) (k := [.blk 0, .code (cAt Try.f6 [1, 1, 1, 1, 1, 1, 1])]) (Nat.lt_succ_self m1) hK1)
        · obtain ⟨v40, h41, hM⟩ := bind_some hM
          rcases cond_cases hM with ⟨h42, hM⟩ | ⟨h42, hM⟩
          · obtain ⟨v43, h44, hM⟩ := bind_some hM
            obtain ⟨v45, h46, hM⟩ := bind_some hM
            have hE : some (Ctl.next (v40.2.b, v40.2.i, v40.2.h, v45, s15, w64 (s16 + 1))) = some c1 := hM
            have hE := Option.some.inj hE
            subst hE
            exact pc R 9999 [.ln (s10.length), .as 23 true, .ix (Thing.enc v30), .as 31 true, .call true [0] (.o (.c (.v (.bool v33.1)))) [(0, .box 62 [.rs 1 (v33.2.b.map encU8), .v (.int .i64 v33.2.i), .v (.int .i64 v33.2.h)])] [], .as 34 false, .call true [0] (.o (.c (.v (.bool v40.1)))) [(0, .box 62 [.rs 1 (v40.2.b.map encU8), .v (.int .i64 v40.2.i), .v (.int .i64 v40.2.h)])] [], .as 44 true, .ix (Thing.enc v43), .new 9, .new 10, .nm (v45.map encI)] [.sw 10 3, .keep [5, 6, 7, 8, 9] [0, 2, 3, 4]] (And.intro (lenm Thing.enc s10) (And.intro h29 (And.intro (gi_lt Thing.enc h31) (And.intro ((gi_map Thing.enc h31).2) (And.intro h32 (And.intro (And.intro (con_sw 900 0 (spec_l1Once_ok (l1Cur.mk s11 s12 s13) 2 v33 h34)) (rfl : ([0] : List Nat) = [0])) (And.intro h35 (And.intro (And.intro (con_sw 900 0 (spec_l1Once_ok v33.2 2 v40 h41)) (rfl : ([0] : List Nat) = [0])) (And.intro h42 (And.intro (gi_lt Thing.enc h44) (And.intro ((gi_map Thing.enc h44).2) (And.intro (ap_ok encI h46) True.intro)))))))))))) (by kernel_rfl) (li (Sf := spec_DrawPackAll_L1_S s10) (M := Mk (spec_DrawPackAll_L1 s10) (spec_DrawPackAll_L1_k s10) r) (k := [.blk 0, .code (cAt Try.f6 [1, 1, 1, 1, 1, 1, 1])]) (Nat.lt_succ_self m1) hK1)
          · have hE : some (Ctl.next (v40.2.b, v40.2.i, v40.2.h, s14, s15, w64 (s16 + 1))) = some c1 := hM
            have hE := Option.some.inj hE
            subst hE
            exact pc R 9999 [.ln (s10.length), .as 23 true, .ix (Thing.enc v30), .as 31 true, .call true [0] (.o (.c (.v (.bool v33.1)))) [(0, .box 62 [.rs 1 (v33.2.b.map encU8), .v (.int .i64 v33.2.i), .v (.int .i64 v33.2.h)])] [], .as 34 false, .call true [0] (.o (.c (.v (.bool v40.1)))) [(0, .box 62 [.rs 1 (v40.2.b.map encU8), .v (.int .i64 v40.2.i), .v (.int .i64 v40.2.h)])] [], .as 44 false] [.keep [5, 6, 7, 8, 9] [0, 2, 3, 4]] (And.intro (lenm Thing.enc s10) (And.intro h29 (And.intro (gi_lt Thing.enc h31) (And.intro ((gi_map Thing.enc h31).2) (And.intro h32 (And.intro (And.intro (con_sw 900 0 (spec_l1Once_ok (l1Cur.mk s11 s12 s13) 2 v33 h34)) (rfl : ([0] : List Nat) = [0])) (And.intro h35 (And.intro (And.intro (con_sw 900 0 (spec_l1Once_ok v33.2 2 v40 h41)) (rfl : ([0] : List Nat) = [0])) (And.intro h42 True.intro))))))))) (by kernel_rfl) (li (Sf := spec_DrawPackAll_L1_S s10) (M := Mk (spec_DrawPackAll_L1 s10) (spec_DrawPackAll_L1_k s10) r) (k := [.blk 0, .code (cAt Try.f6 [1, 1, 1, 1, 1, 1, 1])]) (Nat.lt_succ_self m1) hK1)
      · obtain ⟨v47, h48, hM⟩ := bind_some hM
        rcases cond_cases hM with ⟨h49, hM⟩ | ⟨h49, hM⟩
        · obtain ⟨v50, h51, hM⟩ := bind_some hM
          obtain ⟨v52, h53, hM⟩ := bind_some hM
          have hE : some (Ctl.next (v47.2.b, v47.2.i, v47.2.h, v52, s15, w64 (s16 + 1))) = some c1 := hM
          have hE := Option.some.inj hE
          subst hE
          exact pc R 9999 [.ln (s10.length), .as 23 true, .ix (Thing.enc v30), .as 31 false, .call true [0] (.o (.c (.v (.bool v47.1)))) [(0, .box 62 [.rs 1 (v47.2.b.map encU8), .v (.int .i64 v47.2.i), .v (.int .i64 v47.2.h)])] [], .as 44 true, .ix (Thing.enc v50), .new 11, .new 12, .nm (v52.map encI)] [.sw 12 3, .keep [5, 6, 7, 8, 9] [0, 2, 3, 4]] (And.intro (lenm Thing.enc s10) (And.intro h29 (And.intro (gi_lt Thing.enc h31) (And.intro ((gi_map Thing.enc h31).2) (And.intro h32 (And.intro (And.intro (con_sw 900 0 (spec_l1Once_ok (l1Cur.mk s11 s12 s13) 2 v47 h48)) (rfl : ([0] : List Nat) = [0])) (And.intro h49 (And.intro (gi_lt Thing.enc h51) (And.intro ((gi_map Thing.enc h51).2) (And.intro (ap_ok encI h53) True.intro)))))))))) (by kernel_rfl) (li (Sf := spec_DrawPackAll_L1_S s10) (M := Mk (spec_DrawPackAll_L1 s10) (spec_DrawPackAll_L1_k s10) r) (k := [.blk 0, .code (cAt Try.f6 [1, 1, 1, 1, 1, 1, 1])]) (Nat.lt_succ_self m1) hK1)
        · have hE : some (Ctl.next (v47.2.b, v47.2.i, v47.2.h, s14, s15, w64 (s16 + 1))) = some c1 := hM
          have hE := Option.some.inj hE
          subst hE
          exact pc R 9999 [.ln (s10.length), .as 23 true, .ix (Thing.enc v30), .as 31 false, .call true [0] (.o (.c (.v (.bool v47.1)))) [(0, .box 62 [.rs 1 (v47.2.b.map encU8), .v (.int .i64 v47.2.i), .v (.int .i64 v47.2.h)])] [], .as 44 false] [.keep [5, 6, 7, 8, 9] [0, 2, 3, 4]] (And.intro (lenm Thing.enc s10) (And.intro h29 (And.intro (gi_lt Thing.enc h31) (And.intro ((gi_map Thing.enc h31).2) (And.intro h32 (And.intro (And.intro (con_sw 900 0 (spec_l1Once_ok (l1Cur.mk s11 s12 s13) 2 v47 h48)) (rfl : ([0] : List Nat) = [0])) (And.intro h49 True.intro))))))) (by kernel_rfl) (li (Sf := spec_DrawPackAll_L1_S s10) (M := Mk (spec_DrawPackAll_L1 s10) (spec_DrawPackAll_L1_k s10) r) (k := [.blk 0, .code (cAt Try.f6 [1, 1, 1, 1, 1, 1, 1])]) (Nat.lt_succ_self m1) hK1)
    · have hE : some (Ctl.brk (s11, s12, s13, s14, s15)) = some c1 := hM
      have hE := Option.some.inj hE
      subst hE
      exact pc R 5 [.ln (s10.length), .as 23 false] [.keep [5, 6, 7, 8] [0, 2, 3, 4]] (And.intro (lenm Thing.enc s10) (And.intro h29 True.intro)) (by kernel_rfl) (K1 s11 s12 s13 s14 s15 hK1)
  rcases cond_cases hM with ⟨h54, hM⟩ | ⟨h54, hM⟩
  · obtain ⟨v55, h56, hM⟩ := bind_some hM
    exact pc R 11 [.call true [] (.o (.c (.ptr 0 0))) [] [(0, .box 62 [.rs 1 (v1.b.map encU8), .v (.int .i64 v1.i), .v (.int .i64 v1.h)])], .call true [0] (.o (.c (.sl 1))) [(0, .box 62 [.rs 1 (v3.2.b.map encU8), .v (.int .i64 v3.2.i), .v (.int .i64 v3.2.h)])] [(1, .row 35 6 (v3.1.map Thing.enc))], .call true [0] (.o (.c (.v (.bool v5.1)))) [(0, .box 62 [.rs 1 (v5.2.b.map encU8), .v (.int .i64 v5.2.i), .v (.int .i64 v5.2.h)])] [], .as 15 true, .call true [0] (.o (.c (.sl 13))) [(0, .box 62 [.rs 1 (v55.2.b.map encU8), .v (.int .i64 v55.2.i), .v (.int .i64 v55.2.h)])] [(13, .row 35 6 (v55.1.map Thing.enc))]] [.sw 13 2, .keep [5, 6] [0, 2]] (And.intro (And.intro (con_sw 1000 0 (spec_l1New_ok a0 v1 h2)) (rfl : ([] : List Nat) = [])) (And.intro (And.intro (con_sw 900 0 (con_sw 1000 1 (spec_l5Draw_ok v1 12 v3 h4))) (rfl : ([0] : List Nat) = [0])) (And.intro (And.intro (con_sw 900 0 (spec_l1Once_ok v3.2 9 v5 h6)) (rfl : ([0] : List Nat) = [0])) (And.intro h54 (And.intro (And.intro (con_sw 900 0 (con_sw 1000 13 (spec_l5Any_ok v5.2 v55 h56))) (rfl : ([0] : List Nat) = [0])) True.intro))))) (by kernel_rfl) (J1 v55.2.b v55.2.i v55.2.h v55.1 hM)
  · exact pc R 11 [.call true [] (.o (.c (.ptr 0 0))) [] [(0, .box 62 [.rs 1 (v1.b.map encU8), .v (.int .i64 v1.i), .v (.int .i64 v1.h)])], .call true [0] (.o (.c (.sl 1))) [(0, .box 62 [.rs 1 (v3.2.b.map encU8), .v (.int .i64 v3.2.i), .v (.int .i64 v3.2.h)])] [(1, .row 35 6 (v3.1.map Thing.enc))], .call true [0] (.o (.c (.v (.bool v5.1)))) [(0, .box 62 [.rs 1 (v5.2.b.map encU8), .v (.int .i64 v5.2.i), .v (.int .i64 v5.2.h)])] [], .as 15 false] [.sw 1 2, .keep [5, 6] [0, 2]] (And.intro (And.intro (con_sw 1000 0 (spec_l1New_ok a0 v1 h2)) (rfl : ([] : List Nat) = [])) (And.intro (And.intro (con_sw 900 0 (con_sw 1000 1 (spec_l5Draw_ok v1 12 v3 h4))) (rfl : ([0] : List Nat) = [0])) (And.intro (And.intro (con_sw 900 0 (spec_l1Once_ok v3.2 9 v5 h6)) (rfl : ([0] : List Nat) = [0])) (And.intro h54 True.intro)))) (by kernel_rfl) (J1 v5.2.b v5.2.i v5.2.h v3.1 hM)

-- loop.example/g03014/laws.things
def laws_things_L1_b (a0 : (List Thing)) (a1 : (List Thing)) (s2 : Int) : Option (Ctl Int Unit Bool) :=
  bif (decide (s2 < (a0.length : Int))) then
  (gi a0 s2).bind fun v4 =>
  (gi a1 s2).bind fun v6 =>
  bif (!decide (v4 = v6)) then
  some (.ret false)
  else
  some (.next (w64 (s2 + 1)))
  else
  some (.brk ())
def laws_things_L1 (a0 : (List Thing)) (a1 : (List Thing)) (s : Int) : Option (Ctl Int Unit Bool) := laws_things_L1_b a0 a1 s
def laws_things_L1_s (a0 : (List Thing)) (a1 : (List Thing)) (s2 : Int) : St := ⟨[(0, .o (.c (.rs 6 (a0.map Thing.enc)))), (1, .o (.c (.rs 6 (a1.map Thing.enc)))), (5, .o (.c (.v (.int .i64 s2))))], []⟩
def laws_things_L1_S (a0 : (List Thing)) (a1 : (List Thing)) (s : Int) : St := laws_things_L1_s a0 a1 s
def laws_things_L1_a : Option Bool :=
  some true
def laws_things_L1_k (x : (Unit) ⊕ (Bool)) : Option Bool := match x with
  | .inl t => laws_things_L1_a
  | .inr y => some y
def laws_things (a0 : (List Thing)) (a1 : (List Thing)) : Option Bool :=
  bif ((a0.length : Int) != (a1.length : Int)) then
  some false
  else
  (loopM (laws_things_L1 a0 a1) big 0).bind (laws_things_L1_k)
theorem laws_things_ok (a0 : (List Thing)) (a1 : (List Thing)) (r : Bool) (hM : laws_things a0 a1 = some r) :
    Con Try.prog 9 [.c (.rs 6 (a0.map Thing.enc)), .c (.rs 6 (a1.map Thing.enc))] [] (.o (.c (.v (.bool r)))) [] [] := by
  unfold laws_things at hM
  refine cn (N := 26) (pids := []) Try_mixed Try.func9 (by kernel_rfl) (by kernel_rfl) (by kernel_rfl) rfl fun ρ g w R => ?_
  rcases cond_cases hM with ⟨h1, hM⟩ | ⟨h1, hM⟩
  · have hE : some false = some r := hM
    have hE := Option.some.inj hE
    subst hE
    exact pr R 9999 [.ln (a0.length), .ln (a1.length), .as 10 true] [] [] [] (And.intro (lenm Thing.enc a0) (And.intro (lenm Thing.enc a1) (And.intro h1 True.intro))) (by kernel_rfl)
  · have K1 : ∀ (_ : Unit), laws_things_L1_a = some r → Gr R [.code (cAt Try.f9 [1, 1, 1])] (⟨[], []⟩) := by
      intro _ hM
      unfold laws_things_L1_a at hM
      have hE : some true = some r := hM
      have hE := Option.some.inj hE
      subst hE
      exact pr R 9999 [] [] [] [] True.intro (by kernel_rfl)
    refine pc R 9999 [.ln (a0.length), .ln (a1.length), .as 10 false] [.keep [0, 1, 5] []] (k' := [.code (.loop (cAt Try.f9 [1, 1, 0, 1, 0, 0])), .blk 0, .code (cAt Try.f9 [1, 1, 1])]) (S' := laws_things_L1_S a0 a1 0) (And.intro (lenm Thing.enc a0) (And.intro (lenm Thing.enc a1) (And.intro h1 True.intro))) (by kernel_rfl) ?_
    refine lq (laws_things_L1_S a0 a1) (body := laws_things_L1 a0 a1) (k := laws_things_L1_k) hM fun m1 s c1 hM hK1 => ?_
    obtain ⟨s2, hs⟩ : ∃ z, z = s := ⟨_, rfl⟩
    subst hs
    have hM : laws_things_L1_b a0 a1 s2 = some c1 := hM
    unfold laws_things_L1_b at hM
    rcases cond_cases hM with ⟨h3, hM⟩ | ⟨h3, hM⟩
    · obtain ⟨v4, h5, hM⟩ := bind_some hM
      obtain ⟨v6, h7, hM⟩ := bind_some hM
      rcases cond_cases hM with ⟨h8, hM⟩ | ⟨h8, hM⟩
      · have hE : some (Ctl.ret false) = some c1 := hM
        have hE := Option.some.inj hE
        subst hE
        have hE : some false = some r := hK1
        have hE := Option.some.inj hE
        subst hE
        exact pr R 9999 [.ln (a0.length), .as 14 true, .ix (Thing.enc v4), .ix (Thing.enc v6), .run 25 (.bool (!decide (v4 = v6))), .as 25 true] [] [] [] (And.intro (lenm Thing.enc a0) (And.intro h3 (And.intro (gi_map Thing.enc h5) (And.intro (gi_map Thing.enc h7) (And.intro (Thing_neq35 v4 v6) (And.intro h8 True.intro)))))) (by kernel_rfl)
      · have hE : some (Ctl.next (w64 (s2 + 1))) = some c1 := hM
        have hE := Option.some.inj hE
        subst hE
        exact pc R 9999 [.ln (a0.length), .as 14 true, .ix (Thing.enc v4), .ix (Thing.enc v6), .run 25 (.bool (!decide (v4 = v6))), .as 25 false] [.keep [0, 1, 5] []] (And.intro (lenm Thing.enc a0) (And.intro h3 (And.intro (gi_map Thing.enc h5) (And.intro (gi_map Thing.enc h7) (And.intro (Thing_neq35 v4 v6) (And.intro h8 True.intro)))))) (by kernel_rfl) (li (Sf := laws_things_L1_S a0 a1) (M := Mk (laws_things_L1 a0 a1) (laws_things_L1_k) r) (k := [.blk 0, .code (cAt Try.f9 [1, 1, 1])]) (Nat.lt_succ_self m1) hK1)
    · have hE : some (Ctl.brk ()) = some c1 := hM
      have hE := Option.some.inj hE
      subst hE
      exact pc R 5 [.ln (a0.length), .as 14 false] [.keep [] []] (And.intro (lenm Thing.enc a0) (And.intro h3 True.intro)) (by kernel_rfl) (K1 () hK1)

-- loop.example/g03014/laws.has
def laws_has_L1_b (a0 : (List Int)) (a1 : Int) (s1 : Int) : Option (Ctl Int Unit Bool) :=
  bif (decide (s1 < (a0.length : Int))) then
  (gi a0 s1).bind fun v3 =>
  bif (v3 == a1) then
  some (.ret true)
  else
  some (.next (w64 (s1 + 1)))
  else
  some (.brk ())
def laws_has_L1 (a0 : (List Int)) (a1 : Int) (s : Int) : Option (Ctl Int Unit Bool) := laws_has_L1_b a0 a1 s
def laws_has_L1_s (a0 : (List Int)) (a1 : Int) (s1 : Int) : St := ⟨[(0, .o (.c (.rs 1 (a0.map encI)))), (1, .o (.c (.v (.int .i64 a1)))), (5, .o (.c (.v (.int .i64 s1))))], []⟩
def laws_has_L1_S (a0 : (List Int)) (a1 : Int) (s : Int) : St := laws_has_L1_s a0 a1 s
def laws_has_L1_a : Option Bool :=
  some false
def laws_has_L1_k (x : (Unit) ⊕ (Bool)) : Option Bool := match x with
  | .inl t => laws_has_L1_a
  | .inr y => some y
def laws_has (a0 : (List Int)) (a1 : Int) : Option Bool :=
  (loopM (laws_has_L1 a0 a1) big 0).bind (laws_has_L1_k)
theorem laws_has_ok (a0 : (List Int)) (a1 : Int) (r : Bool) (hM : laws_has a0 a1 = some r) :
    Con Try.prog 11 [.c (.rs 1 (a0.map encI)), .c (.v (.int .i64 a1))] [] (.o (.c (.v (.bool r)))) [] [] := by
  unfold laws_has at hM
  refine cn (N := 18) (pids := []) Try_mixed Try.func11 (by kernel_rfl) (by kernel_rfl) (by kernel_rfl) rfl fun ρ g w R => ?_
  have K1 : ∀ (_ : Unit), laws_has_L1_a = some r → Gr R [.code (cAt Try.f11 [1, 1])] (⟨[], []⟩) := by
    intro _ hM
    unfold laws_has_L1_a at hM
    have hE : some false = some r := hM
    have hE := Option.some.inj hE
    subst hE
    exact pr R 9999 [] [] [] [] True.intro (by kernel_rfl)
  refine pc R 9999 [] [.keep [0, 1, 5] []] (k' := [.code (.loop (cAt Try.f11 [1, 0, 1, 0, 0])), .blk 0, .code (cAt Try.f11 [1, 1])]) (S' := laws_has_L1_S a0 a1 0) True.intro (by kernel_rfl) ?_
  refine lq (laws_has_L1_S a0 a1) (body := laws_has_L1 a0 a1) (k := laws_has_L1_k) hM fun m1 s c1 hM hK1 => ?_
  obtain ⟨s1, hs⟩ : ∃ z, z = s := ⟨_, rfl⟩
  subst hs
  have hM : laws_has_L1_b a0 a1 s1 = some c1 := hM
  unfold laws_has_L1_b at hM
  rcases cond_cases hM with ⟨h2, hM⟩ | ⟨h2, hM⟩
  · obtain ⟨v3, h4, hM⟩ := bind_some hM
    rcases cond_cases hM with ⟨h5, hM⟩ | ⟨h5, hM⟩
    · have hE : some (Ctl.ret true) = some c1 := hM
      have hE := Option.some.inj hE
      subst hE
      have hE : some true = some r := hK1
      have hE := Option.some.inj hE
      subst hE
      exact pr R 9999 [.ln (a0.length), .as 9 true, .ix (encI v3), .as 17 true] [] [] [] (And.intro (lenm encI a0) (And.intro h2 (And.intro (gi_map encI h4) (And.intro h5 True.intro)))) (by kernel_rfl)
    · have hE : some (Ctl.next (w64 (s1 + 1))) = some c1 := hM
      have hE := Option.some.inj hE
      subst hE
      exact pc R 9999 [.ln (a0.length), .as 9 true, .ix (encI v3), .as 17 false] [.keep [0, 1, 5] []] (And.intro (lenm encI a0) (And.intro h2 (And.intro (gi_map encI h4) (And.intro h5 True.intro)))) (by kernel_rfl) (li (Sf := laws_has_L1_S a0 a1) (M := Mk (laws_has_L1 a0 a1) (laws_has_L1_k) r) (k := [.blk 0, .code (cAt Try.f11 [1, 1])]) (Nat.lt_succ_self m1) hK1)
  · have hE : some (Ctl.brk ()) = some c1 := hM
    have hE := Option.some.inj hE
    subst hE
    exact pc R 5 [.ln (a0.length), .as 9 false] [.keep [] []] (And.intro (lenm encI a0) (And.intro h2 True.intro)) (by kernel_rfl) (K1 () hK1)

-- loop.example/g03014/laws.FnPacked
def laws_FnPacked_L2_b (v4 : ((List Thing) × (List Int) × (List Int))) (s14 : Int) (s19 : Int) : Option (Ctl Int Unit Bool) :=
  bif (decide (s19 < s14)) then
  (gi v4.2.1 s19).bind fun v42 =>
  (gi v4.2.1 s14).bind fun v44 =>
  bif (v42 == v44) then
  some (.ret true)
  else
  some (.next (w64 (s19 + 1)))
  else
  some (.brk ())
def laws_FnPacked_L2 (v4 : ((List Thing) × (List Int) × (List Int))) (s14 : Int) (s : Int) : Option (Ctl Int Unit Bool) := laws_FnPacked_L2_b v4 s14 s
def laws_FnPacked_L2_s (v4 : ((List Thing) × (List Int) × (List Int))) (v6 : ((List Thing) × (List Int))) (s14 : Int) (s19 : Int) : St := ⟨[(3, .o (.c (.sl 0))), (4, .o (.c (.sl 1))), (5, .o (.c (.sl 2))), (6, .o (.c (.sl 3))), (7, .o (.c (.sl 4))), (8, .o (.c (.v (.int .i64 s14)))), (9, .o (.c (.v (.int .i64 s19))))], [(0, .row 35 6 (v4.1.map Thing.enc)), (1, .row 3 1 (v4.2.1.map encI)), (2, .row 3 1 (v4.2.2.map encI)), (3, .row 35 6 (v6.1.map Thing.enc)), (4, .row 3 1 (v6.2.map encI))]⟩
def laws_FnPacked_L2_S (v4 : ((List Thing) × (List Int) × (List Int))) (v6 : ((List Thing) × (List Int))) (s14 : Int) (s : Int) : St := laws_FnPacked_L2_s v4 v6 s14 s
def laws_FnPacked_L2_a (v4 : ((List Thing) × (List Int) × (List Int))) (v6 : ((List Thing) × (List Int))) (s14 : Int) : Option (Ctl Int Unit Bool) :=
  (gi v4.2.1 s14).bind fun v20 =>
  (impl_FindThing v6.1 v20).bind fun v22 =>
  (gi v4.2.1 s14).bind fun v24 =>
  (laws_has v6.2 v24).bind fun v26 =>
  bif v26 then
  bif (decide (v22 ≥ 0)) then
  (gi v6.1 v22).bind fun v30 =>
  (gi v4.1 v22).bind fun v32 =>
  bif (!decide (v30 = v32)) then
  some (.ret false)
  else
  some (.next (w64 (s14 + 1)))
  else
  some (.next (w64 (s14 + 1)))
  else
  bif (decide (v22 < 0)) then
  some (.ret false)
  else
  (gi v6.1 v22).bind fun v36 =>
  (laws_has v4.2.2 v36.In).bind fun v38 =>
  bif (!v38) then
  some (.ret false)
  else
  some (.next (w64 (s14 + 1)))
def laws_FnPacked_L2_k (v4 : ((List Thing) × (List Int) × (List Int))) (v6 : ((List Thing) × (List Int))) (s14 : Int) (x : (Unit) ⊕ (Bool)) : Option (Ctl Int Unit Bool) := match x with
  | .inl t => laws_FnPacked_L2_a v4 v6 s14
  | .inr y => some (.ret y)
def laws_FnPacked_L1_b (v4 : ((List Thing) × (List Int) × (List Int))) (v6 : ((List Thing) × (List Int))) (s14 : Int) : Option (Ctl Int Unit Bool) :=
  bif (decide (s14 < (v4.2.1.length : Int))) then
  (loopM (laws_FnPacked_L2 v4 s14) big 0).bind (laws_FnPacked_L2_k v4 v6 s14)
  else
  some (.brk ())
def laws_FnPacked_L1 (v4 : ((List Thing) × (List Int) × (List Int))) (v6 : ((List Thing) × (List Int))) (s : Int) : Option (Ctl Int Unit Bool) := laws_FnPacked_L1_b v4 v6 s
def laws_FnPacked_L1_s (v4 : ((List Thing) × (List Int) × (List Int))) (v6 : ((List Thing) × (List Int))) (s14 : Int) : St := ⟨[(3, .o (.c (.sl 0))), (4, .o (.c (.sl 1))), (5, .o (.c (.sl 2))), (6, .o (.c (.sl 3))), (7, .o (.c (.sl 4))), (8, .o (.c (.v (.int .i64 s14))))], [(0, .row 35 6 (v4.1.map Thing.enc)), (1, .row 3 1 (v4.2.1.map encI)), (2, .row 3 1 (v4.2.2.map encI)), (3, .row 35 6 (v6.1.map Thing.enc)), (4, .row 3 1 (v6.2.map encI))]⟩
def laws_FnPacked_L1_S (v4 : ((List Thing) × (List Int) × (List Int))) (v6 : ((List Thing) × (List Int))) (s : Int) : St := laws_FnPacked_L1_s v4 v6 s
def laws_FnPacked_L1_a (v4 : ((List Thing) × (List Int) × (List Int))) (v6 : ((List Thing) × (List Int))) : Option Bool :=
  (impl_AreThings v6.1).bind fun v15 =>
  bif v15 then
  some (decide ((v6.2.length : Int) ≤ (v4.2.1.length : Int)))
  else
  some false
def laws_FnPacked_L1_k (v4 : ((List Thing) × (List Int) × (List Int))) (v6 : ((List Thing) × (List Int))) (x : (Unit) ⊕ (Bool)) : Option Bool := match x with
  | .inl t => laws_FnPacked_L1_a v4 v6
  | .inr y => some y
def laws_FnPacked (a0 : (List Int)) : Option Bool :=
  (laws_big a0).bind fun v1 =>
  bif v1 then
  some true
  else
  (spec_DrawPackAll a0).bind fun v4 =>
  (impl_PackAll v4.1 v4.2.1 v4.2.2).bind fun v6 =>
  (spec_AreThings v4.1).bind fun v8 =>
  bif (!v8) then
  (laws_things v6.1 v4.1).bind fun v11 =>
  bif v11 then
  some ((v6.2.length : Int) == 0)
  else
  some false
  else
  (loopM (laws_FnPacked_L1 v4 v6) big 0).bind (laws_FnPacked_L1_k v4 v6)
theorem laws_FnPacked_ok (a0 : (List Int)) (r : Bool) (hM : laws_FnPacked a0 = some r) :
    Con Try.prog 3 [.c (.rs 1 (a0.map encU8))] [] (.o (.c (.v (.bool r)))) [] [] := by
  unfold laws_FnPacked at hM
  refine cn (N := 103) (pids := []) Try_mixed Try.func3 (by kernel_rfl) (by kernel_rfl) (by kernel_rfl) rfl fun ρ g w R => ?_
  obtain ⟨v1, h2, hM⟩ := bind_some hM
  rcases cond_cases hM with ⟨h3, hM⟩ | ⟨h3, hM⟩
  · have hE : some true = some r := hM
    have hE := Option.some.inj hE
    subst hE
    exact pr R 9999 [.call false [] (.o (.c (.v (.bool v1)))) [] [], .as 12 true] [] [] [] (And.intro (laws_big_ok a0 v1 h2) (And.intro h3 True.intro)) (by kernel_rfl)
  · obtain ⟨v4, h5, hM⟩ := bind_some hM
    obtain ⟨v6, h7, hM⟩ := bind_some hM
    obtain ⟨v8, h9, hM⟩ := bind_some hM
    rcases cond_cases hM with ⟨h10, hM⟩ | ⟨h10, hM⟩
    · obtain ⟨v11, h12, hM⟩ := bind_some hM
      rcases cond_cases hM with ⟨h13, hM⟩ | ⟨h13, hM⟩
      · have hE : some ((v6.2.length : Int) == 0) = some r := hM
        have hE := Option.some.inj hE
        subst hE
        exact pr R 9999 [.call false [] (.o (.c (.v (.bool v1)))) [] [], .as 12 false, .call false [] (.tup [.c (.sl 0), .c (.sl 1), .c (.sl 2)]) [] [(0, .row 35 6 (v4.1.map Thing.enc)), (1, .row 3 1 (v4.2.1.map encI)), (2, .row 3 1 (v4.2.2.map encI))], .call false [] (.tup [.c (.sl 3), .c (.sl 4)]) [] [(3, .row 35 6 (v6.1.map Thing.enc)), (4, .row 3 1 (v6.2.map encI))], .call false [] (.o (.c (.v (.bool v8)))) [] [], .as 28 true, .call false [] (.o (.c (.v (.bool v11)))) [] [], .as 32 true, .ln (v6.2.length)] [] [] [] (And.intro (laws_big_ok a0 v1 h2) (And.intro h3 (And.intro (And.intro (con_sw 1002 2 (con_sw 1001 1 (con_sw 1000 0 (spec_DrawPackAll_ok a0 v4 h5)))) (rfl : ([] : List Nat) = [])) (And.intro (And.intro (con_sw 1001 4 (con_sw 1000 3 (impl_PackAll_ok v4.1 v4.2.1 v4.2.2 v6 h7))) (rfl : ([] : List Nat) = [])) (And.intro (spec_AreThings_ok v4.1 v8 h9) (And.intro h10 (And.intro (laws_things_ok v6.1 v4.1 v11 h12) (And.intro h13 (And.intro (lenm encI v6.2) True.intro))))))))) (by kernel_rfl)
      · have hE : some false = some r := hM
        have hE := Option.some.inj hE
        subst hE
        exact pr R 9999 [.call false [] (.o (.c (.v (.bool v1)))) [] [], .as 12 false, .call false [] (.tup [.c (.sl 0), .c (.sl 1), .c (.sl 2)]) [] [(0, .row 35 6 (v4.1.map Thing.enc)), (1, .row 3 1 (v4.2.1.map encI)), (2, .row 3 1 (v4.2.2.map encI))], .call false [] (.tup [.c (.sl 3), .c (.sl 4)]) [] [(3, .row 35 6 (v6.1.map Thing.enc)), (4, .row 3 1 (v6.2.map encI))], .call false [] (.o (.c (.v (.bool v8)))) [] [], .as 28 true, .call false [] (.o (.c (.v (.bool v11)))) [] [], .as 32 false] [] [] [] (And.intro (laws_big_ok a0 v1 h2) (And.intro h3 (And.intro (And.intro (con_sw 1002 2 (con_sw 1001 1 (con_sw 1000 0 (spec_DrawPackAll_ok a0 v4 h5)))) (rfl : ([] : List Nat) = [])) (And.intro (And.intro (con_sw 1001 4 (con_sw 1000 3 (impl_PackAll_ok v4.1 v4.2.1 v4.2.2 v6 h7))) (rfl : ([] : List Nat) = [])) (And.intro (spec_AreThings_ok v4.1 v8 h9) (And.intro h10 (And.intro (laws_things_ok v6.1 v4.1 v11 h12) (And.intro h13 True.intro)))))))) (by kernel_rfl)
    · have K1 : ∀ (_ : Unit), laws_FnPacked_L1_a v4 v6 = some r → Gr R [.code (cAt Try.f3 [1, 1, 1, 1, 1, 1])] (⟨[(4, .o (.c (.sl 1))), (6, .o (.c (.sl 3))), (7, .o (.c (.sl 4)))], [(1, .row 3 1 (v4.2.1.map encI)), (3, .row 35 6 (v6.1.map Thing.enc)), (4, .row 3 1 (v6.2.map encI))]⟩) := by
        intro _ hM
        unfold laws_FnPacked_L1_a at hM
        obtain ⟨v15, h16, hM⟩ := bind_some hM
        rcases cond_cases hM with ⟨h17, hM⟩ | ⟨h17, hM⟩
        · have hE : some (decide ((v6.2.length : Int) ≤ (v4.2.1.length : Int))) = some r := hM
          have hE := Option.some.inj hE
          subst hE
          exact pr R 9999 [.call false [] (.o (.c (.v (.bool v15)))) [] [], .as 96 true, .ln (v6.2.length), .ln (v4.2.1.length)] [] [] [] (And.intro (impl_AreThings_ok v6.1 v15 h16) (And.intro h17 (And.intro (lenm encI v6.2) (And.intro (lenm encI v4.2.1) True.intro)))) (by kernel_rfl)
        · have hE : some false = some r := hM
          have hE := Option.some.inj hE
          subst hE
          exact pr R 9999 [.call false [] (.o (.c (.v (.bool v15)))) [] [], .as 96 false] [] [] [] (And.intro (impl_AreThings_ok v6.1 v15 h16) (And.intro h17 True.intro)) (by kernel_rfl)
      refine pc R 9999 [.call false [] (.o (.c (.v (.bool v1)))) [] [], .as 12 false, .call false [] (.tup [.c (.sl 0), .c (.sl 1), .c (.sl 2)]) [] [(0, .row 35 6 (v4.1.map Thing.enc)), (1, .row 3 1 (v4.2.1.map encI)), (2, .row 3 1 (v4.2.2.map encI))], .call false [] (.tup [.c (.sl 3), .c (.sl 4)]) [] [(3, .row 35 6 (v6.1.map Thing.enc)), (4, .row 3 1 (v6.2.map encI))], .call false [] (.o (.c (.v (.bool v8)))) [] [], .as 28 false] [.keep [3, 4, 5, 6, 7, 8] [0, 1, 2, 3, 4]] (k' := [.code (.loop (cAt Try.f3 [1, 1, 1, 1, 1, 0, 1, 0, 0])), .blk 0, .code (cAt Try.f3 [1, 1, 1, 1, 1, 1])]) (S' := laws_FnPacked_L1_S v4 v6 0) (And.intro (laws_big_ok a0 v1 h2) (And.intro h3 (And.intro (And.intro (con_sw 1002 2 (con_sw 1001 1 (con_sw 1000 0 (spec_DrawPackAll_ok a0 v4 h5)))) (rfl : ([] : List Nat) = [])) (And.intro (And.intro (con_sw 1001 4 (con_sw 1000 3 (impl_PackAll_ok v4.1 v4.2.1 v4.2.2 v6 h7))) (rfl : ([] : List Nat) = [])) (And.intro (spec_AreThings_ok v4.1 v8 h9) (And.intro h10 True.intro)))))) (by kernel_rfl) ?_
      refine lq (laws_FnPacked_L1_S v4 v6) (body := laws_FnPacked_L1 v4 v6) (k := laws_FnPacked_L1_k v4 v6) hM fun m1 s c1 hM hK1 => ?_
      obtain ⟨s14, hs⟩ : ∃ z, z = s := ⟨_, rfl⟩
      subst hs
      have hM : laws_FnPacked_L1_b v4 v6 s14 = some c1 := hM
      unfold laws_FnPacked_L1_b at hM
      rcases cond_cases hM with ⟨h18, hM⟩ | ⟨h18, hM⟩
      · have K2 : ∀ (_ : Unit), laws_FnPacked_L2_a v4 v6 s14 = some c1 → Gr R [.code (cAt Try.f3 [1, 1, 1, 1, 1, 0, 1, 0, 0, 1, 0, 0, 1]), .blk 1, .code (cAt Try.f3 [1, 1, 1, 1, 1, 0, 1, 0, 0, 1, 1]), .inv (Jr R (laws_FnPacked_L1_S v4 v6) (Mk (laws_FnPacked_L1 v4 v6) (laws_FnPacked_L1_k v4 v6) r) (m1 + 1)), .blk 0, .code (cAt Try.f3 [1, 1, 1, 1, 1, 1])] (⟨[(3, .o (.c (.sl 0))), (4, .o (.c (.sl 1))), (5, .o (.c (.sl 2))), (6, .o (.c (.sl 3))), (7, .o (.c (.sl 4))), (8, .o (.c (.v (.int .i64 s14))))], [(0, .row 35 6 (v4.1.map Thing.enc)), (1, .row 3 1 (v4.2.1.map encI)), (2, .row 3 1 (v4.2.2.map encI)), (3, .row 35 6 (v6.1.map Thing.enc)), (4, .row 3 1 (v6.2.map encI))]⟩) := by
          intro _ hM
          unfold laws_FnPacked_L2_a at hM
          obtain ⟨v20, h21, hM⟩ := bind_some hM
          obtain ⟨v22, h23, hM⟩ := bind_some hM
          obtain ⟨v24, h25, hM⟩ := bind_some hM
          obtain ⟨v26, h27, hM⟩ := bind_some hM
          rcases cond_cases hM with ⟨h28, hM⟩ | ⟨h28, hM⟩
          · rcases cond_cases hM with ⟨h29, hM⟩ | ⟨h29, hM⟩
            · obtain ⟨v30, h31, hM⟩ := bind_some hM
              obtain ⟨v32, h33, hM⟩ := bind_some hM
              rcases cond_cases hM with ⟨h34, hM⟩ | ⟨h34, hM⟩
              · have hE : some (Ctl.ret false) = some c1 := hM
                have hE := Option.some.inj hE
                subst hE
                have hE : some false = some r := hK1
                have hE := Option.some.inj hE
                subst hE
                exact pr R 9999 [.ix (encI v20), .call false [] (.o (.c (.v (.int .i64 v22)))) [] [], .ix (encI v24), .call false [] (.o (.c (.v (.bool v26)))) [] [], .as 68 true, .as 71 true, .ix (Thing.enc v30), .ix (Thing.enc v32), .run 80 (.bool (!decide (v30 = v32))), .as 81 true] [] [] [] (And.intro (gi_lt encI h21) (And.intro ((gi_map encI h21).2) (And.intro (impl_FindThing_ok v6.1 v20 v22 h23) (And.intro (gi_lt encI h25) (And.intro ((gi_map encI h25).2) (And.intro (laws_has_ok v6.2 v24 v26 h27) (And.intro h28 (And.intro h29 (And.intro (gi_lt Thing.enc h31) (And.intro ((gi_map Thing.enc h31).2) (And.intro (gi_lt Thing.enc h33) (And.intro ((gi_map Thing.enc h33).2) (And.intro (Thing_neq35 v30 v32) (And.intro h34 True.intro)))))))))))))) (by kernel_rfl)
              · have hE : some (Ctl.next (w64 (s14 + 1))) = some c1 := hM
                have hE := Option.some.inj hE
                subst hE
                exact pc R 9999 [.ix (encI v20), .call false [] (.o (.c (.v (.int .i64 v22)))) [] [], .ix (encI v24), .call false [] (.o (.c (.v (.bool v26)))) [] [], .as 68 true, .as 71 true, .ix (Thing.enc v30), .ix (Thing.enc v32), .run 80 (.bool (!decide (v30 = v32))), .as 81 false] [.keep [3, 4, 5, 6, 7, 8] [0, 1, 2, 3, 4]] (And.intro (gi_lt encI h21) (And.intro ((gi_map encI h21).2) (And.intro (impl_FindThing_ok v6.1 v20 v22 h23) (And.intro (gi_lt encI h25) (And.intro ((gi_map encI h25).2) (And.intro (laws_has_ok v6.2 v24 v26 h27) (And.intro h28 (And.intro h29 (And.intro (gi_lt Thing.enc h31) (And.intro ((gi_map Thing.enc h31).2) (And.intro (gi_lt Thing.enc h33) (And.intro ((gi_map Thing.enc h33).2) (And.intro (Thing_neq35 v30 v32) (And.intro h34 True.intro)))))))))))))) (by kernel_rfl) (li (Sf := laws_FnPacked_L1_S v4 v6) (M := Mk (laws_FnPacked_L1 v4 v6) (laws_FnPacked_L1_k v4 v6) r) (k := [.blk 0, .code (cAt Try.f3 [1, 1, 1, 1, 1, 1])]) (Nat.lt_succ_self m1) hK1)
            · have hE : some (Ctl.next (w64 (s14 + 1))) = some c1 := hM
              have hE := Option.some.inj hE
              subst hE
              exact pc R 9999 [.ix (encI v20), .call false [] (.o (.c (.v (.int .i64 v22)))) [] [], .ix (encI v24), .call false [] (.o (.c (.v (.bool v26)))) [] [], .as 68 true, .as 71 false] [.keep [3, 4, 5, 6, 7, 8] [0, 1, 2, 3, 4]] (And.intro (gi_lt encI h21) (And.intro ((gi_map encI h21).2) (And.intro (impl_FindThing_ok v6.1 v20 v22 h23) (And.intro (gi_lt encI h25) (And.intro ((gi_map encI h25).2) (And.intro (laws_has_ok v6.2 v24 v26 h27) (And.intro h28 (And.intro h29 True.intro)))))))) (by kernel_rfl) (li (Sf := laws_FnPacked_L1_S v4 v6) (M := Mk (laws_FnPacked_L1 v4 v6) (laws_FnPacked_L1_k v4 v6) r) (k := [.blk 0, .code (cAt Try.f3 [1, 1, 1, 1, 1, 1])]) (Nat.lt_succ_self m1) hK1)
          · rcases cond_cases hM with ⟨h35, hM⟩ | ⟨h35, hM⟩
            · have hE : some (Ctl.ret false) = some c1 := hM
              have hE := Option.some.inj hE
              subst hE
              have hE : some false = some r := hK1
              have hE := Option.some.inj hE
              subst hE
              exact pr R 9999 [.ix (encI v20), .call false [] (.o (.c (.v (.int .i64 v22)))) [] [], .ix (encI v24), .call false [] (.o (.c (.v (.bool v26)))) [] [], .as 68 false, .as 84 true] [] [] [] (And.intro (gi_lt encI h21) (And.intro ((gi_map encI h21).2) (And.intro (impl_FindThing_ok v6.1 v20 v22 h23) (And.intro (gi_lt encI h25) (And.intro ((gi_map encI h25).2) (And.intro (laws_has_ok v6.2 v24 v26 h27) (And.intro h28 (And.intro h35 True.intro)))))))) (by kernel_rfl)
            · obtain ⟨v36, h37, hM⟩ := bind_some hM
              obtain ⟨v38, h39, hM⟩ := bind_some hM
              rcases cond_cases hM with ⟨h40, hM⟩ | ⟨h40, hM⟩
              · have hE : some (Ctl.ret false) = some c1 := hM
                have hE := Option.some.inj hE
                subst hE
                have hE : some false = some r := hK1
                have hE := Option.some.inj hE
                subst hE
                exact pr R 9999 [.ix (encI v20), .call false [] (.o (.c (.v (.int .i64 v22)))) [] [], .ix (encI v24), .call false [] (.o (.c (.v (.bool v26)))) [] [], .as 68 false, .as 84 false, .ix (Thing.enc v36), .call false [] (.o (.c (.v (.bool v38)))) [] [], .as 93 true] [] [] [] (And.intro (gi_lt encI h21) (And.intro ((gi_map encI h21).2) (And.intro (impl_FindThing_ok v6.1 v20 v22 h23) (And.intro (gi_lt encI h25) (And.intro ((gi_map encI h25).2) (And.intro (laws_has_ok v6.2 v24 v26 h27) (And.intro h28 (And.intro h35 (And.intro (gi_lt Thing.enc h37) (And.intro ((gi_map Thing.enc h37).2) (And.intro (laws_has_ok v4.2.2 v36.In v38 h39) (And.intro h40 True.intro)))))))))))) (by kernel_rfl)
              · have hE : some (Ctl.next (w64 (s14 + 1))) = some c1 := hM
                have hE := Option.some.inj hE
                subst hE
                exact pc R 9999 [.ix (encI v20), .call false [] (.o (.c (.v (.int .i64 v22)))) [] [], .ix (encI v24), .call false [] (.o (.c (.v (.bool v26)))) [] [], .as 68 false, .as 84 false, .ix (Thing.enc v36), .call false [] (.o (.c (.v (.bool v38)))) [] [], .as 93 false] [.keep [3, 4, 5, 6, 7, 8] [0, 1, 2, 3, 4]] (And.intro (gi_lt encI h21) (And.intro ((gi_map encI h21).2) (And.intro (impl_FindThing_ok v6.1 v20 v22 h23) (And.intro (gi_lt encI h25) (And.intro ((gi_map encI h25).2) (And.intro (laws_has_ok v6.2 v24 v26 h27) (And.intro h28 (And.intro h35 (And.intro (gi_lt Thing.enc h37) (And.intro ((gi_map Thing.enc h37).2) (And.intro (laws_has_ok v4.2.2 v36.In v38 h39) (And.intro h40 True.intro)))))))))))) (by kernel_rfl) (li (Sf := laws_FnPacked_L1_S v4 v6) (M := Mk (laws_FnPacked_L1 v4 v6) (laws_FnPacked_L1_k v4 v6) r) (k := [.blk 0, .code (cAt Try.f3 [1, 1, 1, 1, 1, 1])]) (Nat.lt_succ_self m1) hK1)
        refine pc R 9999 [.ln (v4.2.1.length), .as 40 true] [.keep [3, 4, 5, 6, 7, 8, 9] [0, 1, 2, 3, 4]] (k' := [.code (.loop (cAt Try.f3 [1, 1, 1, 1, 1, 0, 1, 0, 0, 1, 0, 0, 0, 1, 0, 0])), .blk 2, .code (cAt Try.f3 [1, 1, 1, 1, 1, 0, 1, 0, 0, 1, 0, 0, 1]), .blk 1, .code (cAt Try.f3 [1, 1, 1, 1, 1, 0, 1, 0, 0, 1, 1]), .inv (Jr R (laws_FnPacked_L1_S v4 v6) (Mk (laws_FnPacked_L1 v4 v6) (laws_FnPacked_L1_k v4 v6) r) (m1 + 1)), .blk 0, .code (cAt Try.f3 [1, 1, 1, 1, 1, 1])]) (S' := laws_FnPacked_L2_S v4 v6 s14 0) (And.intro (lenm encI v4.2.1) (And.intro h18 True.intro)) (by kernel_rfl) ?_
        refine lq (laws_FnPacked_L2_S v4 v6 s14) (body := laws_FnPacked_L2 v4 s14) (k := laws_FnPacked_L2_k v4 v6 s14) hM fun m2 s c2 hM hK2 => ?_
        obtain ⟨s19, hs⟩ : ∃ z, z = s := ⟨_, rfl⟩
        subst hs
        have hM : laws_FnPacked_L2_b v4 s14 s19 = some c2 := hM
        unfold laws_FnPacked_L2_b at hM
        rcases cond_cases hM with ⟨h41, hM⟩ | ⟨h41, hM⟩
        · obtain ⟨v42, h43, hM⟩ := bind_some hM
          obtain ⟨v44, h45, hM⟩ := bind_some hM
          rcases cond_cases hM with ⟨h46, hM⟩ | ⟨h46, hM⟩
          · have hE : some (Ctl.ret true) = some c2 := hM
            have hE := Option.some.inj hE
            subst hE
            have hE : some (Ctl.ret true) = some c1 := hK2
            have hE := Option.some.inj hE
            subst hE
            have hE : some true = some r := hK1
            have hE := Option.some.inj hE
            subst hE
            exact pr R 9999 [.as 45 true, .ix (encI v42), .ix (encI v44), .as 56 true] [] [] [] (And.intro h41 (And.intro (gi_lt encI h43) (And.intro ((gi_map encI h43).2) (And.intro (gi_lt encI h45) (And.intro ((gi_map encI h45).2) (And.intro h46 True.intro)))))) (by kernel_rfl)
          · have hE : some (Ctl.next (w64 (s19 + 1))) = some c2 := hM
            have hE := Option.some.inj hE
            subst hE
            exact pc R 9999 [.as 45 true, .ix (encI v42), .ix (encI v44), .as 56 false] [.keep [3, 4, 5, 6, 7, 8, 9] [0, 1, 2, 3, 4]] (And.intro h41 (And.intro (gi_lt encI h43) (And.intro ((gi_map encI h43).2) (And.intro (gi_lt encI h45) (And.intro ((gi_map encI h45).2) (And.intro h46 True.intro)))))) (by kernel_rfl) (li (Sf := laws_FnPacked_L2_S v4 v6 s14) (M := Mk (laws_FnPacked_L2 v4 s14) (laws_FnPacked_L2_k v4 v6 s14) c1) (k := [.blk 2, .code (cAt Try.f3 [1, 1, 1, 1, 1, 0, 1, 0, 0, 1, 0, 0, 1]), .blk 1, .code (cAt Try.f3 [1, 1, 1, 1, 1, 0, 1, 0, 0, 1, 1]), .inv (Jr R (laws_FnPacked_L1_S v4 v6) (Mk (laws_FnPacked_L1 v4 v6) (laws_FnPacked_L1_k v4 v6) r) (m1 + 1)), .blk 0, .code (cAt Try.f3 [1, 1, 1, 1, 1, 1])]) (Nat.lt_succ_self m2) hK2)
        · have hE : some (Ctl.brk ()) = some c2 := hM
          have hE := Option.some.inj hE
          subst hE
          exact pc R 5 [.as 45 false] [.keep [3, 4, 5, 6, 7, 8] [0, 1, 2, 3, 4]] (And.intro h41 True.intro) (by kernel_rfl) (K2 () hK2)
      · have hE : some (Ctl.brk ()) = some c1 := hM
        have hE := Option.some.inj hE
        subst hE
        exact pc R 5 [.ln (v4.2.1.length), .as 40 false] [.keep [4, 6, 7] [1, 3, 4]] (And.intro (lenm encI v4.2.1) (And.intro h18 True.intro)) (by kernel_rfl) (K1 () hK1)
end Go.Sx
