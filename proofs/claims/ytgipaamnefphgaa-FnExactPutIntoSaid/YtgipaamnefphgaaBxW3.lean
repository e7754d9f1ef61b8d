/- The functions of the program as plain Lean, and that each runs so (printed by wip/gen). -/
import Derived.Test.YtgipaamnefphgaaBxW2
namespace Go.Sx
open Go.Proofs
set_option linter.unusedVariables false

-- loop.example/g03014/impl.PutInto
def impl_PutInto (a0 : (List Thing)) (a1 : Int) (a2 : Int) : Option ((List Thing) × Int) :=
  (impl_copyThings a0).bind fun v1 =>
  (impl_isThing a0 a1).bind fun v3 =>
  bif (!v3) then
  some (v1, 1)
  else
  (impl_isBox a0 a2).bind fun v6 =>
  bif (!v6) then
  some (v1, 1)
  else
  (impl_IsLocked a0 a1).bind fun v9 =>
  bif v9 then
  some (v1, 2)
  else
  (impl_IsLocked a0 a2).bind fun v12 =>
  bif v12 then
  some (v1, 2)
  else
  (impl_FindThing a0 a2).bind fun v15 =>
  (gi a0 v15).bind fun v17 =>
  bif v17.Sealed then
  some (v1, 2)
  else
  bif (a1 == a2) then
  some (v1, 3)
  else
  (impl_around a0 a2).bind fun v21 =>
  (impl_hasInt v21 a1).bind fun v23 =>
  bif v23 then
  some (v1, 3)
  else
  (impl_FindThing a0 a1).bind fun v26 =>
  (gi v1 v26).bind fun v28 =>
  (impl_areDeep (List.set v1 (Int.toNat v26) (Thing.mk v28.Id v28.Own v28.Room a2 v28.Box v28.Sealed))).bind fun v30 =>
  bif (!v30) then
  (impl_copyThings a0).bind fun v33 =>
  some (v33, 4)
  else
  (impl_AreThings (List.set v1 (Int.toNat v26) (Thing.mk v28.Id v28.Own v28.Room a2 v28.Box v28.Sealed))).bind fun v35 =>
  bif (!v35) then
  (impl_copyThings a0).bind fun v38 =>
  some (v38, 5)
  else
  some (List.set v1 (Int.toNat v26) (Thing.mk v28.Id v28.Own v28.Room a2 v28.Box v28.Sealed), 0)
theorem impl_PutInto_ok (a0 : (List Thing)) (a1 : Int) (a2 : Int) (r : (List Thing) × Int) (hM : impl_PutInto a0 a1 a2 = some r) :
    Con Try.prog 53 [.c (.rs 6 (a0.map Thing.enc)), .c (.v (.int .i64 a1)), .c (.v (.int .i64 a2))] [] (.tup [.c (.sl 1000), .c (.v (.int .i64 r.2))]) [] [(1000, .row 49 6 (r.1.map Thing.enc))] := by
  unfold impl_PutInto at hM
  refine cn (N := 71) (pids := []) Try_mixed Try.func53 (by kernel_rfl) (by kernel_rfl) (by kernel_rfl) rfl fun ρ g w R => ?_
  obtain ⟨v1, h2, hM⟩ := bind_some hM
  obtain ⟨v3, h4, hM⟩ := bind_some hM
  rcases cond_cases hM with ⟨h5, hM⟩ | ⟨h5, hM⟩
  · have hE : some (v1, 1) = some r := hM
    have hE := Option.some.inj hE
    subst hE
    exact pr R 9999 [.call false [] (.o (.c (.sl 0))) [] [(0, .row 49 6 (v1.map Thing.enc))], .call false [] (.o (.c (.v (.bool v3)))) [] [], .as 15 true] [.sw 0 1000] [] [1000] (And.intro (And.intro (con_sw 1000 0 (impl_copyThings_ok a0 v1 h2)) (rfl : ([] : List Nat) = [])) (And.intro (impl_isThing_ok a0 a1 v3 h4) (And.intro h5 True.intro))) (by kernel_rfl)
  · obtain ⟨v6, h7, hM⟩ := bind_some hM
    rcases cond_cases hM with ⟨h8, hM⟩ | ⟨h8, hM⟩
    · have hE : some (v1, 1) = some r := hM
      have hE := Option.some.inj hE
      subst hE
      exact pr R 9999 [.call false [] (.o (.c (.sl 0))) [] [(0, .row 49 6 (v1.map Thing.enc))], .call false [] (.o (.c (.v (.bool v3)))) [] [], .as 15 false, .call false [] (.o (.c (.v (.bool v6)))) [] [], .as 20 true] [.sw 0 1000] [] [1000] (And.intro (And.intro (con_sw 1000 0 (impl_copyThings_ok a0 v1 h2)) (rfl : ([] : List Nat) = [])) (And.intro (impl_isThing_ok a0 a1 v3 h4) (And.intro h5 (And.intro (impl_isBox_ok a0 a2 v6 h7) (And.intro h8 True.intro))))) (by kernel_rfl)
    · obtain ⟨v9, h10, hM⟩ := bind_some hM
      rcases cond_cases hM with ⟨h11, hM⟩ | ⟨h11, hM⟩
      · have hE : some (v1, 2) = some r := hM
        have hE := Option.some.inj hE
        subst hE
        exact pr R 9999 [.call false [] (.o (.c (.sl 0))) [] [(0, .row 49 6 (v1.map Thing.enc))], .call false [] (.o (.c (.v (.bool v3)))) [] [], .as 15 false, .call false [] (.o (.c (.v (.bool v6)))) [] [], .as 20 false, .call false [] (.o (.c (.v (.bool v9)))) [] [], .as 25 true] [.sw 0 1000] [] [1000] (And.intro (And.intro (con_sw 1000 0 (impl_copyThings_ok a0 v1 h2)) (rfl : ([] : List Nat) = [])) (And.intro (impl_isThing_ok a0 a1 v3 h4) (And.intro h5 (And.intro (impl_isBox_ok a0 a2 v6 h7) (And.intro h8 (And.intro (impl_IsLocked_ok a0 a1 v9 h10) (And.intro h11 True.intro))))))) (by kernel_rfl)
      · obtain ⟨v12, h13, hM⟩ := bind_some hM
        rcases cond_cases hM with ⟨h14, hM⟩ | ⟨h14, hM⟩
        · have hE : some (v1, 2) = some r := hM
          have hE := Option.some.inj hE
          subst hE
          exact pr R 9999 [.call false [] (.o (.c (.sl 0))) [] [(0, .row 49 6 (v1.map Thing.enc))], .call false [] (.o (.c (.v (.bool v3)))) [] [], .as 15 false, .call false [] (.o (.c (.v (.bool v6)))) [] [], .as 20 false, .call false [] (.o (.c (.v (.bool v9)))) [] [], .as 25 false, .call false [] (.o (.c (.v (.bool v12)))) [] [], .as 30 true] [.sw 0 1000] [] [1000] (And.intro (And.intro (con_sw 1000 0 (impl_copyThings_ok a0 v1 h2)) (rfl : ([] : List Nat) = [])) (And.intro (impl_isThing_ok a0 a1 v3 h4) (And.intro h5 (And.intro (impl_isBox_ok a0 a2 v6 h7) (And.intro h8 (And.intro (impl_IsLocked_ok a0 a1 v9 h10) (And.intro h11 (And.intro (impl_IsLocked_ok a0 a2 v12 h13) (And.intro h14 True.intro))))))))) (by kernel_rfl)
        · obtain ⟨v15, h16, hM⟩ := bind_some hM
          obtain ⟨v17, h18, hM⟩ := bind_some hM
          rcases cond_cases hM with ⟨h19, hM⟩ | ⟨h19, hM⟩
          · have hE : some (v1, 2) = some r := hM
            have hE := Option.some.inj hE
            subst hE
            exact pr R 9999 [.call false [] (.o (.c (.sl 0))) [] [(0, .row 49 6 (v1.map Thing.enc))], .call false [] (.o (.c (.v (.bool v3)))) [] [], .as 15 false, .call false [] (.o (.c (.v (.bool v6)))) [] [], .as 20 false, .call false [] (.o (.c (.v (.bool v9)))) [] [], .as 25 false, .call false [] (.o (.c (.v (.bool v12)))) [] [], .as 30 false, .call false [] (.o (.c (.v (.int .i64 v15)))) [] [], .ix (Thing.enc v17), .as 38 true] [.sw 0 1000] [] [1000] (And.intro (And.intro (con_sw 1000 0 (impl_copyThings_ok a0 v1 h2)) (rfl : ([] : List Nat) = [])) (And.intro (impl_isThing_ok a0 a1 v3 h4) (And.intro h5 (And.intro (impl_isBox_ok a0 a2 v6 h7) (And.intro h8 (And.intro (impl_IsLocked_ok a0 a1 v9 h10) (And.intro h11 (And.intro (impl_IsLocked_ok a0 a2 v12 h13) (And.intro h14 (And.intro (impl_FindThing_ok a0 a2 v15 h16) (And.intro (gi_map Thing.enc h18) (And.intro h19 True.intro)))))))))))) (by kernel_rfl)
          · rcases cond_cases hM with ⟨h20, hM⟩ | ⟨h20, hM⟩
            · have hE : some (v1, 3) = some r := hM
              have hE := Option.some.inj hE
              subst hE
              exact pr R 9999 [.call false [] (.o (.c (.sl 0))) [] [(0, .row 49 6 (v1.map Thing.enc))], .call false [] (.o (.c (.v (.bool v3)))) [] [], .as 15 false, .call false [] (.o (.c (.v (.bool v6)))) [] [], .as 20 false, .call false [] (.o (.c (.v (.bool v9)))) [] [], .as 25 false, .call false [] (.o (.c (.v (.bool v12)))) [] [], .as 30 false, .call false [] (.o (.c (.v (.int .i64 v15)))) [] [], .ix (Thing.enc v17), .as 38 false, .as 43 true] [.sw 0 1000] [] [1000] (And.intro (And.intro (con_sw 1000 0 (impl_copyThings_ok a0 v1 h2)) (rfl : ([] : List Nat) = [])) (And.intro (impl_isThing_ok a0 a1 v3 h4) (And.intro h5 (And.intro (impl_isBox_ok a0 a2 v6 h7) (And.intro h8 (And.intro (impl_IsLocked_ok a0 a1 v9 h10) (And.intro h11 (And.intro (impl_IsLocked_ok a0 a2 v12 h13) (And.intro h14 (And.intro (impl_FindThing_ok a0 a2 v15 h16) (And.intro (gi_map Thing.enc h18) (And.intro h19 (And.intro h20 True.intro))))))))))))) (by kernel_rfl)
            · obtain ⟨v21, h22, hM⟩ := bind_some hM
              obtain ⟨v23, h24, hM⟩ := bind_some hM
              rcases cond_cases hM with ⟨h25, hM⟩ | ⟨h25, hM⟩
              · have hE : some (v1, 3) = some r := hM
                have hE := Option.some.inj hE
                subst hE
                exact pr R 9999 [.call false [] (.o (.c (.sl 0))) [] [(0, .row 49 6 (v1.map Thing.enc))], .call false [] (.o (.c (.v (.bool v3)))) [] [], .as 15 false, .call false [] (.o (.c (.v (.bool v6)))) [] [], .as 20 false, .call false [] (.o (.c (.v (.bool v9)))) [] [], .as 25 false, .call false [] (.o (.c (.v (.bool v12)))) [] [], .as 30 false, .call false [] (.o (.c (.v (.int .i64 v15)))) [] [], .ix (Thing.enc v17), .as 38 false, .as 43 false, .call false [] (.o (.c (.sl 1))) [] [(1, .row 3 1 (v21.map encI))], .call false [] (.o (.c (.v (.bool v23)))) [] [], .as 49 true] [.sw 0 1000] [] [1000] (And.intro (And.intro (con_sw 1000 0 (impl_copyThings_ok a0 v1 h2)) (rfl : ([] : List Nat) = [])) (And.intro (impl_isThing_ok a0 a1 v3 h4) (And.intro h5 (And.intro (impl_isBox_ok a0 a2 v6 h7) (And.intro h8 (And.intro (impl_IsLocked_ok a0 a1 v9 h10) (And.intro h11 (And.intro (impl_IsLocked_ok a0 a2 v12 h13) (And.intro h14 (And.intro (impl_FindThing_ok a0 a2 v15 h16) (And.intro (gi_map Thing.enc h18) (And.intro h19 (And.intro h20 (And.intro (And.intro (con_sw 1000 1 (impl_around_ok a0 a2 v21 h22)) (rfl : ([] : List Nat) = [])) (And.intro (impl_hasInt_ok v21 a1 v23 h24) (And.intro h25 True.intro)))))))))))))))) (by kernel_rfl)
              · obtain ⟨v26, h27, hM⟩ := bind_some hM
                obtain ⟨v28, h29, hM⟩ := bind_some hM
                obtain ⟨v30, h31, hM⟩ := bind_some hM
                rcases cond_cases hM with ⟨h32, hM⟩ | ⟨h32, hM⟩
                · obtain ⟨v33, h34, hM⟩ := bind_some hM
                  have hE : some (v33, 4) = some r := hM
                  have hE := Option.some.inj hE
                  subst hE
                  exact pr R 9999 [.call false [] (.o (.c (.sl 0))) [] [(0, .row 49 6 (v1.map Thing.enc))], .call false [] (.o (.c (.v (.bool v3)))) [] [], .as 15 false, .call false [] (.o (.c (.v (.bool v6)))) [] [], .as 20 false, .call false [] (.o (.c (.v (.bool v9)))) [] [], .as 25 false, .call false [] (.o (.c (.v (.bool v12)))) [] [], .as 30 false, .call false [] (.o (.c (.v (.int .i64 v15)))) [] [], .ix (Thing.enc v17), .as 38 false, .as 43 false, .call false [] (.o (.c (.sl 1))) [] [(1, .row 3 1 (v21.map encI))], .call false [] (.o (.c (.v (.bool v23)))) [] [], .as 49 false, .call false [] (.o (.c (.v (.int .i64 v26)))) [] [], .ix (Thing.enc v28), .nm ((List.set v1 (Int.toNat v26) (Thing.mk v28.Id v28.Own v28.Room a2 v28.Box v28.Sealed)).map Thing.enc), .call false [] (.o (.c (.v (.bool v30)))) [] [], .as 58 true, .call false [] (.o (.c (.sl 2))) [] [(2, .row 49 6 (v33.map Thing.enc))]] [.sw 2 1000] [] [1000] (And.intro (And.intro (con_sw 1000 0 (impl_copyThings_ok a0 v1 h2)) (rfl : ([] : List Nat) = [])) (And.intro (impl_isThing_ok a0 a1 v3 h4) (And.intro h5 (And.intro (impl_isBox_ok a0 a2 v6 h7) (And.intro h8 (And.intro (impl_IsLocked_ok a0 a1 v9 h10) (And.intro h11 (And.intro (impl_IsLocked_ok a0 a2 v12 h13) (And.intro h14 (And.intro (impl_FindThing_ok a0 a2 v15 h16) (And.intro (gi_map Thing.enc h18) (And.intro h19 (And.intro h20 (And.intro (And.intro (con_sw 1000 1 (impl_around_ok a0 a2 v21 h22)) (rfl : ([] : List Nat) = [])) (And.intro (impl_hasInt_ok v21 a1 v23 h24) (And.intro h25 (And.intro (impl_FindThing_ok a0 a1 v26 h27) (And.intro (gi_lt Thing.enc h29) (And.intro (And.intro (gi_map Thing.enc h29).2 (set_map Thing.enc v1 (Int.toNat v26) (Thing.mk v28.Id v28.Own v28.Room a2 v28.Box v28.Sealed))) (And.intro (impl_areDeep_ok (List.set v1 (Int.toNat v26) (Thing.mk v28.Id v28.Own v28.Room a2 v28.Box v28.Sealed)) v30 h31) (And.intro h32 (And.intro (And.intro (con_sw 1000 2 (impl_copyThings_ok a0 v33 h34)) (rfl : ([] : List Nat) = [])) True.intro)))))))))))))))))))))) (by kernel_rfl)
                · obtain ⟨v35, h36, hM⟩ := bind_some hM
                  rcases cond_cases hM with ⟨h37, hM⟩ | ⟨h37, hM⟩
                  · obtain ⟨v38, h39, hM⟩ := bind_some hM
                    have hE : some (v38, 5) = some r := hM
                    have hE := Option.some.inj hE
                    subst hE
                    exact pr R 9999 [.call false [] (.o (.c (.sl 0))) [] [(0, .row 49 6 (v1.map Thing.enc))], .call false [] (.o (.c (.v (.bool v3)))) [] [], .as 15 false, .call false [] (.o (.c (.v (.bool v6)))) [] [], .as 20 false, .call false [] (.o (.c (.v (.bool v9)))) [] [], .as 25 false, .call false [] (.o (.c (.v (.bool v12)))) [] [], .as 30 false, .call false [] (.o (.c (.v (.int .i64 v15)))) [] [], .ix (Thing.enc v17), .as 38 false, .as 43 false, .call false [] (.o (.c (.sl 1))) [] [(1, .row 3 1 (v21.map encI))], .call false [] (.o (.c (.v (.bool v23)))) [] [], .as 49 false, .call false [] (.o (.c (.v (.int .i64 v26)))) [] [], .ix (Thing.enc v28), .nm ((List.set v1 (Int.toNat v26) (Thing.mk v28.Id v28.Own v28.Room a2 v28.Box v28.Sealed)).map Thing.enc), .call false [] (.o (.c (.v (.bool v30)))) [] [], .as 58 false, .call false [] (.o (.c (.v (.bool v35)))) [] [], .as 64 true, .call false [] (.o (.c (.sl 3))) [] [(3, .row 49 6 (v38.map Thing.enc))]] [.sw 3 1000] [] [1000] (And.intro (And.intro (con_sw 1000 0 (impl_copyThings_ok a0 v1 h2)) (rfl : ([] : List Nat) = [])) (And.intro (impl_isThing_ok a0 a1 v3 h4) (And.intro h5 (And.intro (impl_isBox_ok a0 a2 v6 h7) (And.intro h8 (And.intro (impl_IsLocked_ok a0 a1 v9 h10) (And.intro h11 (And.intro (impl_IsLocked_ok a0 a2 v12 h13) (And.intro h14 (And.intro (impl_FindThing_ok a0 a2 v15 h16) (And.intro (gi_map Thing.enc h18) (And.intro h19 (And.intro h20 (And.intro (And.intro (con_sw 1000 1 (impl_around_ok a0 a2 v21 h22)) (rfl : ([] : List Nat) = [])) (And.intro (impl_hasInt_ok v21 a1 v23 h24) (And.intro h25 (And.intro (impl_FindThing_ok a0 a1 v26 h27) (And.intro (gi_lt Thing.enc h29) (And.intro (And.intro (gi_map Thing.enc h29).2 (set_map Thing.enc v1 (Int.toNat v26) (Thing.mk v28.Id v28.Own v28.Room a2 v28.Box v28.Sealed))) (And.intro (impl_areDeep_ok (List.set v1 (Int.toNat v26) (Thing.mk v28.Id v28.Own v28.Room a2 v28.Box v28.Sealed)) v30 h31) (And.intro h32 (And.intro (impl_AreThings_ok (List.set v1 (Int.toNat v26) (Thing.mk v28.Id v28.Own v28.Room a2 v28.Box v28.Sealed)) v35 h36) (And.intro h37 (And.intro (And.intro (con_sw 1000 3 (impl_copyThings_ok a0 v38 h39)) (rfl : ([] : List Nat) = [])) True.intro)))))))))))))))))))))))) (by kernel_rfl)
                  · have hE : some (List.set v1 (Int.toNat v26) (Thing.mk v28.Id v28.Own v28.Room a2 v28.Box v28.Sealed), 0) = some r := hM
                    have hE := Option.some.inj hE
                    subst hE
                    exact pr R 9999 [.call false [] (.o (.c (.sl 0))) [] [(0, .row 49 6 (v1.map Thing.enc))], .call false [] (.o (.c (.v (.bool v3)))) [] [], .as 15 false, .call false [] (.o (.c (.v (.bool v6)))) [] [], .as 20 false, .call false [] (.o (.c (.v (.bool v9)))) [] [], .as 25 false, .call false [] (.o (.c (.v (.bool v12)))) [] [], .as 30 false, .call false [] (.o (.c (.v (.int .i64 v15)))) [] [], .ix (Thing.enc v17), .as 38 false, .as 43 false, .call false [] (.o (.c (.sl 1))) [] [(1, .row 3 1 (v21.map encI))], .call false [] (.o (.c (.v (.bool v23)))) [] [], .as 49 false, .call false [] (.o (.c (.v (.int .i64 v26)))) [] [], .ix (Thing.enc v28), .nm ((List.set v1 (Int.toNat v26) (Thing.mk v28.Id v28.Own v28.Room a2 v28.Box v28.Sealed)).map Thing.enc), .call false [] (.o (.c (.v (.bool v30)))) [] [], .as 58 false, .call false [] (.o (.c (.v (.bool v35)))) [] [], .as 64 false] [.sw 0 1000] [] [1000] (And.intro (And.intro (con_sw 1000 0 (impl_copyThings_ok a0 v1 h2)) (rfl : ([] : List Nat) = [])) (And.intro (impl_isThing_ok a0 a1 v3 h4) (And.intro h5 (And.intro (impl_isBox_ok a0 a2 v6 h7) (And.intro h8 (And.intro (impl_IsLocked_ok a0 a1 v9 h10) (And.intro h11 (And.intro (impl_IsLocked_ok a0 a2 v12 h13) (And.intro h14 (And.intro (impl_FindThing_ok a0 a2 v15 h16) (And.intro (gi_map Thing.enc h18) (And.intro h19 (And.intro h20 (And.intro (And.intro (con_sw 1000 1 (impl_around_ok a0 a2 v21 h22)) (rfl : ([] : List Nat) = [])) (And.intro (impl_hasInt_ok v21 a1 v23 h24) (And.intro h25 (And.intro (impl_FindThing_ok a0 a1 v26 h27) (And.intro (gi_lt Thing.enc h29) (And.intro (And.intro (gi_map Thing.enc h29).2 (set_map Thing.enc v1 (Int.toNat v26) (Thing.mk v28.Id v28.Own v28.Room a2 v28.Box v28.Sealed))) (And.intro (impl_areDeep_ok (List.set v1 (Int.toNat v26) (Thing.mk v28.Id v28.Own v28.Room a2 v28.Box v28.Sealed)) v30 h31) (And.intro h32 (And.intro (impl_AreThings_ok (List.set v1 (Int.toNat v26) (Thing.mk v28.Id v28.Own v28.Room a2 v28.Box v28.Sealed)) v35 h36) (And.intro h37 True.intro))))))))))))))))))))))) (by kernel_rfl)

-- loop.example/g03014/laws.FnExactPutInto
def laws_FnExactPutInto (a0 : (List Thing)) (a1 : Int) (a2 : Int) : Option Bool :=
  (laws_szThingS a0 1048576).bind fun v1 =>
  bif (decide (v1 < 0)) then
  some true
  else
  (laws_toThingS a0).bind fun v4 =>
  (spec_PutInto v4 a1 a2).bind fun v6 =>
  (laws_toThingS a0).bind fun v8 =>
  (impl_PutInto v8 a1 a2).bind fun v10 =>
  (laws_eqThingS v10.1 v6.1).bind fun v12 =>
  bif (!v12) then
  some false
  else
  bif (v10.2 != v6.2) then
  some false
  else
  (laws_toThingS a0).bind fun v16 =>
  (laws_eqThingS v8 v16).bind fun v18 =>
  bif (!v18) then
  some false
  else
  (laws_markThingS v8 1).bind fun v21 =>
  bif (decide (v21.1 < 0)) then
  some false
  else
  (laws_eqThingS v10.1 v6.1).bind fun v24 =>
  bif (!v24) then
  some false
  else
  bif (v10.2 != v6.2) then
  some false
  else
  (laws_markThingS v10.1 1).bind fun v28 =>
  (laws_heldThingS v28.2 1).bind fun v30 =>
  bif (decide (v30 < 0)) then
  some false
  else
  bif (v30 != v28.1) then
  some false
  else
  (laws_toThingS a0).bind fun v34 =>
  (impl_PutInto v34 a1 a2).bind fun v36 =>
  (laws_eqThingS v36.1 v6.1).bind fun v38 =>
  bif (!v38) then
  some false
  else
  bif (v36.2 != v6.2) then
  some false
  else
  (laws_heldThingS v28.2 1).bind fun v42 =>
  bif (decide (v42 < 0)) then
  some false
  else
  bif (v42 != v28.1) then
  some false
  else
  some true
theorem laws_FnExactPutInto_ok (a0 : (List Thing)) (a1 : Int) (a2 : Int) (r : Bool) (hM : laws_FnExactPutInto a0 a1 a2 = some r) :
    Con Try.prog 14 [.c (.rs 6 (a0.map Thing.enc)), .c (.v (.int .i64 a1)), .c (.v (.int .i64 a2))] [] (.o (.c (.v (.bool r)))) [] [] := by
  unfold laws_FnExactPutInto at hM
  refine cn (N := 106) (pids := []) Try_mixed Try.func14 (by kernel_rfl) (by kernel_rfl) (by kernel_rfl) rfl fun ρ g w R => ?_
  obtain ⟨v1, h2, hM⟩ := bind_some hM
  rcases cond_cases hM with ⟨h3, hM⟩ | ⟨h3, hM⟩
  · have hE : some true = some r := hM
    have hE := Option.some.inj hE
    subst hE
    exact pr R 9999 [.call false [] (.o (.c (.v (.int .i64 v1)))) [] [], .as 22 true] [] [] [] (And.intro (laws_szThingS_ok a0 1048576 v1 h2) (And.intro h3 True.intro)) (by kernel_rfl)
  · obtain ⟨v4, h5, hM⟩ := bind_some hM
    obtain ⟨v6, h7, hM⟩ := bind_some hM
    obtain ⟨v8, h9, hM⟩ := bind_some hM
    obtain ⟨v10, h11, hM⟩ := bind_some hM
    obtain ⟨v12, h13, hM⟩ := bind_some hM
    rcases cond_cases hM with ⟨h14, hM⟩ | ⟨h14, hM⟩
    · have hE : some false = some r := hM
      have hE := Option.some.inj hE
      subst hE
      exact pr R 9999 [.call false [] (.o (.c (.v (.int .i64 v1)))) [] [], .as 22 false, .call false [] (.o (.c (.sl 0))) [] [(0, .row 49 6 (v4.map Thing.enc))], .call false [] (.tup [.c (.sl 1), .c (.v (.int .i64 v6.2))]) [] [(1, .row 49 6 (v6.1.map Thing.enc))], .call false [] (.o (.c (.sl 2))) [] [(2, .row 49 6 (v8.map Thing.enc))], .call false [] (.tup [.c (.sl 3), .c (.v (.int .i64 v10.2))]) [] [(3, .row 49 6 (v10.1.map Thing.enc))], .call false [] (.o (.c (.v (.bool v12)))) [] [], .as 44 true] [] [] [] (And.intro (laws_szThingS_ok a0 1048576 v1 h2) (And.intro h3 (And.intro (And.intro (con_sw 1000 0 (laws_toThingS_ok a0 v4 h5)) (rfl : ([] : List Nat) = [])) (And.intro (And.intro (con_sw 1000 1 (spec_PutInto_ok v4 a1 a2 v6 h7)) (rfl : ([] : List Nat) = [])) (And.intro (And.intro (con_sw 1000 2 (laws_toThingS_ok a0 v8 h9)) (rfl : ([] : List Nat) = [])) (And.intro (And.intro (con_sw 1000 3 (impl_PutInto_ok v8 a1 a2 v10 h11)) (rfl : ([] : List Nat) = [])) (And.intro (laws_eqThingS_ok v10.1 v6.1 v12 h13) (And.intro h14 True.intro)))))))) (by kernel_rfl)
    · rcases cond_cases hM with ⟨h15, hM⟩ | ⟨h15, hM⟩
      · have hE : some false = some r := hM
        have hE := Option.some.inj hE
        subst hE
        exact pr R 9999 [.call false [] (.o (.c (.v (.int .i64 v1)))) [] [], .as 22 false, .call false [] (.o (.c (.sl 0))) [] [(0, .row 49 6 (v4.map Thing.enc))], .call false [] (.tup [.c (.sl 1), .c (.v (.int .i64 v6.2))]) [] [(1, .row 49 6 (v6.1.map Thing.enc))], .call false [] (.o (.c (.sl 2))) [] [(2, .row 49 6 (v8.map Thing.enc))], .call false [] (.tup [.c (.sl 3), .c (.v (.int .i64 v10.2))]) [] [(3, .row 49 6 (v10.1.map Thing.enc))], .call false [] (.o (.c (.v (.bool v12)))) [] [], .as 44 false, .as 48 true] [] [] [] (And.intro (laws_szThingS_ok a0 1048576 v1 h2) (And.intro h3 (And.intro (And.intro (con_sw 1000 0 (laws_toThingS_ok a0 v4 h5)) (rfl : ([] : List Nat) = [])) (And.intro (And.intro (con_sw 1000 1 (spec_PutInto_ok v4 a1 a2 v6 h7)) (rfl : ([] : List Nat) = [])) (And.intro (And.intro (con_sw 1000 2 (laws_toThingS_ok a0 v8 h9)) (rfl : ([] : List Nat) = [])) (And.intro (And.intro (con_sw 1000 3 (impl_PutInto_ok v8 a1 a2 v10 h11)) (rfl : ([] : List Nat) = [])) (And.intro (laws_eqThingS_ok v10.1 v6.1 v12 h13) (And.intro h14 (And.intro h15 True.intro))))))))) (by kernel_rfl)
      · obtain ⟨v16, h17, hM⟩ := bind_some hM
        obtain ⟨v18, h19, hM⟩ := bind_some hM
        rcases cond_cases hM with ⟨h20, hM⟩ | ⟨h20, hM⟩
        · have hE : some false = some r := hM
          have hE := Option.some.inj hE
          subst hE
          exact pr R 9999 [.call false [] (.o (.c (.v (.int .i64 v1)))) [] [], .as 22 false, .call false [] (.o (.c (.sl 0))) [] [(0, .row 49 6 (v4.map Thing.enc))], .call false [] (.tup [.c (.sl 1), .c (.v (.int .i64 v6.2))]) [] [(1, .row 49 6 (v6.1.map Thing.enc))], .call false [] (.o (.c (.sl 2))) [] [(2, .row 49 6 (v8.map Thing.enc))], .call false [] (.tup [.c (.sl 3), .c (.v (.int .i64 v10.2))]) [] [(3, .row 49 6 (v10.1.map Thing.enc))], .call false [] (.o (.c (.v (.bool v12)))) [] [], .as 44 false, .as 48 false, .call false [] (.o (.c (.sl 4))) [] [(4, .row 49 6 (v16.map Thing.enc))], .call false [] (.o (.c (.v (.bool v18)))) [] [], .as 53 true] [] [] [] (And.intro (laws_szThingS_ok a0 1048576 v1 h2) (And.intro h3 (And.intro (And.intro (con_sw 1000 0 (laws_toThingS_ok a0 v4 h5)) (rfl : ([] : List Nat) = [])) (And.intro (And.intro (con_sw 1000 1 (spec_PutInto_ok v4 a1 a2 v6 h7)) (rfl : ([] : List Nat) = [])) (And.intro (And.intro (con_sw 1000 2 (laws_toThingS_ok a0 v8 h9)) (rfl : ([] : List Nat) = [])) (And.intro (And.intro (con_sw 1000 3 (impl_PutInto_ok v8 a1 a2 v10 h11)) (rfl : ([] : List Nat) = [])) (And.intro (laws_eqThingS_ok v10.1 v6.1 v12 h13) (And.intro h14 (And.intro h15 (And.intro (And.intro (con_sw 1000 4 (laws_toThingS_ok a0 v16 h17)) (rfl : ([] : List Nat) = [])) (And.intro (laws_eqThingS_ok v8 v16 v18 h19) (And.intro h20 True.intro)))))))))))) (by kernel_rfl)
        · obtain ⟨v21, h22, hM⟩ := bind_some hM
          rcases cond_cases hM with ⟨h23, hM⟩ | ⟨h23, hM⟩
          · have hE : some false = some r := hM
            have hE := Option.some.inj hE
            subst hE
            exact pr R 9999 [.call false [] (.o (.c (.v (.int .i64 v1)))) [] [], .as 22 false, .call false [] (.o (.c (.sl 0))) [] [(0, .row 49 6 (v4.map Thing.enc))], .call false [] (.tup [.c (.sl 1), .c (.v (.int .i64 v6.2))]) [] [(1, .row 49 6 (v6.1.map Thing.enc))], .call false [] (.o (.c (.sl 2))) [] [(2, .row 49 6 (v8.map Thing.enc))], .call false [] (.tup [.c (.sl 3), .c (.v (.int .i64 v10.2))]) [] [(3, .row 49 6 (v10.1.map Thing.enc))], .call false [] (.o (.c (.v (.bool v12)))) [] [], .as 44 false, .as 48 false, .call false [] (.o (.c (.sl 4))) [] [(4, .row 49 6 (v16.map Thing.enc))], .call false [] (.o (.c (.v (.bool v18)))) [] [], .as 53 false, .call false [2] (.o (.c (.v (.int .i64 v21.1)))) [(2, .row 49 6 (v21.2.map Thing.enc))] [], .as 59 true] [] [] [] (And.intro (laws_szThingS_ok a0 1048576 v1 h2) (And.intro h3 (And.intro (And.intro (con_sw 1000 0 (laws_toThingS_ok a0 v4 h5)) (rfl : ([] : List Nat) = [])) (And.intro (And.intro (con_sw 1000 1 (spec_PutInto_ok v4 a1 a2 v6 h7)) (rfl : ([] : List Nat) = [])) (And.intro (And.intro (con_sw 1000 2 (laws_toThingS_ok a0 v8 h9)) (rfl : ([] : List Nat) = [])) (And.intro (And.intro (con_sw 1000 3 (impl_PutInto_ok v8 a1 a2 v10 h11)) (rfl : ([] : List Nat) = [])) (And.intro (laws_eqThingS_ok v10.1 v6.1 v12 h13) (And.intro h14 (And.intro h15 (And.intro (And.intro (con_sw 1000 4 (laws_toThingS_ok a0 v16 h17)) (rfl : ([] : List Nat) = [])) (And.intro (laws_eqThingS_ok v8 v16 v18 h19) (And.intro h20 (And.intro (And.intro (con_sw 900 2 (laws_markThingS_ok v8 1 v21 h22)) (rfl : ([2] : List Nat) = [2])) (And.intro h23 True.intro)))))))))))))) (by kernel_rfl)
          · obtain ⟨v24, h25, hM⟩ := bind_some hM
            rcases cond_cases hM with ⟨h26, hM⟩ | ⟨h26, hM⟩
            · have hE : some false = some r := hM
              have hE := Option.some.inj hE
              subst hE
              exact pr R 9999 [.call false [] (.o (.c (.v (.int .i64 v1)))) [] [], .as 22 false, .call false [] (.o (.c (.sl 0))) [] [(0, .row 49 6 (v4.map Thing.enc))], .call false [] (.tup [.c (.sl 1), .c (.v (.int .i64 v6.2))]) [] [(1, .row 49 6 (v6.1.map Thing.enc))], .call false [] (.o (.c (.sl 2))) [] [(2, .row 49 6 (v8.map Thing.enc))], .call false [] (.tup [.c (.sl 3), .c (.v (.int .i64 v10.2))]) [] [(3, .row 49 6 (v10.1.map Thing.enc))], .call false [] (.o (.c (.v (.bool v12)))) [] [], .as 44 false, .as 48 false, .call false [] (.o (.c (.sl 4))) [] [(4, .row 49 6 (v16.map Thing.enc))], .call false [] (.o (.c (.v (.bool v18)))) [] [], .as 53 false, .call false [2] (.o (.c (.v (.int .i64 v21.1)))) [(2, .row 49 6 (v21.2.map Thing.enc))] [], .as 59 false, .call false [] (.o (.c (.v (.bool v24)))) [] [], .as 65 true] [] [] [] (And.intro (laws_szThingS_ok a0 1048576 v1 h2) (And.intro h3 (And.intro (And.intro (con_sw 1000 0 (laws_toThingS_ok a0 v4 h5)) (rfl : ([] : List Nat) = [])) (And.intro (And.intro (con_sw 1000 1 (spec_PutInto_ok v4 a1 a2 v6 h7)) (rfl : ([] : List Nat) = [])) (And.intro (And.intro (con_sw 1000 2 (laws_toThingS_ok a0 v8 h9)) (rfl : ([] : List Nat) = [])) (And.intro (And.intro (con_sw 1000 3 (impl_PutInto_ok v8 a1 a2 v10 h11)) (rfl : ([] : List Nat) = [])) (And.intro (laws_eqThingS_ok v10.1 v6.1 v12 h13) (And.intro h14 (And.intro h15 (And.intro (And.intro (con_sw 1000 4 (laws_toThingS_ok a0 v16 h17)) (rfl : ([] : List Nat) = [])) (And.intro (laws_eqThingS_ok v8 v16 v18 h19) (And.intro h20 (And.intro (And.intro (con_sw 900 2 (laws_markThingS_ok v8 1 v21 h22)) (rfl : ([2] : List Nat) = [2])) (And.intro h23 (And.intro (laws_eqThingS_ok v10.1 v6.1 v24 h25) (And.intro h26 True.intro)))))))))))))))) (by kernel_rfl)
            · rcases cond_cases hM with ⟨h27, hM⟩ | ⟨h27, hM⟩
              · have hE : some false = some r := hM
                have hE := Option.some.inj hE
                subst hE
                exact pr R 9999 [.call false [] (.o (.c (.v (.int .i64 v1)))) [] [], .as 22 false, .call false [] (.o (.c (.sl 0))) [] [(0, .row 49 6 (v4.map Thing.enc))], .call false [] (.tup [.c (.sl 1), .c (.v (.int .i64 v6.2))]) [] [(1, .row 49 6 (v6.1.map Thing.enc))], .call false [] (.o (.c (.sl 2))) [] [(2, .row 49 6 (v8.map Thing.enc))], .call false [] (.tup [.c (.sl 3), .c (.v (.int .i64 v10.2))]) [] [(3, .row 49 6 (v10.1.map Thing.enc))], .call false [] (.o (.c (.v (.bool v12)))) [] [], .as 44 false, .as 48 false, .call false [] (.o (.c (.sl 4))) [] [(4, .row 49 6 (v16.map Thing.enc))], .call false [] (.o (.c (.v (.bool v18)))) [] [], .as 53 false, .call false [2] (.o (.c (.v (.int .i64 v21.1)))) [(2, .row 49 6 (v21.2.map Thing.enc))] [], .as 59 false, .call false [] (.o (.c (.v (.bool v24)))) [] [], .as 65 false, .as 69 true] [] [] [] (And.intro (laws_szThingS_ok a0 1048576 v1 h2) (And.intro h3 (And.intro (And.intro (con_sw 1000 0 (laws_toThingS_ok a0 v4 h5)) (rfl : ([] : List Nat) = [])) (And.intro (And.intro (con_sw 1000 1 (spec_PutInto_ok v4 a1 a2 v6 h7)) (rfl : ([] : List Nat) = [])) (And.intro (And.intro (con_sw 1000 2 (laws_toThingS_ok a0 v8 h9)) (rfl : ([] : List Nat) = [])) (And.intro (And.intro (con_sw 1000 3 (impl_PutInto_ok v8 a1 a2 v10 h11)) (rfl : ([] : List Nat) = [])) (And.intro (laws_eqThingS_ok v10.1 v6.1 v12 h13) (And.intro h14 (And.intro h15 (And.intro (And.intro (con_sw 1000 4 (laws_toThingS_ok a0 v16 h17)) (rfl : ([] : List Nat) = [])) (And.intro (laws_eqThingS_ok v8 v16 v18 h19) (And.intro h20 (And.intro (And.intro (con_sw 900 2 (laws_markThingS_ok v8 1 v21 h22)) (rfl : ([2] : List Nat) = [2])) (And.intro h23 (And.intro (laws_eqThingS_ok v10.1 v6.1 v24 h25) (And.intro h26 (And.intro h27 True.intro))))))))))))))))) (by kernel_rfl)
              · obtain ⟨v28, h29, hM⟩ := bind_some hM
                obtain ⟨v30, h31, hM⟩ := bind_some hM
                rcases cond_cases hM with ⟨h32, hM⟩ | ⟨h32, hM⟩
                · have hE : some false = some r := hM
                  have hE := Option.some.inj hE
                  subst hE
                  exact pr R 9999 [.call false [] (.o (.c (.v (.int .i64 v1)))) [] [], .as 22 false, .call false [] (.o (.c (.sl 0))) [] [(0, .row 49 6 (v4.map Thing.enc))], .call false [] (.tup [.c (.sl 1), .c (.v (.int .i64 v6.2))]) [] [(1, .row 49 6 (v6.1.map Thing.enc))], .call false [] (.o (.c (.sl 2))) [] [(2, .row 49 6 (v8.map Thing.enc))], .call false [] (.tup [.c (.sl 3), .c (.v (.int .i64 v10.2))]) [] [(3, .row 49 6 (v10.1.map Thing.enc))], .call false [] (.o (.c (.v (.bool v12)))) [] [], .as 44 false, .as 48 false, .call false [] (.o (.c (.sl 4))) [] [(4, .row 49 6 (v16.map Thing.enc))], .call false [] (.o (.c (.v (.bool v18)))) [] [], .as 53 false, .call false [2] (.o (.c (.v (.int .i64 v21.1)))) [(2, .row 49 6 (v21.2.map Thing.enc))] [], .as 59 false, .call false [] (.o (.c (.v (.bool v24)))) [] [], .as 65 false, .as 69 false, .call false [3] (.o (.c (.v (.int .i64 v28.1)))) [(3, .row 49 6 (v28.2.map Thing.enc))] [], .call false [] (.o (.c (.v (.int .i64 v30)))) [] [], .as 77 true] [] [] [] (And.intro (laws_szThingS_ok a0 1048576 v1 h2) (And.intro h3 (And.intro (And.intro (con_sw 1000 0 (laws_toThingS_ok a0 v4 h5)) (rfl : ([] : List Nat) = [])) (And.intro (And.intro (con_sw 1000 1 (spec_PutInto_ok v4 a1 a2 v6 h7)) (rfl : ([] : List Nat) = [])) (And.intro (And.intro (con_sw 1000 2 (laws_toThingS_ok a0 v8 h9)) (rfl : ([] : List Nat) = [])) (And.intro (And.intro (con_sw 1000 3 (impl_PutInto_ok v8 a1 a2 v10 h11)) (rfl : ([] : List Nat) = [])) (And.intro (laws_eqThingS_ok v10.1 v6.1 v12 h13) (And.intro h14 (And.intro h15 (And.intro (And.intro (con_sw 1000 4 (laws_toThingS_ok a0 v16 h17)) (rfl : ([] : List Nat) = [])) (And.intro (laws_eqThingS_ok v8 v16 v18 h19) (And.intro h20 (And.intro (And.intro (con_sw 900 2 (laws_markThingS_ok v8 1 v21 h22)) (rfl : ([2] : List Nat) = [2])) (And.intro h23 (And.intro (laws_eqThingS_ok v10.1 v6.1 v24 h25) (And.intro h26 (And.intro h27 (And.intro (And.intro (con_sw 900 3 (laws_markThingS_ok v10.1 1 v28 h29)) (rfl : ([3] : List Nat) = [3])) (And.intro (laws_heldThingS_ok v28.2 1 v30 h31) (And.intro h32 True.intro)))))))))))))))))))) (by kernel_rfl)
                · rcases cond_cases hM with ⟨h33, hM⟩ | ⟨h33, hM⟩
                  · have hE : some false = some r := hM
                    have hE := Option.some.inj hE
                    subst hE
                    exact pr R 9999 [.call false [] (.o (.c (.v (.int .i64 v1)))) [] [], .as 22 false, .call false [] (.o (.c (.sl 0))) [] [(0, .row 49 6 (v4.map Thing.enc))], .call false [] (.tup [.c (.sl 1), .c (.v (.int .i64 v6.2))]) [] [(1, .row 49 6 (v6.1.map Thing.enc))], .call false [] (.o (.c (.sl 2))) [] [(2, .row 49 6 (v8.map Thing.enc))], .call false [] (.tup [.c (.sl 3), .c (.v (.int .i64 v10.2))]) [] [(3, .row 49 6 (v10.1.map Thing.enc))], .call false [] (.o (.c (.v (.bool v12)))) [] [], .as 44 false, .as 48 false, .call false [] (.o (.c (.sl 4))) [] [(4, .row 49 6 (v16.map Thing.enc))], .call false [] (.o (.c (.v (.bool v18)))) [] [], .as 53 false, .call false [2] (.o (.c (.v (.int .i64 v21.1)))) [(2, .row 49 6 (v21.2.map Thing.enc))] [], .as 59 false, .call false [] (.o (.c (.v (.bool v24)))) [] [], .as 65 false, .as 69 false, .call false [3] (.o (.c (.v (.int .i64 v28.1)))) [(3, .row 49 6 (v28.2.map Thing.enc))] [], .call false [] (.o (.c (.v (.int .i64 v30)))) [] [], .as 77 false, .as 80 true] [] [] [] (And.intro (laws_szThingS_ok a0 1048576 v1 h2) (And.intro h3 (And.intro (And.intro (con_sw 1000 0 (laws_toThingS_ok a0 v4 h5)) (rfl : ([] : List Nat) = [])) (And.intro (And.intro (con_sw 1000 1 (spec_PutInto_ok v4 a1 a2 v6 h7)) (rfl : ([] : List Nat) = [])) (And.intro (And.intro (con_sw 1000 2 (laws_toThingS_ok a0 v8 h9)) (rfl : ([] : List Nat) = [])) (And.intro (And.intro (con_sw 1000 3 (impl_PutInto_ok v8 a1 a2 v10 h11)) (rfl : ([] : List Nat) = [])) (And.intro (laws_eqThingS_ok v10.1 v6.1 v12 h13) (And.intro h14 (And.intro h15 (And.intro (And.intro (con_sw 1000 4 (laws_toThingS_ok a0 v16 h17)) (rfl : ([] : List Nat) = [])) (And.intro (laws_eqThingS_ok v8 v16 v18 h19) (And.intro h20 (And.intro (And.intro (con_sw 900 2 (laws_markThingS_ok v8 1 v21 h22)) (rfl : ([2] : List Nat) = [2])) (And.intro h23 (And.intro (laws_eqThingS_ok v10.1 v6.1 v24 h25) (And.intro h26 (And.intro h27 (And.intro (And.intro (con_sw 900 3 (laws_markThingS_ok v10.1 1 v28 h29)) (rfl : ([3] : List Nat) = [3])) (And.intro (laws_heldThingS_ok v28.2 1 v30 h31) (And.intro h32 (And.intro h33 True.intro))))))))))))))))))))) (by kernel_rfl)
                  · obtain ⟨v34, h35, hM⟩ := bind_some hM
                    obtain ⟨v36, h37, hM⟩ := bind_some hM
                    obtain ⟨v38, h39, hM⟩ := bind_some hM
                    rcases cond_cases hM with ⟨h40, hM⟩ | ⟨h40, hM⟩
                    · have hE : some false = some r := hM
                      have hE := Option.some.inj hE
                      subst hE
                      exact pr R 9999 [.call false [] (.o (.c (.v (.int .i64 v1)))) [] [], .as 22 false, .call false [] (.o (.c (.sl 0))) [] [(0, .row 49 6 (v4.map Thing.enc))], .call false [] (.tup [.c (.sl 1), .c (.v (.int .i64 v6.2))]) [] [(1, .row 49 6 (v6.1.map Thing.enc))], .call false [] (.o (.c (.sl 2))) [] [(2, .row 49 6 (v8.map Thing.enc))], .call false [] (.tup [.c (.sl 3), .c (.v (.int .i64 v10.2))]) [] [(3, .row 49 6 (v10.1.map Thing.enc))], .call false [] (.o (.c (.v (.bool v12)))) [] [], .as 44 false, .as 48 false, .call false [] (.o (.c (.sl 4))) [] [(4, .row 49 6 (v16.map Thing.enc))], .call false [] (.o (.c (.v (.bool v18)))) [] [], .as 53 false, .call false [2] (.o (.c (.v (.int .i64 v21.1)))) [(2, .row 49 6 (v21.2.map Thing.enc))] [], .as 59 false, .call false [] (.o (.c (.v (.bool v24)))) [] [], .as 65 false, .as 69 false, .call false [3] (.o (.c (.v (.int .i64 v28.1)))) [(3, .row 49 6 (v28.2.map Thing.enc))] [], .call false [] (.o (.c (.v (.int .i64 v30)))) [] [], .as 77 false, .as 80 false, .call false [] (.o (.c (.sl 5))) [] [(5, .row 49 6 (v34.map Thing.enc))], .call false [] (.tup [.c (.sl 6), .c (.v (.int .i64 v36.2))]) [] [(6, .row 49 6 (v36.1.map Thing.enc))], .call false [] (.o (.c (.v (.bool v38)))) [] [], .as 93 true] [] [] [] (And.intro (laws_szThingS_ok a0 1048576 v1 h2) (And.intro h3 (And.intro (And.intro (con_sw 1000 0 (laws_toThingS_ok a0 v4 h5)) (rfl : ([] : List Nat) = [])) (And.intro (And.intro (con_sw 1000 1 (spec_PutInto_ok v4 a1 a2 v6 h7)) (rfl : ([] : List Nat) = [])) (And.intro (And.intro (con_sw 1000 2 (laws_toThingS_ok a0 v8 h9)) (rfl : ([] : List Nat) = [])) (And.intro (And.intro (con_sw 1000 3 (impl_PutInto_ok v8 a1 a2 v10 h11)) (rfl : ([] : List Nat) = [])) (And.intro (laws_eqThingS_ok v10.1 v6.1 v12 h13) (And.intro h14 (And.intro h15 (And.intro (And.intro (con_sw 1000 4 (laws_toThingS_ok a0 v16 h17)) (rfl : ([] : List Nat) = [])) (And.intro (laws_eqThingS_ok v8 v16 v18 h19) (And.intro h20 (And.intro (And.intro (con_sw 900 2 (laws_markThingS_ok v8 1 v21 h22)) (rfl : ([2] : List Nat) = [2])) (And.intro h23 (And.intro (laws_eqThingS_ok v10.1 v6.1 v24 h25) (And.intro h26 (And.intro h27 (And.intro (And.intro (con_sw 900 3 (laws_markThingS_ok v10.1 1 v28 h29)) (rfl : ([3] : List Nat) = [3])) (And.intro (laws_heldThingS_ok v28.2 1 v30 h31) (And.intro h32 (And.intro h33 (And.intro (And.intro (con_sw 1000 5 (laws_toThingS_ok a0 v34 h35)) (rfl : ([] : List Nat) = [])) (And.intro (And.intro (con_sw 1000 6 (impl_PutInto_ok v34 a1 a2 v36 h37)) (rfl : ([] : List Nat) = [])) (And.intro (laws_eqThingS_ok v36.1 v6.1 v38 h39) (And.intro h40 True.intro))))))))))))))))))))))))) (by kernel_rfl)
                    · rcases cond_cases hM with ⟨h41, hM⟩ | ⟨h41, hM⟩
                      · have hE : some false = some r := hM
                        have hE := Option.some.inj hE
                        subst hE
                        exact pr R 9999 [.call false [] (.o (.c (.v (.int .i64 v1)))) [] [], .as 22 false, .call false [] (.o (.c (.sl 0))) [] [(0, .row 49 6 (v4.map Thing.enc))], .call false [] (.tup [.c (.sl 1), .c (.v (.int .i64 v6.2))]) [] [(1, .row 49 6 (v6.1.map Thing.enc))], .call false [] (.o (.c (.sl 2))) [] [(2, .row 49 6 (v8.map Thing.enc))], .call false [] (.tup [.c (.sl 3), .c (.v (.int .i64 v10.2))]) [] [(3, .row 49 6 (v10.1.map Thing.enc))], .call false [] (.o (.c (.v (.bool v12)))) [] [], .as 44 false, .as 48 false, .call false [] (.o (.c (.sl 4))) [] [(4, .row 49 6 (v16.map Thing.enc))], .call false [] (.o (.c (.v (.bool v18)))) [] [], .as 53 false, .call false [2] (.o (.c (.v (.int .i64 v21.1)))) [(2, .row 49 6 (v21.2.map Thing.enc))] [], .as 59 false, .call false [] (.o (.c (.v (.bool v24)))) [] [], .as 65 false, .as 69 false, .call false [3] (.o (.c (.v (.int .i64 v28.1)))) [(3, .row 49 6 (v28.2.map Thing.enc))] [], .call false [] (.o (.c (.v (.int .i64 v30)))) [] [], .as 77 false, .as 80 false, .call false [] (.o (.c (.sl 5))) [] [(5, .row 49 6 (v34.map Thing.enc))], .call false [] (.tup [.c (.sl 6), .c (.v (.int .i64 v36.2))]) [] [(6, .row 49 6 (v36.1.map Thing.enc))], .call false [] (.o (.c (.v (.bool v38)))) [] [], .as 93 false, .as 97 true] [] [] [] (And.intro (laws_szThingS_ok a0 1048576 v1 h2) (And.intro h3 (And.intro (And.intro (con_sw 1000 0 (laws_toThingS_ok a0 v4 h5)) (rfl : ([] : List Nat) = [])) (And.intro (And.intro (con_sw 1000 1 (spec_PutInto_ok v4 a1 a2 v6 h7)) (rfl : ([] : List Nat) = [])) (And.intro (And.intro (con_sw 1000 2 (laws_toThingS_ok a0 v8 h9)) (rfl : ([] : List Nat) = [])) (And.intro (And.intro (con_sw 1000 3 (impl_PutInto_ok v8 a1 a2 v10 h11)) (rfl : ([] : List Nat) = [])) (And.intro (laws_eqThingS_ok v10.1 v6.1 v12 h13) (And.intro h14 (And.intro h15 (And.intro (And.intro (con_sw 1000 4 (laws_toThingS_ok a0 v16 h17)) (rfl : ([] : List Nat) = [])) (And.intro (laws_eqThingS_ok v8 v16 v18 h19) (And.intro h20 (And.intro (And.intro (con_sw 900 2 (laws_markThingS_ok v8 1 v21 h22)) (rfl : ([2] : List Nat) = [2])) (And.intro h23 (And.intro (laws_eqThingS_ok v10.1 v6.1 v24 h25) (And.intro h26 (And.intro h27 (And.intro (And.intro (con_sw 900 3 (laws_markThingS_ok v10.1 1 v28 h29)) (rfl : ([3] : List Nat) = [3])) (And.intro (laws_heldThingS_ok v28.2 1 v30 h31) (And.intro h32 (And.intro h33 (And.intro (And.intro (con_sw 1000 5 (laws_toThingS_ok a0 v34 h35)) (rfl : ([] : List Nat) = [])) (And.intro (And.intro (con_sw 1000 6 (impl_PutInto_ok v34 a1 a2 v36 h37)) (rfl : ([] : List Nat) = [])) (And.intro (laws_eqThingS_ok v36.1 v6.1 v38 h39) (And.intro h40 (And.intro h41 True.intro)))))))))))))))))))))))))) (by kernel_rfl)
                      · obtain ⟨v42, h43, hM⟩ := bind_some hM
                        rcases cond_cases hM with ⟨h44, hM⟩ | ⟨h44, hM⟩
                        · have hE : some false = some r := hM
                          have hE := Option.some.inj hE
                          subst hE
                          exact pr R 9999 [.call false [] (.o (.c (.v (.int .i64 v1)))) [] [], .as 22 false, .call false [] (.o (.c (.sl 0))) [] [(0, .row 49 6 (v4.map Thing.enc))], .call false [] (.tup [.c (.sl 1), .c (.v (.int .i64 v6.2))]) [] [(1, .row 49 6 (v6.1.map Thing.enc))], .call false [] (.o (.c (.sl 2))) [] [(2, .row 49 6 (v8.map Thing.enc))], .call false [] (.tup [.c (.sl 3), .c (.v (.int .i64 v10.2))]) [] [(3, .row 49 6 (v10.1.map Thing.enc))], .call false [] (.o (.c (.v (.bool v12)))) [] [], .as 44 false, .as 48 false, .call false [] (.o (.c (.sl 4))) [] [(4, .row 49 6 (v16.map Thing.enc))], .call false [] (.o (.c (.v (.bool v18)))) [] [], .as 53 false, .call false [2] (.o (.c (.v (.int .i64 v21.1)))) [(2, .row 49 6 (v21.2.map Thing.enc))] [], .as 59 false, .call false [] (.o (.c (.v (.bool v24)))) [] [], .as 65 false, .as 69 false, .call false [3] (.o (.c (.v (.int .i64 v28.1)))) [(3, .row 49 6 (v28.2.map Thing.enc))] [], .call false [] (.o (.c (.v (.int .i64 v30)))) [] [], .as 77 false, .as 80 false, .call false [] (.o (.c (.sl 5))) [] [(5, .row 49 6 (v34.map Thing.enc))], .call false [] (.tup [.c (.sl 6), .c (.v (.int .i64 v36.2))]) [] [(6, .row 49 6 (v36.1.map Thing.enc))], .call false [] (.o (.c (.v (.bool v38)))) [] [], .as 93 false, .as 97 false, .call false [] (.o (.c (.v (.int .i64 v42)))) [] [], .as 102 true] [] [] [] (And.intro (laws_szThingS_ok a0 1048576 v1 h2) (And.intro h3 (And.intro (And.intro (con_sw 1000 0 (laws_toThingS_ok a0 v4 h5)) (rfl : ([] : List Nat) = [])) (And.intro (And.intro (con_sw 1000 1 (spec_PutInto_ok v4 a1 a2 v6 h7)) (rfl : ([] : List Nat) = [])) (And.intro (And.intro (con_sw 1000 2 (laws_toThingS_ok a0 v8 h9)) (rfl : ([] : List Nat) = [])) (And.intro (And.intro (con_sw 1000 3 (impl_PutInto_ok v8 a1 a2 v10 h11)) (rfl : ([] : List Nat) = [])) (And.intro (laws_eqThingS_ok v10.1 v6.1 v12 h13) (And.intro h14 (And.intro h15 (And.intro (And.intro (con_sw 1000 4 (laws_toThingS_ok a0 v16 h17)) (rfl : ([] : List Nat) = [])) (And.intro (laws_eqThingS_ok v8 v16 v18 h19) (And.intro h20 (And.intro (And.intro (con_sw 900 2 (laws_markThingS_ok v8 1 v21 h22)) (rfl : ([2] : List Nat) = [2])) (And.intro h23 (And.intro (laws_eqThingS_ok v10.1 v6.1 v24 h25) (And.intro h26 (And.intro h27 (And.intro (And.intro (con_sw 900 3 (laws_markThingS_ok v10.1 1 v28 h29)) (rfl : ([3] : List Nat) = [3])) (And.intro (laws_heldThingS_ok v28.2 1 v30 h31) (And.intro h32 (And.intro h33 (And.intro (And.intro (con_sw 1000 5 (laws_toThingS_ok a0 v34 h35)) (rfl : ([] : List Nat) = [])) (And.intro (And.intro (con_sw 1000 6 (impl_PutInto_ok v34 a1 a2 v36 h37)) (rfl : ([] : List Nat) = [])) (And.intro (laws_eqThingS_ok v36.1 v6.1 v38 h39) (And.intro h40 (And.intro h41 (And.intro (laws_heldThingS_ok v28.2 1 v42 h43) (And.intro h44 True.intro)))))))))))))))))))))))))))) (by kernel_rfl)
                        · rcases cond_cases hM with ⟨h45, hM⟩ | ⟨h45, hM⟩
                          · have hE : some false = some r := hM
                            have hE := Option.some.inj hE
                            subst hE
                            exact pr R 9999 [.call false [] (.o (.c (.v (.int .i64 v1)))) [] [], .as 22 false, .call false [] (.o (.c (.sl 0))) [] [(0, .row 49 6 (v4.map Thing.enc))], .call false [] (.tup [.c (.sl 1), .c (.v (.int .i64 v6.2))]) [] [(1, .row 49 6 (v6.1.map Thing.enc))], .call false [] (.o (.c (.sl 2))) [] [(2, .row 49 6 (v8.map Thing.enc))], .call false [] (.tup [.c (.sl 3), .c (.v (.int .i64 v10.2))]) [] [(3, .row 49 6 (v10.1.map Thing.enc))], .call false [] (.o (.c (.v (.bool v12)))) [] [], .as 44 false, .as 48 false, .call false [] (.o (.c (.sl 4))) [] [(4, .row 49 6 (v16.map Thing.enc))], .call false [] (.o (.c (.v (.bool v18)))) [] [], .as 53 false, .call false [2] (.o (.c (.v (.int .i64 v21.1)))) [(2, .row 49 6 (v21.2.map Thing.enc))] [], .as 59 false, .call false [] (.o (.c (.v (.bool v24)))) [] [], .as 65 false, .as 69 false, .call false [3] (.o (.c (.v (.int .i64 v28.1)))) [(3, .row 49 6 (v28.2.map Thing.enc))] [], .call false [] (.o (.c (.v (.int .i64 v30)))) [] [], .as 77 false, .as 80 false, .call false [] (.o (.c (.sl 5))) [] [(5, .row 49 6 (v34.map Thing.enc))], .call false [] (.tup [.c (.sl 6), .c (.v (.int .i64 v36.2))]) [] [(6, .row 49 6 (v36.1.map Thing.enc))], .call false [] (.o (.c (.v (.bool v38)))) [] [], .as 93 false, .as 97 false, .call false [] (.o (.c (.v (.int .i64 v42)))) [] [], .as 102 false, .as 105 true] [] [] [] (And.intro (laws_szThingS_ok a0 1048576 v1 h2) (And.intro h3 (And.intro (And.intro (con_sw 1000 0 (laws_toThingS_ok a0 v4 h5)) (rfl : ([] : List Nat) = [])) (And.intro (And.intro (con_sw 1000 1 (spec_PutInto_ok v4 a1 a2 v6 h7)) (rfl : ([] : List Nat) = [])) (And.intro (And.intro (con_sw 1000 2 (laws_toThingS_ok a0 v8 h9)) (rfl : ([] : List Nat) = [])) (And.intro (And.intro (con_sw 1000 3 (impl_PutInto_ok v8 a1 a2 v10 h11)) (rfl : ([] : List Nat) = [])) (And.intro (laws_eqThingS_ok v10.1 v6.1 v12 h13) (And.intro h14 (And.intro h15 (And.intro (And.intro (con_sw 1000 4 (laws_toThingS_ok a0 v16 h17)) (rfl : ([] : List Nat) = [])) (And.intro (laws_eqThingS_ok v8 v16 v18 h19) (And.intro h20 (And.intro (And.intro (con_sw 900 2 (laws_markThingS_ok v8 1 v21 h22)) (rfl : ([2] : List Nat) = [2])) (And.intro h23 (And.intro (laws_eqThingS_ok v10.1 v6.1 v24 h25) (And.intro h26 (And.intro h27 (And.intro (And.intro (con_sw 900 3 (laws_markThingS_ok v10.1 1 v28 h29)) (rfl : ([3] : List Nat) = [3])) (And.intro (laws_heldThingS_ok v28.2 1 v30 h31) (And.intro h32 (And.intro h33 (And.intro (And.intro (con_sw 1000 5 (laws_toThingS_ok a0 v34 h35)) (rfl : ([] : List Nat) = [])) (And.intro (And.intro (con_sw 1000 6 (impl_PutInto_ok v34 a1 a2 v36 h37)) (rfl : ([] : List Nat) = [])) (And.intro (laws_eqThingS_ok v36.1 v6.1 v38 h39) (And.intro h40 (And.intro h41 (And.intro (laws_heldThingS_ok v28.2 1 v42 h43) (And.intro h44 (And.intro h45 True.intro))))))))))))))))))))))))))))) (by kernel_rfl)
                          · have hE : some true = some r := hM
                            have hE := Option.some.inj hE
                            subst hE
                            exact pr R 9999 [.call false [] (.o (.c (.v (.int .i64 v1)))) [] [], .as 22 false, .call false [] (.o (.c (.sl 0))) [] [(0, .row 49 6 (v4.map Thing.enc))], .call false [] (.tup [.c (.sl 1), .c (.v (.int .i64 v6.2))]) [] [(1, .row 49 6 (v6.1.map Thing.enc))], .call false [] (.o (.c (.sl 2))) [] [(2, .row 49 6 (v8.map Thing.enc))], .call false [] (.tup [.c (.sl 3), .c (.v (.int .i64 v10.2))]) [] [(3, .row 49 6 (v10.1.map Thing.enc))], .call false [] (.o (.c (.v (.bool v12)))) [] [], .as 44 false, .as 48 false, .call false [] (.o (.c (.sl 4))) [] [(4, .row 49 6 (v16.map Thing.enc))], .call false [] (.o (.c (.v (.bool v18)))) [] [], .as 53 false, .call false [2] (.o (.c (.v (.int .i64 v21.1)))) [(2, .row 49 6 (v21.2.map Thing.enc))] [], .as 59 false, .call false [] (.o (.c (.v (.bool v24)))) [] [], .as 65 false, .as 69 false, .call false [3] (.o (.c (.v (.int .i64 v28.1)))) [(3, .row 49 6 (v28.2.map Thing.enc))] [], .call false [] (.o (.c (.v (.int .i64 v30)))) [] [], .as 77 false, .as 80 false, .call false [] (.o (.c (.sl 5))) [] [(5, .row 49 6 (v34.map Thing.enc))], .call false [] (.tup [.c (.sl 6), .c (.v (.int .i64 v36.2))]) [] [(6, .row 49 6 (v36.1.map Thing.enc))], .call false [] (.o (.c (.v (.bool v38)))) [] [], .as 93 false, .as 97 false, .call false [] (.o (.c (.v (.int .i64 v42)))) [] [], .as 102 false, .as 105 false] [] [] [] (And.intro (laws_szThingS_ok a0 1048576 v1 h2) (And.intro h3 (And.intro (And.intro (con_sw 1000 0 (laws_toThingS_ok a0 v4 h5)) (rfl : ([] : List Nat) = [])) (And.intro (And.intro (con_sw 1000 1 (spec_PutInto_ok v4 a1 a2 v6 h7)) (rfl : ([] : List Nat) = [])) (And.intro (And.intro (con_sw 1000 2 (laws_toThingS_ok a0 v8 h9)) (rfl : ([] : List Nat) = [])) (And.intro (And.intro (con_sw 1000 3 (impl_PutInto_ok v8 a1 a2 v10 h11)) (rfl : ([] : List Nat) = [])) (And.intro (laws_eqThingS_ok v10.1 v6.1 v12 h13) (And.intro h14 (And.intro h15 (And.intro (And.intro (con_sw 1000 4 (laws_toThingS_ok a0 v16 h17)) (rfl : ([] : List Nat) = [])) (And.intro (laws_eqThingS_ok v8 v16 v18 h19) (And.intro h20 (And.intro (And.intro (con_sw 900 2 (laws_markThingS_ok v8 1 v21 h22)) (rfl : ([2] : List Nat) = [2])) (And.intro h23 (And.intro (laws_eqThingS_ok v10.1 v6.1 v24 h25) (And.intro h26 (And.intro h27 (And.intro (And.intro (con_sw 900 3 (laws_markThingS_ok v10.1 1 v28 h29)) (rfl : ([3] : List Nat) = [3])) (And.intro (laws_heldThingS_ok v28.2 1 v30 h31) (And.intro h32 (And.intro h33 (And.intro (And.intro (con_sw 1000 5 (laws_toThingS_ok a0 v34 h35)) (rfl : ([] : List Nat) = [])) (And.intro (And.intro (con_sw 1000 6 (impl_PutInto_ok v34 a1 a2 v36 h37)) (rfl : ([] : List Nat) = [])) (And.intro (laws_eqThingS_ok v36.1 v6.1 v38 h39) (And.intro h40 (And.intro h41 (And.intro (laws_heldThingS_ok v28.2 1 v42 h43) (And.intro h44 (And.intro h45 True.intro))))))))))))))))))))))))))))) (by kernel_rfl)

-- loop.example/g03014/laws.big
def laws_big (a0 : (List Int)) : Option Bool :=
  some (decide ((a0.length : Int) > 4096))
theorem laws_big_ok (a0 : (List Int)) (r : Bool) (hM : laws_big a0 = some r) :
    Con Try.prog 54 [.c (.rs 1 (a0.map encU8))] [] (.o (.c (.v (.bool r)))) [] [] := by
  unfold laws_big at hM
  refine cn (N := 6) (pids := []) Try_mixed Try.func54 (by kernel_rfl) (by kernel_rfl) (by kernel_rfl) rfl fun ρ g w R => ?_
  have hE : some (decide ((a0.length : Int) > 4096)) = some r := hM
  have hE := Option.some.inj hE
  subst hE
  exact pr R 9999 [.ln (a0.length)] [] [] [] (And.intro (lenm encU8 a0) True.intro) (by kernel_rfl)

-- loop.example/g03014/laws.has
def laws_has_L1_b (a0 : (List Int)) (a1 : Int) (s1 : Int) : Option (Ctl Int Unit Bool) :=
  bif (decide (s1 < (a0.length : Int))) then
  (gi a0 s1).bind fun v3 =>
  bif (v3 == a1) then
  some (.ret true)
  else
  some (.next (w64 (s1 + 1)))
  else
  some (.brk ())
def laws_has_L1 (a0 : (List Int)) (a1 : Int) (s : Int) : Option (Ctl Int Unit Bool) := laws_has_L1_b a0 a1 s
def laws_has_L1_s (a0 : (List Int)) (a1 : Int) (s1 : Int) : St := ⟨[(0, .o (.c (.rs 1 (a0.map encI)))), (1, .o (.c (.v (.int .i64 a1)))), (5, .o (.c (.v (.int .i64 s1))))], []⟩
def laws_has_L1_S (a0 : (List Int)) (a1 : Int) (s : Int) : St := laws_has_L1_s a0 a1 s
def laws_has_L1_a : Option Bool :=
  some false
def laws_has_L1_k (x : (Unit) ⊕ (Bool)) : Option Bool := match x with
  | .inl t => laws_has_L1_a
  | .inr y => some y
def laws_has (a0 : (List Int)) (a1 : Int) : Option Bool :=
  (loopM (laws_has_L1 a0 a1) big 0).bind (laws_has_L1_k)
theorem laws_has_ok (a0 : (List Int)) (a1 : Int) (r : Bool) (hM : laws_has a0 a1 = some r) :
    Con Try.prog 56 [.c (.rs 1 (a0.map encI)), .c (.v (.int .i64 a1))] [] (.o (.c (.v (.bool r)))) [] [] := by
  unfold laws_has at hM
  refine cn (N := 18) (pids := []) Try_mixed Try.func56 (by kernel_rfl) (by kernel_rfl) (by kernel_rfl) rfl fun ρ g w R => ?_
  have K1 : ∀ (_ : Unit), laws_has_L1_a = some r → Gr R [.code (cAt Try.f56 [1, 1])] (⟨[], []⟩) := by
    intro _ hM
    unfold laws_has_L1_a at hM
    have hE : some false = some r := hM
    have hE := Option.some.inj hE
    subst hE
    exact pr R 9999 [] [] [] [] True.intro (by kernel_rfl)
  refine pc R 9999 [] [.keep [0, 1, 5] []] (k' := [.code (.loop (cAt Try.f56 [1, 0, 1, 0, 0])), .blk 0, .code (cAt Try.f56 [1, 1])]) (S' := laws_has_L1_S a0 a1 0) True.intro (by kernel_rfl) ?_
  refine lq (laws_has_L1_S a0 a1) (body := laws_has_L1 a0 a1) (k := laws_has_L1_k) hM fun m1 s c1 hM hK1 => ?_
  obtain ⟨s1, hs⟩ : ∃ z, z = s := ⟨_, rfl⟩
  subst hs
  have hM : laws_has_L1_b a0 a1 s1 = some c1 := hM
  unfold laws_has_L1_b at hM
  rcases cond_cases hM with ⟨h2, hM⟩ | ⟨h2, hM⟩
  · obtain ⟨v3, h4, hM⟩ := bind_some hM
    rcases cond_cases hM with ⟨h5, hM⟩ | ⟨h5, hM⟩
    · have hE : some (Ctl.ret true) = some c1 := hM
      have hE := Option.some.inj hE
      subst hE
      have hE : some true = some r := hK1
      have hE := Option.some.inj hE
      subst hE
      exact pr R 9999 [.ln (a0.length), .as 9 true, .ix (encI v3), .as 17 true] [] [] [] (And.intro (lenm encI a0) (And.intro h2 (And.intro (gi_map encI h4) (And.intro h5 True.intro)))) (by kernel_rfl)
    · have hE : some (Ctl.next (w64 (s1 + 1))) = some c1 := hM
      have hE := Option.some.inj hE
      subst hE
      exact pc R 9999 [.ln (a0.length), .as 9 true, .ix (encI v3), .as 17 false] [.keep [0, 1, 5] []] (And.intro (lenm encI a0) (And.intro h2 (And.intro (gi_map encI h4) (And.intro h5 True.intro)))) (by kernel_rfl) (li (Sf := laws_has_L1_S a0 a1) (M := Mk (laws_has_L1 a0 a1) (laws_has_L1_k) r) (k := [.blk 0, .code (cAt Try.f56 [1, 1])]) (Nat.lt_succ_self m1) hK1)
  · have hE : some (Ctl.brk ()) = some c1 := hM
    have hE := Option.some.inj hE
    subst hE
    exact pc R 5 [.ln (a0.length), .as 9 false] [.keep [] []] (And.intro (lenm encI a0) (And.intro h2 True.intro)) (by kernel_rfl) (K1 () hK1)

-- loop.example/g03014/laws.things
def laws_things_L1_b (a0 : (List Thing)) (a1 : (List Thing)) (s2 : Int) : Option (Ctl Int Unit Bool) :=
  bif (decide (s2 < (a0.length : Int))) then
  (gi a0 s2).bind fun v4 =>
  (gi a1 s2).bind fun v6 =>
  bif (!decide (v4 = v6)) then
  some (.ret false)
  else
  some (.next (w64 (s2 + 1)))
  else
  some (.brk ())
def laws_things_L1 (a0 : (List Thing)) (a1 : (List Thing)) (s : Int) : Option (Ctl Int Unit Bool) := laws_things_L1_b a0 a1 s
def laws_things_L1_s (a0 : (List Thing)) (a1 : (List Thing)) (s2 : Int) : St := ⟨[(0, .o (.c (.rs 6 (a0.map Thing.enc)))), (1, .o (.c (.rs 6 (a1.map Thing.enc)))), (5, .o (.c (.v (.int .i64 s2))))], []⟩
def laws_things_L1_S (a0 : (List Thing)) (a1 : (List Thing)) (s : Int) : St := laws_things_L1_s a0 a1 s
def laws_things_L1_a : Option Bool :=
  some true
def laws_things_L1_k (x : (Unit) ⊕ (Bool)) : Option Bool := match x with
  | .inl t => laws_things_L1_a
  | .inr y => some y
def laws_things (a0 : (List Thing)) (a1 : (List Thing)) : Option Bool :=
  bif ((a0.length : Int) != (a1.length : Int)) then
  some false
  else
  (loopM (laws_things_L1 a0 a1) big 0).bind (laws_things_L1_k)
theorem laws_things_ok (a0 : (List Thing)) (a1 : (List Thing)) (r : Bool) (hM : laws_things a0 a1 = some r) :
    Con Try.prog 58 [.c (.rs 6 (a0.map Thing.enc)), .c (.rs 6 (a1.map Thing.enc))] [] (.o (.c (.v (.bool r)))) [] [] := by
  unfold laws_things at hM
  refine cn (N := 26) (pids := []) Try_mixed Try.func58 (by kernel_rfl) (by kernel_rfl) (by kernel_rfl) rfl fun ρ g w R => ?_
  rcases cond_cases hM with ⟨h1, hM⟩ | ⟨h1, hM⟩
  · have hE : some false = some r := hM
    have hE := Option.some.inj hE
    subst hE
    exact pr R 9999 [.ln (a0.length), .ln (a1.length), .as 10 true] [] [] [] (And.intro (lenm Thing.enc a0) (And.intro (lenm Thing.enc a1) (And.intro h1 True.intro))) (by kernel_rfl)
  · have K1 : ∀ (_ : Unit), laws_things_L1_a = some r → Gr R [.code (cAt Try.f58 [1, 1, 1])] (⟨[], []⟩) := by
      intro _ hM
      unfold laws_things_L1_a at hM
      have hE : some true = some r := hM
      have hE := Option.some.inj hE
      subst hE
      exact pr R 9999 [] [] [] [] True.intro (by kernel_rfl)
    refine pc R 9999 [.ln (a0.length), .ln (a1.length), .as 10 false] [.keep [0, 1, 5] []] (k' := [.code (.loop (cAt Try.f58 [1, 1, 0, 1, 0, 0])), .blk 0, .code (cAt Try.f58 [1, 1, 1])]) (S' := laws_things_L1_S a0 a1 0) (And.intro (lenm Thing.enc a0) (And.intro (lenm Thing.enc a1) (And.intro h1 True.intro))) (by kernel_rfl) ?_
    refine lq (laws_things_L1_S a0 a1) (body := laws_things_L1 a0 a1) (k := laws_things_L1_k) hM fun m1 s c1 hM hK1 => ?_
    obtain ⟨s2, hs⟩ : ∃ z, z = s := ⟨_, rfl⟩
    subst hs
    have hM : laws_things_L1_b a0 a1 s2 = some c1 := hM
    unfold laws_things_L1_b at hM
    rcases cond_cases hM with ⟨h3, hM⟩ | ⟨h3, hM⟩
    · obtain ⟨v4, h5, hM⟩ := bind_some hM
      obtain ⟨v6, h7, hM⟩ := bind_some hM
      rcases cond_cases hM with ⟨h8, hM⟩ | ⟨h8, hM⟩
      · have hE : some (Ctl.ret false) = some c1 := hM
        have hE := Option.some.inj hE
        subst hE
        have hE : some false = some r := hK1
        have hE := Option.some.inj hE
        subst hE
        exact pr R 9999 [.ln (a0.length), .as 14 true, .ix (Thing.enc v4), .ix (Thing.enc v6), .run 25 (.bool (!decide (v4 = v6))), .as 25 true] [] [] [] (And.intro (lenm Thing.enc a0) (And.intro h3 (And.intro (gi_map Thing.enc h5) (And.intro (gi_map Thing.enc h7) (And.intro (Thing_neq49 v4 v6) (And.intro h8 True.intro)))))) (by kernel_rfl)
      · have hE : some (Ctl.next (w64 (s2 + 1))) = some c1 := hM
        have hE := Option.some.inj hE
        subst hE
        exact pc R 9999 [.ln (a0.length), .as 14 true, .ix (Thing.enc v4), .ix (Thing.enc v6), .run 25 (.bool (!decide (v4 = v6))), .as 25 false] [.keep [0, 1, 5] []] (And.intro (lenm Thing.enc a0) (And.intro h3 (And.intro (gi_map Thing.enc h5) (And.intro (gi_map Thing.enc h7) (And.intro (Thing_neq49 v4 v6) (And.intro h8 True.intro)))))) (by kernel_rfl) (li (Sf := laws_things_L1_S a0 a1) (M := Mk (laws_things_L1 a0 a1) (laws_things_L1_k) r) (k := [.blk 0, .code (cAt Try.f58 [1, 1, 1])]) (Nat.lt_succ_self m1) hK1)
    · have hE : some (Ctl.brk ()) = some c1 := hM
      have hE := Option.some.inj hE
      subst hE
      exact pc R 5 [.ln (a0.length), .as 14 false] [.keep [] []] (And.intro (lenm Thing.enc a0) (And.intro h3 True.intro)) (by kernel_rfl) (K1 () hK1)

-- loop.example/g03014/laws.at
def laws_at (a0 : (List Int)) (a1 : Int) : Option Int :=
  bif (decide (a1 ≥ (a0.length : Int))) then
  some 0
  else
  (gi a0 a1).bind fun v2 =>
  some (w64 v2)
theorem laws_at_ok (a0 : (List Int)) (a1 : Int) (r : Int) (hM : laws_at a0 a1 = some r) :
    Con Try.prog 60 [.c (.rs 1 (a0.map encU8)), .c (.v (.int .i64 a1))] [] (.o (.c (.v (.int .i64 r)))) [] [] := by
  unfold laws_at at hM
  refine cn (N := 14) (pids := []) Try_mixed Try.func60 (by kernel_rfl) (by kernel_rfl) (by kernel_rfl) rfl fun ρ g w R => ?_
  rcases cond_cases hM with ⟨h1, hM⟩ | ⟨h1, hM⟩
  · have hE : some 0 = some r := hM
    have hE := Option.some.inj hE
    subst hE
    exact pr R 9999 [.ln (a0.length), .as 8 true] [] [] [] (And.intro (lenm encU8 a0) (And.intro h1 True.intro)) (by kernel_rfl)
  · obtain ⟨v2, h3, hM⟩ := bind_some hM
    have hE : some (w64 v2) = some r := hM
    have hE := Option.some.inj hE
    subst hE
    exact pr R 9999 [.ln (a0.length), .as 8 false, .ix (encU8 v2)] [] [] [] (And.intro (lenm encU8 a0) (And.intro h1 (And.intro (gi_map encU8 h3) True.intro))) (by kernel_rfl)

-- loop.example/g03014/laws.toIntS
def laws_toIntS_L1_b (a0 : (List Int)) (s3 : (List Int)) (s4 : Int) : Option (Ctl ((List Int) × Int) (List Int) (List Int)) :=
  bif (decide (s4 < (a0.length : Int))) then
  (gi a0 s4).bind fun v7 =>
  (gi s3 s4).bind fun v9 =>
  some (.next (List.set s3 (Int.toNat s4) v7, w64 (s4 + 1)))
  else
  some (.brk s3)
def laws_toIntS_L1 (a0 : (List Int)) (s : (List Int) × Int) : Option (Ctl ((List Int) × Int) (List Int) (List Int)) := laws_toIntS_L1_b a0 s.1 s.2
def laws_toIntS_L1_s (a0 : (List Int)) (s3 : (List Int)) (s4 : Int) : St := ⟨[(0, .o (.c (.rs 1 (a0.map encI)))), (3, .o (.c (.sl 0))), (4, .o (.c (.v (.int .i64 s4))))], [(0, .row 3 1 (s3.map encI))]⟩
def laws_toIntS_L1_S (a0 : (List Int)) (s : (List Int) × Int) : St := laws_toIntS_L1_s a0 s.1 s.2
def laws_toIntS_L1_a (s5 : (List Int)) : Option (List Int) :=
  some s5
def laws_toIntS_L1_k (x : ((List Int)) ⊕ ((List Int))) : Option (List Int) := match x with
  | .inl t => laws_toIntS_L1_a t
  | .inr y => some y
def laws_toIntS (a0 : (List Int)) : Option (List Int) :=
  ((mkM 8 (a0.length : Int) : Option (List Int))).bind fun v1 =>
  (loopM (laws_toIntS_L1 a0) big (v1, 0)).bind (laws_toIntS_L1_k)
theorem laws_toIntS_ok (a0 : (List Int)) (r : (List Int)) (hM : laws_toIntS a0 = some r) :
    Con Try.prog 64 [.c (.rs 1 (a0.map encI))] [] (.o (.c (.sl 1000))) [] [(1000, .row 3 1 (r.map encI))] := by
  unfold laws_toIntS at hM
  refine cn (N := 22) (pids := []) Try_mixed Try.func64 (by kernel_rfl) (by kernel_rfl) (by kernel_rfl) rfl fun ρ g w R => ?_
  obtain ⟨v1, h2, hM⟩ := bind_some hM
  have K1 : ∀ (s5 : (List Int)), laws_toIntS_L1_a s5 = some r → Gr R [.code (cAt Try.f64 [1, 1, 1])] (⟨[(3, .o (.c (.sl 0)))], [(0, .row 3 1 (s5.map encI))]⟩) := by
    intro s5 hM
    unfold laws_toIntS_L1_a at hM
    have hE : some s5 = some r := hM
    have hE := Option.some.inj hE
    subst hE
    exact pr R 9999 [] [.sw 0 1000] [] [1000] True.intro (by kernel_rfl)
  refine pc R 9999 [.ln (a0.length), .new 0, .nm (v1.map encI)] [.keep [0, 3, 4] [0]] (k' := [.code (.loop (cAt Try.f64 [1, 1, 0, 1, 0, 0])), .blk 0, .code (cAt Try.f64 [1, 1, 1])]) (S' := laws_toIntS_L1_S a0 (v1, 0)) (And.intro (lenm encI a0) (And.intro (mkM_ok encI h2) True.intro)) (by kernel_rfl) ?_
  refine lq (laws_toIntS_L1_S a0) (body := laws_toIntS_L1 a0) (k := laws_toIntS_L1_k) hM fun m1 s c1 hM hK1 => ?_
  obtain ⟨s3, s4⟩ := s
  have hM : laws_toIntS_L1_b a0 s3 s4 = some c1 := hM
  unfold laws_toIntS_L1_b at hM
  rcases cond_cases hM with ⟨h6, hM⟩ | ⟨h6, hM⟩
  · obtain ⟨v7, h8, hM⟩ := bind_some hM
    obtain ⟨v9, h10, hM⟩ := bind_some hM
    have hE : some (Ctl.next (List.set s3 (Int.toNat s4) v7, w64 (s4 + 1))) = some c1 := hM
    have hE := Option.some.inj hE
    subst hE
    exact pc R 9999 [.ln (a0.length), .as 11 true, .ix (encI v7), .ix (encI v9), .nm ((List.set s3 (Int.toNat s4) v7).map encI)] [.keep [0, 3, 4] [0]] (And.intro (lenm encI a0) (And.intro h6 (And.intro (gi_map encI h8) (And.intro (gi_lt encI h10) (And.intro (And.intro (gi_map encI h10).2 (set_map encI s3 (Int.toNat s4) v7)) True.intro))))) (by kernel_rfl) (li (Sf := laws_toIntS_L1_S a0) (M := Mk (laws_toIntS_L1 a0) (laws_toIntS_L1_k) r) (k := [.blk 0, .code (cAt Try.f64 [1, 1, 1])]) (Nat.lt_succ_self m1) hK1)
  · have hE : some (Ctl.brk s3) = some c1 := hM
    have hE := Option.some.inj hE
    subst hE
    exact pc R 5 [.ln (a0.length), .as 11 false] [.keep [3] [0]] (And.intro (lenm encI a0) (And.intro h6 True.intro)) (by kernel_rfl) (K1 s3 hK1)

-- loop.example/g03014/impl.first
def impl_first_L1_b (a0 : (List Int)) (s1 : Int) : Option (Ctl Int Unit Int) :=
  bif (decide (s1 < (a0.length : Int))) then
  (gi a0 s1).bind fun v3 =>
  bif (v3 != 0) then
  some (.ret v3)
  else
  some (.next (w64 (s1 + 1)))
  else
  some (.brk ())
def impl_first_L1 (a0 : (List Int)) (s : Int) : Option (Ctl Int Unit Int) := impl_first_L1_b a0 s
def impl_first_L1_s (a0 : (List Int)) (s1 : Int) : St := ⟨[(5, .o (.c (.rs 1 (a0.map encI)))), (6, .o (.c (.v (.int .i64 (a0.length : Int))))), (7, .o (.c (.v (.int .i64 s1))))], []⟩
def impl_first_L1_S (a0 : (List Int)) (s : Int) : St := impl_first_L1_s a0 s
def impl_first_L1_a : Option Int :=
  some 0
def impl_first_L1_k (x : (Unit) ⊕ (Int)) : Option Int := match x with
  | .inl t => impl_first_L1_a
  | .inr y => some y
def impl_first (a0 : (List Int)) : Option Int :=
  (loopM (impl_first_L1 a0) big 0).bind (impl_first_L1_k)
theorem impl_first_ok (a0 : (List Int)) (r : Int) (hM : impl_first a0 = some r) :
    Con Try.prog 89 [.c (.rs 1 (a0.map encI))] [] (.o (.c (.v (.int .i64 r)))) [] [] := by
  unfold impl_first at hM
  refine cn (N := 15) (pids := []) Try_mixed Try.func89 (by kernel_rfl) (by kernel_rfl) (by kernel_rfl) rfl fun ρ g w R => ?_
  have K1 : ∀ (_ : Unit), impl_first_L1_a = some r → Gr R [.code (cAt Try.f89 [1, 1])] (⟨[], []⟩) := by
    intro _ hM
    unfold impl_first_L1_a at hM
    have hE : some 0 = some r := hM
    have hE := Option.some.inj hE
    subst hE
    exact pr R 9999 [] [] [] [] True.intro (by kernel_rfl)
  refine pc R 9999 [.ln (a0.length)] [.keep [5, 6, 7] []] (k' := [.code (.loop (cAt Try.f89 [1, 0, 1, 0, 0])), .blk 0, .code (cAt Try.f89 [1, 1])]) (S' := impl_first_L1_S a0 0) (And.intro (lenm encI a0) True.intro) (by kernel_rfl) ?_
  refine lq (impl_first_L1_S a0) (body := impl_first_L1 a0) (k := impl_first_L1_k) hM fun m1 s c1 hM hK1 => ?_
  obtain ⟨s1, hs⟩ : ∃ z, z = s := ⟨_, rfl⟩
  subst hs
  have hM : impl_first_L1_b a0 s1 = some c1 := hM
  unfold impl_first_L1_b at hM
  rcases cond_cases hM with ⟨h2, hM⟩ | ⟨h2, hM⟩
  · obtain ⟨v3, h4, hM⟩ := bind_some hM
    rcases cond_cases hM with ⟨h5, hM⟩ | ⟨h5, hM⟩
    · have hE : some (Ctl.ret v3) = some c1 := hM
      have hE := Option.some.inj hE
      subst hE
      have hE : some v3 = some r := hK1
      have hE := Option.some.inj hE
      subst hE
      exact pr R 9999 [.as 8 true, .ix (encI v3), .as 12 true] [] [] [] (And.intro h2 (And.intro (gi_map encI h4) (And.intro h5 True.intro))) (by kernel_rfl)
    · have hE : some (Ctl.next (w64 (s1 + 1))) = some c1 := hM
      have hE := Option.some.inj hE
      subst hE
      exact pc R 9999 [.as 8 true, .ix (encI v3), .as 12 false] [.keep [5, 6, 7] []] (And.intro h2 (And.intro (gi_map encI h4) (And.intro h5 True.intro))) (by kernel_rfl) (li (Sf := impl_first_L1_S a0) (M := Mk (impl_first_L1 a0) (impl_first_L1_k) r) (k := [.blk 0, .code (cAt Try.f89 [1, 1])]) (Nat.lt_succ_self m1) hK1)
  · have hE : some (Ctl.brk ()) = some c1 := hM
    have hE := Option.some.inj hE
    subst hE
    exact pc R 5 [.as 8 false] [.keep [] []] (And.intro h2 True.intro) (by kernel_rfl) (K1 () hK1)

-- loop.example/g03014/impl.compareInts
def impl_compareInts (a0 : Int) (a1 : Int) : Option Int :=
  bif (decide (a0 < a1)) then
  some (-1)
  else
  bif (decide (a0 > a1)) then
  some 1
  else
  some 0
theorem impl_compareInts_ok (a0 : Int) (a1 : Int) (r : Int) (hM : impl_compareInts a0 a1 = some r) :
    Con Try.prog 90 [.c (.v (.int .i64 a0)), .c (.v (.int .i64 a1))] [] (.o (.c (.v (.int .i64 r)))) [] [] := by
  unfold impl_compareInts at hM
  refine cn (N := 13) (pids := []) Try_mixed Try.func90 (by kernel_rfl) (by kernel_rfl) (by kernel_rfl) rfl fun ρ g w R => ?_
  rcases cond_cases hM with ⟨h1, hM⟩ | ⟨h1, hM⟩
  · have hE : some (-1) = some r := hM
    have hE := Option.some.inj hE
    subst hE
    exact pr R 9999 [.as 5 true] [] [] [] (And.intro h1 True.intro) (by kernel_rfl)
  · rcases cond_cases hM with ⟨h2, hM⟩ | ⟨h2, hM⟩
    · have hE : some 1 = some r := hM
      have hE := Option.some.inj hE
      subst hE
      exact pr R 9999 [.as 5 false, .as 9 true] [] [] [] (And.intro h1 (And.intro h2 True.intro)) (by kernel_rfl)
    · have hE : some 0 = some r := hM
      have hE := Option.some.inj hE
      subst hE
      exact pr R 9999 [.as 5 false, .as 9 false] [] [] [] (And.intro h1 (And.intro h2 True.intro)) (by kernel_rfl)
end Go.Sx
