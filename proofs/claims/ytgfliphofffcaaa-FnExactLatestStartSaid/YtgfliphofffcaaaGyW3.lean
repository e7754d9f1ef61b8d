/- The functions of the program as plain Lean, and that each runs so (printed by wip/gen). -/
import Derived.Test.YtgfliphofffcaaaGyW2
namespace Go.Sx
open Go.Proofs
set_option linter.unusedVariables false

-- loop.example/g03014/laws.FnExactChoicesOf
def laws_FnExactChoicesOf_x1 (a0 : Network) (a1 : ByteArray) (a2 : ByteArray) (a3 : Int) (v8 : (List Choice)) (v10 : Network) (v12 : (List Choice)) (v19 : Bool) : St := ⟨[(1, .o (.c (.v (.string a1)))), (2, .o (.c (.v (.string a2)))), (3, .o (.c (.v (.int .i64 a3)))), (4, .o (.c (.ptr 0 0))), (10, .o (.c (.sl 3))), (11, .o (.c (.ptr 6 0))), (12, .o (.c (.sl 7))), (49, .o (.c (.v (.bool (!v19)))))], [(0, .box 25 [.rs 6 (a0.Legs.map Leg.enc), .rs 1 (a0.Off.map encI), .v (.int .i64 a0.Change)]), (3, .row 114 2 (v8.map Choice.enc)), (6, .box 32 [.sl 4, .sl 5, .v (.int .i64 v10.Change)]), (4, .row 77 6 (v10.Legs.map Leg.enc)), (5, .row 3 1 (v10.Off.map encI)), (7, .row 114 2 (v12.map Choice.enc))]⟩
def laws_FnExactChoicesOf (a0 : Network) (a1 : ByteArray) (a2 : ByteArray) (a3 : Int) : Option Bool :=
  bif (decide ((a1.size : Int) > 1048576)) then
  some true
  else
  bif (decide ((a2.size : Int) > 1048576)) then
  some true
  else
  (laws_szNetwork a0 1048576).bind fun v3 =>
  bif (decide (v3 < 0)) then
  some true
  else
  (laws_toNetwork a0).bind fun v6 =>
  (spec_ChoicesOf v6 a1 a2 a3).bind fun v8 =>
  (laws_toNetwork a0).bind fun v10 =>
  (impl_ChoicesOf v10 a1 a2 a3).bind fun v12 =>
  (laws_eqChoiceS v12 v8).bind fun v14 =>
  bif (!v14) then
  some false
  else
  (laws_toNetwork a0).bind fun v17 =>
  (laws_eqNetwork v10 v17).bind fun v19 =>
  bif (!v19) then
  some false
  else
  (laws_markNetwork v10 1).bind fun v22 =>
  bif (decide (v22.1 < 0)) then
  some false
  else
  (laws_eqChoiceS v12 v8).bind fun v25 =>
  bif (!v25) then
  some false
  else
  (laws_markChoiceS v12 1).bind fun v28 =>
  (laws_heldChoiceS v28.2 1).bind fun v30 =>
  bif (decide (v30 < 0)) then
  some false
  else
  bif (v30 != v28.1) then
  some false
  else
  (laws_toNetwork a0).bind fun v34 =>
  (impl_ChoicesOf v34 a1 a2 a3).bind fun v36 =>
  (laws_eqChoiceS v36 v8).bind fun v38 =>
  bif (!v38) then
  some false
  else
  (laws_heldChoiceS v28.2 1).bind fun v41 =>
  bif (decide (v41 < 0)) then
  some false
  else
  bif (v41 != v28.1) then
  some false
  else
  some true
theorem laws_FnExactChoicesOf_ok (a0 : Network) (a1 : ByteArray) (a2 : ByteArray) (a3 : Int) (r : Bool) (hM : laws_FnExactChoicesOf a0 a1 a2 a3 = some r) :
    Con Try.prog 12 [.agg [.rs 6 (a0.Legs.map Leg.enc), .rs 1 (a0.Off.map encI), .v (.int .i64 a0.Change)], .c (.v (.string a1)), .c (.v (.string a2)), .c (.v (.int .i64 a3))] [] (.o (.c (.v (.bool r)))) [] [] := by
  unfold laws_FnExactChoicesOf at hM
  refine cn (N := 90) (pids := []) Try_mixed Try.func12 (by kernel_rfl) (by kernel_rfl) (by kernel_rfl) rfl fun ρ g w R => ?_
  rcases cond_cases hM with ⟨h1, hM⟩ | ⟨h1, hM⟩
  · have hE : some true = some r := hM
    have hE := Option.some.inj hE
    subst hE
    exact pr R 9999 [.new 0, .as 19 true] [] [] [] (And.intro h1 True.intro) (by kernel_rfl)
  · rcases cond_cases hM with ⟨h2, hM⟩ | ⟨h2, hM⟩
    · have hE : some true = some r := hM
      have hE := Option.some.inj hE
      subst hE
      exact pr R 9999 [.new 0, .as 19 false, .as 22 true] [] [] [] (And.intro h1 (And.intro h2 True.intro)) (by kernel_rfl)
    · obtain ⟨v3, h4, hM⟩ := bind_some hM
      rcases cond_cases hM with ⟨h5, hM⟩ | ⟨h5, hM⟩
      · have hE : some true = some r := hM
        have hE := Option.some.inj hE
        subst hE
        exact pr R 9999 [.new 0, .as 19 false, .as 22 false, .call false [] (.o (.c (.v (.int .i64 v3)))) [] [], .as 27 true] [] [] [] (And.intro h1 (And.intro h2 (And.intro (laws_szNetwork_ok a0 1048576 v3 h4) (And.intro h5 True.intro)))) (by kernel_rfl)
      · obtain ⟨v6, h7, hM⟩ := bind_some hM
        obtain ⟨v8, h9, hM⟩ := bind_some hM
        obtain ⟨v10, h11, hM⟩ := bind_some hM
        obtain ⟨v12, h13, hM⟩ := bind_some hM
        obtain ⟨v14, h15, hM⟩ := bind_some hM
        rcases cond_cases hM with ⟨h16, hM⟩ | ⟨h16, hM⟩
        · have hE : some false = some r := hM
          have hE := Option.some.inj hE
          subst hE
          exact pr R 9999 [.new 0, .as 19 false, .as 22 false, .call false [] (.o (.c (.v (.int .i64 v3)))) [] [], .as 27 false, .call false [] (.o (.agg [.sl 1, .sl 2, .v (.int .i64 v6.Change)])) [] [(1, .row 77 6 (v6.Legs.map Leg.enc)), (2, .row 3 1 (v6.Off.map encI))], .call false [] (.o (.c (.sl 3))) [] [(3, .row 114 2 (v8.map Choice.enc))], .call false [] (.o (.agg [.sl 4, .sl 5, .v (.int .i64 v10.Change)])) [] [(4, .row 77 6 (v10.Legs.map Leg.enc)), (5, .row 3 1 (v10.Off.map encI))], .new 6, .call false [] (.o (.c (.sl 7))) [] [(7, .row 114 2 (v12.map Choice.enc))], .call false [] (.o (.c (.v (.bool v14)))) [] [], .as 44 true] [] [] [] (And.intro h1 (And.intro h2 (And.intro (laws_szNetwork_ok a0 1048576 v3 h4) (And.intro h5 (And.intro (And.intro (con_sw 1001 2 (con_sw 1000 1 (laws_toNetwork_ok a0 v6 h7))) (rfl : ([] : List Nat) = [])) (And.intro (And.intro (con_sw 1000 3 (spec_ChoicesOf_ok v6 a1 a2 a3 v8 h9)) (rfl : ([] : List Nat) = [])) (And.intro (And.intro (con_sw 1001 5 (con_sw 1000 4 (laws_toNetwork_ok a0 v10 h11))) (rfl : ([] : List Nat) = [])) (And.intro (And.intro (con_sw 1000 7 (impl_ChoicesOf_ok v10 a1 a2 a3 v12 h13)) (rfl : ([] : List Nat) = [])) (And.intro (laws_eqChoiceS_ok v12 v8 v14 h15) (And.intro h16 True.intro)))))))))) (by kernel_rfl)
        · obtain ⟨v17, h18, hM⟩ := bind_some hM
          obtain ⟨v19, h20, hM⟩ := bind_some hM
          rcases cond_cases hM with ⟨h21, hM⟩ | ⟨h21, hM⟩
          · have hE : some false = some r := hM
            have hE := Option.some.inj hE
            subst hE
            exact pr R 9999 [.new 0, .as 19 false, .as 22 false, .call false [] (.o (.c (.v (.int .i64 v3)))) [] [], .as 27 false, .call false [] (.o (.agg [.sl 1, .sl 2, .v (.int .i64 v6.Change)])) [] [(1, .row 77 6 (v6.Legs.map Leg.enc)), (2, .row 3 1 (v6.Off.map encI))], .call false [] (.o (.c (.sl 3))) [] [(3, .row 114 2 (v8.map Choice.enc))], .call false [] (.o (.agg [.sl 4, .sl 5, .v (.int .i64 v10.Change)])) [] [(4, .row 77 6 (v10.Legs.map Leg.enc)), (5, .row 3 1 (v10.Off.map encI))], .new 6, .call false [] (.o (.c (.sl 7))) [] [(7, .row 114 2 (v12.map Choice.enc))], .call false [] (.o (.c (.v (.bool v14)))) [] [], .as 44 false, .xo [[], [], [.call false [] (.o (.agg [.sl 8, .sl 9, .v (.int .i64 v17.Change)])) [] [(8, .row 77 6 (v17.Legs.map Leg.enc)), (9, .row 3 1 (v17.Off.map encI))]], [.call false [] (.o (.c (.v (.bool v19)))) [] []], []] [.keep [1, 2, 3, 4, 10, 11, 12, 49] [0, 3, 6, 4, 5, 7]] (laws_FnExactChoicesOf_x1 a0 a1 a2 a3 v8 v10 v12 v19), .as 49 true] [] [] [] (And.intro h1 (And.intro h2 (And.intro (laws_szNetwork_ok a0 1048576 v3 h4) (And.intro h5 (And.intro (And.intro (con_sw 1001 2 (con_sw 1000 1 (laws_toNetwork_ok a0 v6 h7))) (rfl : ([] : List Nat) = [])) (And.intro (And.intro (con_sw 1000 3 (spec_ChoicesOf_ok v6 a1 a2 a3 v8 h9)) (rfl : ([] : List Nat) = [])) (And.intro (And.intro (con_sw 1001 5 (con_sw 1000 4 (laws_toNetwork_ok a0 v10 h11))) (rfl : ([] : List Nat) = [])) (And.intro (And.intro (con_sw 1000 7 (impl_ChoicesOf_ok v10 a1 a2 a3 v12 h13)) (rfl : ([] : List Nat) = [])) (And.intro (laws_eqChoiceS_ok v12 v8 v14 h15) (And.intro h16 (And.intro (And.intro (con_sw 1001 9 (con_sw 1000 8 (laws_toNetwork_ok a0 v17 h18))) (rfl : ([] : List Nat) = [])) (And.intro (laws_eqNetwork_ok v10 v17 v19 h20) (And.intro (rfl : (laws_FnExactChoicesOf_x1 a0 a1 a2 a3 v8 v10 v12 v19) = (laws_FnExactChoicesOf_x1 a0 a1 a2 a3 v8 v10 v12 v19)) (And.intro (And.intro (con_sw 1001 9 (con_sw 1000 8 (laws_toNetwork_ok a0 v17 h18))) (rfl : ([] : List Nat) = [])) (And.intro (laws_eqNetwork_ok v10 v17 v19 h20) (And.intro (rfl : (laws_FnExactChoicesOf_x1 a0 a1 a2 a3 v8 v10 v12 v19) = (laws_FnExactChoicesOf_x1 a0 a1 a2 a3 v8 v10 v12 v19)) (And.intro (And.intro (con_sw 1001 9 (con_sw 1000 8 (laws_toNetwork_ok a0 v17 h18))) (rfl : ([] : List Nat) = [])) (And.intro (laws_eqNetwork_ok v10 v17 v19 h20) (And.intro (rfl : (laws_FnExactChoicesOf_x1 a0 a1 a2 a3 v8 v10 v12 v19) = (laws_FnExactChoicesOf_x1 a0 a1 a2 a3 v8 v10 v12 v19)) (And.intro h21 True.intro)))))))))))))))))))) (by kernel_rfl)
          · obtain ⟨v22, h23, hM⟩ := bind_some hM
            rcases cond_cases hM with ⟨h24, hM⟩ | ⟨h24, hM⟩
            · have hE : some false = some r := hM
              have hE := Option.some.inj hE
              subst hE
              exact pr R 9999 [.new 0, .as 19 false, .as 22 false, .call false [] (.o (.c (.v (.int .i64 v3)))) [] [], .as 27 false, .call false [] (.o (.agg [.sl 1, .sl 2, .v (.int .i64 v6.Change)])) [] [(1, .row 77 6 (v6.Legs.map Leg.enc)), (2, .row 3 1 (v6.Off.map encI))], .call false [] (.o (.c (.sl 3))) [] [(3, .row 114 2 (v8.map Choice.enc))], .call false [] (.o (.agg [.sl 4, .sl 5, .v (.int .i64 v10.Change)])) [] [(4, .row 77 6 (v10.Legs.map Leg.enc)), (5, .row 3 1 (v10.Off.map encI))], .new 6, .call false [] (.o (.c (.sl 7))) [] [(7, .row 114 2 (v12.map Choice.enc))], .call false [] (.o (.c (.v (.bool v14)))) [] [], .as 44 false, .xo [[], [], [.call false [] (.o (.agg [.sl 8, .sl 9, .v (.int .i64 v17.Change)])) [] [(8, .row 77 6 (v17.Legs.map Leg.enc)), (9, .row 3 1 (v17.Off.map encI))]], [.call false [] (.o (.c (.v (.bool v19)))) [] []], []] [.keep [1, 2, 3, 4, 10, 11, 12, 49] [0, 3, 6, 4, 5, 7]] (laws_FnExactChoicesOf_x1 a0 a1 a2 a3 v8 v10 v12 v19), .as 49 false, .ad (.keep [1, 2, 3, 4, 10, 11, 12, 13, 49, 50, 51] [4, 5, 0, 3, 6, 7]), .call false [4, 5] (.o (.c (.v (.int .i64 v22.1)))) [(4, .row 77 6 (v22.2.Legs.map Leg.enc)), (5, .row 3 1 (v22.2.Off.map encI))] [], .as 55 true] [] [] [] (And.intro h1 (And.intro h2 (And.intro (laws_szNetwork_ok a0 1048576 v3 h4) (And.intro h5 (And.intro (And.intro (con_sw 1001 2 (con_sw 1000 1 (laws_toNetwork_ok a0 v6 h7))) (rfl : ([] : List Nat) = [])) (And.intro (And.intro (con_sw 1000 3 (spec_ChoicesOf_ok v6 a1 a2 a3 v8 h9)) (rfl : ([] : List Nat) = [])) (And.intro (And.intro (con_sw 1001 5 (con_sw 1000 4 (laws_toNetwork_ok a0 v10 h11))) (rfl : ([] : List Nat) = [])) (And.intro (And.intro (con_sw 1000 7 (impl_ChoicesOf_ok v10 a1 a2 a3 v12 h13)) (rfl : ([] : List Nat) = [])) (And.intro (laws_eqChoiceS_ok v12 v8 v14 h15) (And.intro h16 (And.intro (And.intro (con_sw 1001 9 (con_sw 1000 8 (laws_toNetwork_ok a0 v17 h18))) (rfl : ([] : List Nat) = [])) (And.intro (laws_eqNetwork_ok v10 v17 v19 h20) (And.intro (rfl : (laws_FnExactChoicesOf_x1 a0 a1 a2 a3 v8 v10 v12 v19) = (laws_FnExactChoicesOf_x1 a0 a1 a2 a3 v8 v10 v12 v19)) (And.intro (And.intro (con_sw 1001 9 (con_sw 1000 8 (laws_toNetwork_ok a0 v17 h18))) (rfl : ([] : List Nat) = [])) (And.intro (laws_eqNetwork_ok v10 v17 v19 h20) (And.intro (rfl : (laws_FnExactChoicesOf_x1 a0 a1 a2 a3 v8 v10 v12 v19) = (laws_FnExactChoicesOf_x1 a0 a1 a2 a3 v8 v10 v12 v19)) (And.intro (And.intro (con_sw 1001 9 (con_sw 1000 8 (laws_toNetwork_ok a0 v17 h18))) (rfl : ([] : List Nat) = [])) (And.intro (laws_eqNetwork_ok v10 v17 v19 h20) (And.intro (rfl : (laws_FnExactChoicesOf_x1 a0 a1 a2 a3 v8 v10 v12 v19) = (laws_FnExactChoicesOf_x1 a0 a1 a2 a3 v8 v10 v12 v19)) (And.intro h21 (And.intro (And.intro (con_sw 920 5 (con_sw 900 4 (laws_markNetwork_ok v10 1 v22 h23))) (rfl : ([4, 5] : List Nat) = [4, 5])) (And.intro h24 True.intro)))))))))))))))))))))) (by kernel_rfl)
            · obtain ⟨v25, h26, hM⟩ := bind_some hM
              rcases cond_cases hM with ⟨h27, hM⟩ | ⟨h27, hM⟩
              · have hE : some false = some r := hM
                have hE := Option.some.inj hE
                subst hE
                exact pr R 9999 [.new 0, .as 19 false, .as 22 false, .call false [] (.o (.c (.v (.int .i64 v3)))) [] [], .as 27 false, .call false [] (.o (.agg [.sl 1, .sl 2, .v (.int .i64 v6.Change)])) [] [(1, .row 77 6 (v6.Legs.map Leg.enc)), (2, .row 3 1 (v6.Off.map encI))], .call false [] (.o (.c (.sl 3))) [] [(3, .row 114 2 (v8.map Choice.enc))], .call false [] (.o (.agg [.sl 4, .sl 5, .v (.int .i64 v10.Change)])) [] [(4, .row 77 6 (v10.Legs.map Leg.enc)), (5, .row 3 1 (v10.Off.map encI))], .new 6, .call false [] (.o (.c (.sl 7))) [] [(7, .row 114 2 (v12.map Choice.enc))], .call false [] (.o (.c (.v (.bool v14)))) [] [], .as 44 false, .xo [[], [], [.call false [] (.o (.agg [.sl 8, .sl 9, .v (.int .i64 v17.Change)])) [] [(8, .row 77 6 (v17.Legs.map Leg.enc)), (9, .row 3 1 (v17.Off.map encI))]], [.call false [] (.o (.c (.v (.bool v19)))) [] []], []] [.keep [1, 2, 3, 4, 10, 11, 12, 49] [0, 3, 6, 4, 5, 7]] (laws_FnExactChoicesOf_x1 a0 a1 a2 a3 v8 v10 v12 v19), .as 49 false, .ad (.keep [1, 2, 3, 4, 10, 11, 12, 13, 49, 50, 51] [4, 5, 0, 3, 6, 7]), .call false [4, 5] (.o (.c (.v (.int .i64 v22.1)))) [(4, .row 77 6 (v22.2.Legs.map Leg.enc)), (5, .row 3 1 (v22.2.Off.map encI))] [], .as 55 false, .call false [] (.o (.c (.v (.bool v25)))) [] [], .as 60 true] [] [] [] (And.intro h1 (And.intro h2 (And.intro (laws_szNetwork_ok a0 1048576 v3 h4) (And.intro h5 (And.intro (And.intro (con_sw 1001 2 (con_sw 1000 1 (laws_toNetwork_ok a0 v6 h7))) (rfl : ([] : List Nat) = [])) (And.intro (And.intro (con_sw 1000 3 (spec_ChoicesOf_ok v6 a1 a2 a3 v8 h9)) (rfl : ([] : List Nat) = [])) (And.intro (And.intro (con_sw 1001 5 (con_sw 1000 4 (laws_toNetwork_ok a0 v10 h11))) (rfl : ([] : List Nat) = [])) (And.intro (And.intro (con_sw 1000 7 (impl_ChoicesOf_ok v10 a1 a2 a3 v12 h13)) (rfl : ([] : List Nat) = [])) (And.intro (laws_eqChoiceS_ok v12 v8 v14 h15) (And.intro h16 (And.intro (And.intro (con_sw 1001 9 (con_sw 1000 8 (laws_toNetwork_ok a0 v17 h18))) (rfl : ([] : List Nat) = [])) (And.intro (laws_eqNetwork_ok v10 v17 v19 h20) (And.intro (rfl : (laws_FnExactChoicesOf_x1 a0 a1 a2 a3 v8 v10 v12 v19) = (laws_FnExactChoicesOf_x1 a0 a1 a2 a3 v8 v10 v12 v19)) (And.intro (And.intro (con_sw 1001 9 (con_sw 1000 8 (laws_toNetwork_ok a0 v17 h18))) (rfl : ([] : List Nat) = [])) (And.intro (laws_eqNetwork_ok v10 v17 v19 h20) (And.intro (rfl : (laws_FnExactChoicesOf_x1 a0 a1 a2 a3 v8 v10 v12 v19) = (laws_FnExactChoicesOf_x1 a0 a1 a2 a3 v8 v10 v12 v19)) (And.intro (And.intro (con_sw 1001 9 (con_sw 1000 8 (laws_toNetwork_ok a0 v17 h18))) (rfl : ([] : List Nat) = [])) (And.intro (laws_eqNetwork_ok v10 v17 v19 h20) (And.intro (rfl : (laws_FnExactChoicesOf_x1 a0 a1 a2 a3 v8 v10 v12 v19) = (laws_FnExactChoicesOf_x1 a0 a1 a2 a3 v8 v10 v12 v19)) (And.intro h21 (And.intro (And.intro (con_sw 920 5 (con_sw 900 4 (laws_markNetwork_ok v10 1 v22 h23))) (rfl : ([4, 5] : List Nat) = [4, 5])) (And.intro h24 (And.intro (laws_eqChoiceS_ok v12 v8 v25 h26) (And.intro h27 True.intro)))))))))))))))))))))))) (by kernel_rfl)
              · obtain ⟨v28, h29, hM⟩ := bind_some hM
                obtain ⟨v30, h31, hM⟩ := bind_some hM
                rcases cond_cases hM with ⟨h32, hM⟩ | ⟨h32, hM⟩
                · have hE : some false = some r := hM
                  have hE := Option.some.inj hE
                  subst hE
                  exact pr R 9999 [.new 0, .as 19 false, .as 22 false, .call false [] (.o (.c (.v (.int .i64 v3)))) [] [], .as 27 false, .call false [] (.o (.agg [.sl 1, .sl 2, .v (.int .i64 v6.Change)])) [] [(1, .row 77 6 (v6.Legs.map Leg.enc)), (2, .row 3 1 (v6.Off.map encI))], .call false [] (.o (.c (.sl 3))) [] [(3, .row 114 2 (v8.map Choice.enc))], .call false [] (.o (.agg [.sl 4, .sl 5, .v (.int .i64 v10.Change)])) [] [(4, .row 77 6 (v10.Legs.map Leg.enc)), (5, .row 3 1 (v10.Off.map encI))], .new 6, .call false [] (.o (.c (.sl 7))) [] [(7, .row 114 2 (v12.map Choice.enc))], .call false [] (.o (.c (.v (.bool v14)))) [] [], .as 44 false, .xo [[], [], [.call false [] (.o (.agg [.sl 8, .sl 9, .v (.int .i64 v17.Change)])) [] [(8, .row 77 6 (v17.Legs.map Leg.enc)), (9, .row 3 1 (v17.Off.map encI))]], [.call false [] (.o (.c (.v (.bool v19)))) [] []], []] [.keep [1, 2, 3, 4, 10, 11, 12, 49] [0, 3, 6, 4, 5, 7]] (laws_FnExactChoicesOf_x1 a0 a1 a2 a3 v8 v10 v12 v19), .as 49 false, .ad (.keep [1, 2, 3, 4, 10, 11, 12, 13, 49, 50, 51] [4, 5, 0, 3, 6, 7]), .call false [4, 5] (.o (.c (.v (.int .i64 v22.1)))) [(4, .row 77 6 (v22.2.Legs.map Leg.enc)), (5, .row 3 1 (v22.2.Off.map encI))] [], .as 55 false, .call false [] (.o (.c (.v (.bool v25)))) [] [], .as 60 false, .call false [7] (.o (.c (.v (.int .i64 v28.1)))) [(7, .row 114 2 (v28.2.map Choice.enc))] [], .call false [] (.o (.c (.v (.int .i64 v30)))) [] [], .as 68 true] [] [] [] (And.intro h1 (And.intro h2 (And.intro (laws_szNetwork_ok a0 1048576 v3 h4) (And.intro h5 (And.intro (And.intro (con_sw 1001 2 (con_sw 1000 1 (laws_toNetwork_ok a0 v6 h7))) (rfl : ([] : List Nat) = [])) (And.intro (And.intro (con_sw 1000 3 (spec_ChoicesOf_ok v6 a1 a2 a3 v8 h9)) (rfl : ([] : List Nat) = [])) (And.intro (And.intro (con_sw 1001 5 (con_sw 1000 4 (laws_toNetwork_ok a0 v10 h11))) (rfl : ([] : List Nat) = [])) (And.intro (And.intro (con_sw 1000 7 (impl_ChoicesOf_ok v10 a1 a2 a3 v12 h13)) (rfl : ([] : List Nat) = [])) (And.intro (laws_eqChoiceS_ok v12 v8 v14 h15) (And.intro h16 (And.intro (And.intro (con_sw 1001 9 (con_sw 1000 8 (laws_toNetwork_ok a0 v17 h18))) (rfl : ([] : List Nat) = [])) (And.intro (laws_eqNetwork_ok v10 v17 v19 h20) (And.intro (rfl : (laws_FnExactChoicesOf_x1 a0 a1 a2 a3 v8 v10 v12 v19) = (laws_FnExactChoicesOf_x1 a0 a1 a2 a3 v8 v10 v12 v19)) (And.intro (And.intro (con_sw 1001 9 (con_sw 1000 8 (laws_toNetwork_ok a0 v17 h18))) (rfl : ([] : List Nat) = [])) (And.intro (laws_eqNetwork_ok v10 v17 v19 h20) (And.intro (rfl : (laws_FnExactChoicesOf_x1 a0 a1 a2 a3 v8 v10 v12 v19) = (laws_FnExactChoicesOf_x1 a0 a1 a2 a3 v8 v10 v12 v19)) (And.intro (And.intro (con_sw 1001 9 (con_sw 1000 8 (laws_toNetwork_ok a0 v17 h18))) (rfl : ([] : List Nat) = [])) (And.intro (laws_eqNetwork_ok v10 v17 v19 h20) (And.intro (rfl : (laws_FnExactChoicesOf_x1 a0 a1 a2 a3 v8 v10 v12 v19) = (laws_FnExactChoicesOf_x1 a0 a1 a2 a3 v8 v10 v12 v19)) (And.intro h21 (And.intro (And.intro (con_sw 920 5 (con_sw 900 4 (laws_markNetwork_ok v10 1 v22 h23))) (rfl : ([4, 5] : List Nat) = [4, 5])) (And.intro h24 (And.intro (laws_eqChoiceS_ok v12 v8 v25 h26) (And.intro h27 (And.intro (And.intro (con_sw 900 7 (laws_markChoiceS_ok v12 1 v28 h29)) (rfl : ([7] : List Nat) = [7])) (And.intro (laws_heldChoiceS_ok v28.2 1 v30 h31) (And.intro h32 True.intro))))))))))))))))))))))))))) (by kernel_rfl)
                · rcases cond_cases hM with ⟨h33, hM⟩ | ⟨h33, hM⟩
                  · have hE : some false = some r := hM
                    have hE := Option.some.inj hE
                    subst hE
                    exact pr R 9999 [.new 0, .as 19 false, .as 22 false, .call false [] (.o (.c (.v (.int .i64 v3)))) [] [], .as 27 false, .call false [] (.o (.agg [.sl 1, .sl 2, .v (.int .i64 v6.Change)])) [] [(1, .row 77 6 (v6.Legs.map Leg.enc)), (2, .row 3 1 (v6.Off.map encI))], .call false [] (.o (.c (.sl 3))) [] [(3, .row 114 2 (v8.map Choice.enc))], .call false [] (.o (.agg [.sl 4, .sl 5, .v (.int .i64 v10.Change)])) [] [(4, .row 77 6 (v10.Legs.map Leg.enc)), (5, .row 3 1 (v10.Off.map encI))], .new 6, .call false [] (.o (.c (.sl 7))) [] [(7, .row 114 2 (v12.map Choice.enc))], .call false [] (.o (.c (.v (.bool v14)))) [] [], .as 44 false, .xo [[], [], [.call false [] (.o (.agg [.sl 8, .sl 9, .v (.int .i64 v17.Change)])) [] [(8, .row 77 6 (v17.Legs.map Leg.enc)), (9, .row 3 1 (v17.Off.map encI))]], [.call false [] (.o (.c (.v (.bool v19)))) [] []], []] [.keep [1, 2, 3, 4, 10, 11, 12, 49] [0, 3, 6, 4, 5, 7]] (laws_FnExactChoicesOf_x1 a0 a1 a2 a3 v8 v10 v12 v19), .as 49 false, .ad (.keep [1, 2, 3, 4, 10, 11, 12, 13, 49, 50, 51] [4, 5, 0, 3, 6, 7]), .call false [4, 5] (.o (.c (.v (.int .i64 v22.1)))) [(4, .row 77 6 (v22.2.Legs.map Leg.enc)), (5, .row 3 1 (v22.2.Off.map encI))] [], .as 55 false, .call false [] (.o (.c (.v (.bool v25)))) [] [], .as 60 false, .call false [7] (.o (.c (.v (.int .i64 v28.1)))) [(7, .row 114 2 (v28.2.map Choice.enc))] [], .call false [] (.o (.c (.v (.int .i64 v30)))) [] [], .as 68 false, .as 71 true] [] [] [] (And.intro h1 (And.intro h2 (And.intro (laws_szNetwork_ok a0 1048576 v3 h4) (And.intro h5 (And.intro (And.intro (con_sw 1001 2 (con_sw 1000 1 (laws_toNetwork_ok a0 v6 h7))) (rfl : ([] : List Nat) = [])) (And.intro (And.intro (con_sw 1000 3 (spec_ChoicesOf_ok v6 a1 a2 a3 v8 h9)) (rfl : ([] : List Nat) = [])) (And.intro (And.intro (con_sw 1001 5 (con_sw 1000 4 (laws_toNetwork_ok a0 v10 h11))) (rfl : ([] : List Nat) = [])) (And.intro (And.intro (con_sw 1000 7 (impl_ChoicesOf_ok v10 a1 a2 a3 v12 h13)) (rfl : ([] : List Nat) = [])) (And.intro (laws_eqChoiceS_ok v12 v8 v14 h15) (And.intro h16 (And.intro (And.intro (con_sw 1001 9 (con_sw 1000 8 (laws_toNetwork_ok a0 v17 h18))) (rfl : ([] : List Nat) = [])) (And.intro (laws_eqNetwork_ok v10 v17 v19 h20) (And.intro (rfl : (laws_FnExactChoicesOf_x1 a0 a1 a2 a3 v8 v10 v12 v19) = (laws_FnExactChoicesOf_x1 a0 a1 a2 a3 v8 v10 v12 v19)) (And.intro (And.intro (con_sw 1001 9 (con_sw 1000 8 (laws_toNetwork_ok a0 v17 h18))) (rfl : ([] : List Nat) = [])) (And.intro (laws_eqNetwork_ok v10 v17 v19 h20) (And.intro (rfl : (laws_FnExactChoicesOf_x1 a0 a1 a2 a3 v8 v10 v12 v19) = (laws_FnExactChoicesOf_x1 a0 a1 a2 a3 v8 v10 v12 v19)) (And.intro (And.intro (con_sw 1001 9 (con_sw 1000 8 (laws_toNetwork_ok a0 v17 h18))) (rfl : ([] : List Nat) = [])) (And.intro (laws_eqNetwork_ok v10 v17 v19 h20) (And.intro (rfl : (laws_FnExactChoicesOf_x1 a0 a1 a2 a3 v8 v10 v12 v19) = (laws_FnExactChoicesOf_x1 a0 a1 a2 a3 v8 v10 v12 v19)) (And.intro h21 (And.intro (And.intro (con_sw 920 5 (con_sw 900 4 (laws_markNetwork_ok v10 1 v22 h23))) (rfl : ([4, 5] : List Nat) = [4, 5])) (And.intro h24 (And.intro (laws_eqChoiceS_ok v12 v8 v25 h26) (And.intro h27 (And.intro (And.intro (con_sw 900 7 (laws_markChoiceS_ok v12 1 v28 h29)) (rfl : ([7] : List Nat) = [7])) (And.intro (laws_heldChoiceS_ok v28.2 1 v30 h31) (And.intro h32 (And.intro h33 True.intro)))))))))))))))))))))))))))) (by kernel_rfl)
                  · obtain ⟨v34, h35, hM⟩ := bind_some hM
                    obtain ⟨v36, h37, hM⟩ := bind_some hM
                    obtain ⟨v38, h39, hM⟩ := bind_some hM
                    rcases cond_cases hM with ⟨h40, hM⟩ | ⟨h40, hM⟩
                    · have hE : some false = some r := hM
                      have hE := Option.some.inj hE
                      subst hE
                      exact pr R 9999 [.new 0, .as 19 false, .as 22 false, .call false [] (.o (.c (.v (.int .i64 v3)))) [] [], .as 27 false, .call false [] (.o (.agg [.sl 1, .sl 2, .v (.int .i64 v6.Change)])) [] [(1, .row 77 6 (v6.Legs.map Leg.enc)), (2, .row 3 1 (v6.Off.map encI))], .call false [] (.o (.c (.sl 3))) [] [(3, .row 114 2 (v8.map Choice.enc))], .call false [] (.o (.agg [.sl 4, .sl 5, .v (.int .i64 v10.Change)])) [] [(4, .row 77 6 (v10.Legs.map Leg.enc)), (5, .row 3 1 (v10.Off.map encI))], .new 6, .call false [] (.o (.c (.sl 7))) [] [(7, .row 114 2 (v12.map Choice.enc))], .call false [] (.o (.c (.v (.bool v14)))) [] [], .as 44 false, .xo [[], [], [.call false [] (.o (.agg [.sl 8, .sl 9, .v (.int .i64 v17.Change)])) [] [(8, .row 77 6 (v17.Legs.map Leg.enc)), (9, .row 3 1 (v17.Off.map encI))]], [.call false [] (.o (.c (.v (.bool v19)))) [] []], []] [.keep [1, 2, 3, 4, 10, 11, 12, 49] [0, 3, 6, 4, 5, 7]] (laws_FnExactChoicesOf_x1 a0 a1 a2 a3 v8 v10 v12 v19), .as 49 false, .ad (.keep [1, 2, 3, 4, 10, 11, 12, 13, 49, 50, 51] [4, 5, 0, 3, 6, 7]), .call false [4, 5] (.o (.c (.v (.int .i64 v22.1)))) [(4, .row 77 6 (v22.2.Legs.map Leg.enc)), (5, .row 3 1 (v22.2.Off.map encI))] [], .as 55 false, .call false [] (.o (.c (.v (.bool v25)))) [] [], .as 60 false, .call false [7] (.o (.c (.v (.int .i64 v28.1)))) [(7, .row 114 2 (v28.2.map Choice.enc))] [], .call false [] (.o (.c (.v (.int .i64 v30)))) [] [], .as 68 false, .as 71 false, .call false [] (.o (.agg [.sl 10, .sl 11, .v (.int .i64 v34.Change)])) [] [(10, .row 77 6 (v34.Legs.map Leg.enc)), (11, .row 3 1 (v34.Off.map encI))], .call false [] (.o (.c (.sl 12))) [] [(12, .row 114 2 (v36.map Choice.enc))], .call false [] (.o (.c (.v (.bool v38)))) [] [], .as 81 true] [] [] [] (And.intro h1 (And.intro h2 (And.intro (laws_szNetwork_ok a0 1048576 v3 h4) (And.intro h5 (And.intro (And.intro (con_sw 1001 2 (con_sw 1000 1 (laws_toNetwork_ok a0 v6 h7))) (rfl : ([] : List Nat) = [])) (And.intro (And.intro (con_sw 1000 3 (spec_ChoicesOf_ok v6 a1 a2 a3 v8 h9)) (rfl : ([] : List Nat) = [])) (And.intro (And.intro (con_sw 1001 5 (con_sw 1000 4 (laws_toNetwork_ok a0 v10 h11))) (rfl : ([] : List Nat) = [])) (And.intro (And.intro (con_sw 1000 7 (impl_ChoicesOf_ok v10 a1 a2 a3 v12 h13)) (rfl : ([] : List Nat) = [])) (And.intro (laws_eqChoiceS_ok v12 v8 v14 h15) (And.intro h16 (And.intro (And.intro (con_sw 1001 9 (con_sw 1000 8 (laws_toNetwork_ok a0 v17 h18))) (rfl : ([] : List Nat) = [])) (And.intro (laws_eqNetwork_ok v10 v17 v19 h20) (And.intro (rfl : (laws_FnExactChoicesOf_x1 a0 a1 a2 a3 v8 v10 v12 v19) = (laws_FnExactChoicesOf_x1 a0 a1 a2 a3 v8 v10 v12 v19)) (And.intro (And.intro (con_sw 1001 9 (con_sw 1000 8 (laws_toNetwork_ok a0 v17 h18))) (rfl : ([] : List Nat) = [])) (And.intro (laws_eqNetwork_ok v10 v17 v19 h20) (And.intro (rfl : (laws_FnExactChoicesOf_x1 a0 a1 a2 a3 v8 v10 v12 v19) = (laws_FnExactChoicesOf_x1 a0 a1 a2 a3 v8 v10 v12 v19)) (And.intro (And.intro (con_sw 1001 9 (con_sw 1000 8 (laws_toNetwork_ok a0 v17 h18))) (rfl : ([] : List Nat) = [])) (And.intro (laws_eqNetwork_ok v10 v17 v19 h20) (And.intro (rfl : (laws_FnExactChoicesOf_x1 a0 a1 a2 a3 v8 v10 v12 v19) = (laws_FnExactChoicesOf_x1 a0 a1 a2 a3 v8 v10 v12 v19)) (And.intro h21 (And.intro (And.intro (con_sw 920 5 (con_sw 900 4 (laws_markNetwork_ok v10 1 v22 h23))) (rfl : ([4, 5] : List Nat) = [4, 5])) (And.intro h24 (And.intro (laws_eqChoiceS_ok v12 v8 v25 h26) (And.intro h27 (And.intro (And.intro (con_sw 900 7 (laws_markChoiceS_ok v12 1 v28 h29)) (rfl : ([7] : List Nat) = [7])) (And.intro (laws_heldChoiceS_ok v28.2 1 v30 h31) (And.intro h32 (And.intro h33 (And.intro (And.intro (con_sw 1001 11 (con_sw 1000 10 (laws_toNetwork_ok a0 v34 h35))) (rfl : ([] : List Nat) = [])) (And.intro (And.intro (con_sw 1000 12 (impl_ChoicesOf_ok v34 a1 a2 a3 v36 h37)) (rfl : ([] : List Nat) = [])) (And.intro (laws_eqChoiceS_ok v36 v8 v38 h39) (And.intro h40 True.intro)))))))))))))))))))))))))))))))) (by kernel_rfl)
                    · obtain ⟨v41, h42, hM⟩ := bind_some hM
                      rcases cond_cases hM with ⟨h43, hM⟩ | ⟨h43, hM⟩
                      · have hE : some false = some r := hM
                        have hE := Option.some.inj hE
                        subst hE
                        exact pr R 9999 [.new 0, .as 19 false, .as 22 false, .call false [] (.o (.c (.v (.int .i64 v3)))) [] [], .as 27 false, .call false [] (.o (.agg [.sl 1, .sl 2, .v (.int .i64 v6.Change)])) [] [(1, .row 77 6 (v6.Legs.map Leg.enc)), (2, .row 3 1 (v6.Off.map encI))], .call false [] (.o (.c (.sl 3))) [] [(3, .row 114 2 (v8.map Choice.enc))], .call false [] (.o (.agg [.sl 4, .sl 5, .v (.int .i64 v10.Change)])) [] [(4, .row 77 6 (v10.Legs.map Leg.enc)), (5, .row 3 1 (v10.Off.map encI))], .new 6, .call false [] (.o (.c (.sl 7))) [] [(7, .row 114 2 (v12.map Choice.enc))], .call false [] (.o (.c (.v (.bool v14)))) [] [], .as 44 false, .xo [[], [], [.call false [] (.o (.agg [.sl 8, .sl 9, .v (.int .i64 v17.Change)])) [] [(8, .row 77 6 (v17.Legs.map Leg.enc)), (9, .row 3 1 (v17.Off.map encI))]], [.call false [] (.o (.c (.v (.bool v19)))) [] []], []] [.keep [1, 2, 3, 4, 10, 11, 12, 49] [0, 3, 6, 4, 5, 7]] (laws_FnExactChoicesOf_x1 a0 a1 a2 a3 v8 v10 v12 v19), .as 49 false, .ad (.keep [1, 2, 3, 4, 10, 11, 12, 13, 49, 50, 51] [4, 5, 0, 3, 6, 7]), .call false [4, 5] (.o (.c (.v (.int .i64 v22.1)))) [(4, .row 77 6 (v22.2.Legs.map Leg.enc)), (5, .row 3 1 (v22.2.Off.map encI))] [], .as 55 false, .call false [] (.o (.c (.v (.bool v25)))) [] [], .as 60 false, .call false [7] (.o (.c (.v (.int .i64 v28.1)))) [(7, .row 114 2 (v28.2.map Choice.enc))] [], .call false [] (.o (.c (.v (.int .i64 v30)))) [] [], .as 68 false, .as 71 false, .call false [] (.o (.agg [.sl 10, .sl 11, .v (.int .i64 v34.Change)])) [] [(10, .row 77 6 (v34.Legs.map Leg.enc)), (11, .row 3 1 (v34.Off.map encI))], .call false [] (.o (.c (.sl 12))) [] [(12, .row 114 2 (v36.map Choice.enc))], .call false [] (.o (.c (.v (.bool v38)))) [] [], .as 81 false, .call false [] (.o (.c (.v (.int .i64 v41)))) [] [], .as 86 true] [] [] [] (And.intro h1 (And.intro h2 (And.intro (laws_szNetwork_ok a0 1048576 v3 h4) (And.intro h5 (And.intro (And.intro (con_sw 1001 2 (con_sw 1000 1 (laws_toNetwork_ok a0 v6 h7))) (rfl : ([] : List Nat) = [])) (And.intro (And.intro (con_sw 1000 3 (spec_ChoicesOf_ok v6 a1 a2 a3 v8 h9)) (rfl : ([] : List Nat) = [])) (And.intro (And.intro (con_sw 1001 5 (con_sw 1000 4 (laws_toNetwork_ok a0 v10 h11))) (rfl : ([] : List Nat) = [])) (And.intro (And.intro (con_sw 1000 7 (impl_ChoicesOf_ok v10 a1 a2 a3 v12 h13)) (rfl : ([] : List Nat) = [])) (And.intro (laws_eqChoiceS_ok v12 v8 v14 h15) (And.intro h16 (And.intro (And.intro (con_sw 1001 9 (con_sw 1000 8 (laws_toNetwork_ok a0 v17 h18))) (rfl : ([] : List Nat) = [])) (And.intro (laws_eqNetwork_ok v10 v17 v19 h20) (And.intro (rfl : (laws_FnExactChoicesOf_x1 a0 a1 a2 a3 v8 v10 v12 v19) = (laws_FnExactChoicesOf_x1 a0 a1 a2 a3 v8 v10 v12 v19)) (And.intro (And.intro (con_sw 1001 9 (con_sw 1000 8 (laws_toNetwork_ok a0 v17 h18))) (rfl : ([] : List Nat) = [])) (And.intro (laws_eqNetwork_ok v10 v17 v19 h20) (And.intro (rfl : (laws_FnExactChoicesOf_x1 a0 a1 a2 a3 v8 v10 v12 v19) = (laws_FnExactChoicesOf_x1 a0 a1 a2 a3 v8 v10 v12 v19)) (And.intro (And.intro (con_sw 1001 9 (con_sw 1000 8 (laws_toNetwork_ok a0 v17 h18))) (rfl : ([] : List Nat) = [])) (And.intro (laws_eqNetwork_ok v10 v17 v19 h20) (And.intro (rfl : (laws_FnExactChoicesOf_x1 a0 a1 a2 a3 v8 v10 v12 v19) = (laws_FnExactChoicesOf_x1 a0 a1 a2 a3 v8 v10 v12 v19)) (And.intro h21 (And.intro (And.intro (con_sw 920 5 (con_sw 900 4 (laws_markNetwork_ok v10 1 v22 h23))) (rfl : ([4, 5] : List Nat) = [4, 5])) (And.intro h24 (And.intro (laws_eqChoiceS_ok v12 v8 v25 h26) (And.intro h27 (And.intro (And.intro (con_sw 900 7 (laws_markChoiceS_ok v12 1 v28 h29)) (rfl : ([7] : List Nat) = [7])) (And.intro (laws_heldChoiceS_ok v28.2 1 v30 h31) (And.intro h32 (And.intro h33 (And.intro (And.intro (con_sw 1001 11 (con_sw 1000 10 (laws_toNetwork_ok a0 v34 h35))) (rfl : ([] : List Nat) = [])) (And.intro (And.intro (con_sw 1000 12 (impl_ChoicesOf_ok v34 a1 a2 a3 v36 h37)) (rfl : ([] : List Nat) = [])) (And.intro (laws_eqChoiceS_ok v36 v8 v38 h39) (And.intro h40 (And.intro (laws_heldChoiceS_ok v28.2 1 v41 h42) (And.intro h43 True.intro)))))))))))))))))))))))))))))))))) (by kernel_rfl)
                      · rcases cond_cases hM with ⟨h44, hM⟩ | ⟨h44, hM⟩
                        · have hE : some false = some r := hM
                          have hE := Option.some.inj hE
                          subst hE
                          exact pr R 9999 [.new 0, .as 19 false, .as 22 false, .call false [] (.o (.c (.v (.int .i64 v3)))) [] [], .as 27 false, .call false [] (.o (.agg [.sl 1, .sl 2, .v (.int .i64 v6.Change)])) [] [(1, .row 77 6 (v6.Legs.map Leg.enc)), (2, .row 3 1 (v6.Off.map encI))], .call false [] (.o (.c (.sl 3))) [] [(3, .row 114 2 (v8.map Choice.enc))], .call false [] (.o (.agg [.sl 4, .sl 5, .v (.int .i64 v10.Change)])) [] [(4, .row 77 6 (v10.Legs.map Leg.enc)), (5, .row 3 1 (v10.Off.map encI))], .new 6, .call false [] (.o (.c (.sl 7))) [] [(7, .row 114 2 (v12.map Choice.enc))], .call false [] (.o (.c (.v (.bool v14)))) [] [], .as 44 false, .xo [[], [], [.call false [] (.o (.agg [.sl 8, .sl 9, .v (.int .i64 v17.Change)])) [] [(8, .row 77 6 (v17.Legs.map Leg.enc)), (9, .row 3 1 (v17.Off.map encI))]], [.call false [] (.o (.c (.v (.bool v19)))) [] []], []] [.keep [1, 2, 3, 4, 10, 11, 12, 49] [0, 3, 6, 4, 5, 7]] (laws_FnExactChoicesOf_x1 a0 a1 a2 a3 v8 v10 v12 v19), .as 49 false, .ad (.keep [1, 2, 3, 4, 10, 11, 12, 13, 49, 50, 51] [4, 5, 0, 3, 6, 7]), .call false [4, 5] (.o (.c (.v (.int .i64 v22.1)))) [(4, .row 77 6 (v22.2.Legs.map Leg.enc)), (5, .row 3 1 (v22.2.Off.map encI))] [], .as 55 false, .call false [] (.o (.c (.v (.bool v25)))) [] [], .as 60 false, .call false [7] (.o (.c (.v (.int .i64 v28.1)))) [(7, .row 114 2 (v28.2.map Choice.enc))] [], .call false [] (.o (.c (.v (.int .i64 v30)))) [] [], .as 68 false, .as 71 false, .call false [] (.o (.agg [.sl 10, .sl 11, .v (.int .i64 v34.Change)])) [] [(10, .row 77 6 (v34.Legs.map Leg.enc)), (11, .row 3 1 (v34.Off.map encI))], .call false [] (.o (.c (.sl 12))) [] [(12, .row 114 2 (v36.map Choice.enc))], .call false [] (.o (.c (.v (.bool v38)))) [] [], .as 81 false, .call false [] (.o (.c (.v (.int .i64 v41)))) [] [], .as 86 false, .as 89 true] [] [] [] (And.intro h1 (And.intro h2 (And.intro (laws_szNetwork_ok a0 1048576 v3 h4) (And.intro h5 (And.intro (And.intro (con_sw 1001 2 (con_sw 1000 1 (laws_toNetwork_ok a0 v6 h7))) (rfl : ([] : List Nat) = [])) (And.intro (And.intro (con_sw 1000 3 (spec_ChoicesOf_ok v6 a1 a2 a3 v8 h9)) (rfl : ([] : List Nat) = [])) (And.intro (And.intro (con_sw 1001 5 (con_sw 1000 4 (laws_toNetwork_ok a0 v10 h11))) (rfl : ([] : List Nat) = [])) (And.intro (And.intro (con_sw 1000 7 (impl_ChoicesOf_ok v10 a1 a2 a3 v12 h13)) (rfl : ([] : List Nat) = [])) (And.intro (laws_eqChoiceS_ok v12 v8 v14 h15) (And.intro h16 (And.intro (And.intro (con_sw 1001 9 (con_sw 1000 8 (laws_toNetwork_ok a0 v17 h18))) (rfl : ([] : List Nat) = [])) (And.intro (laws_eqNetwork_ok v10 v17 v19 h20) (And.intro (rfl : (laws_FnExactChoicesOf_x1 a0 a1 a2 a3 v8 v10 v12 v19) = (laws_FnExactChoicesOf_x1 a0 a1 a2 a3 v8 v10 v12 v19)) (And.intro (And.intro (con_sw 1001 9 (con_sw 1000 8 (laws_toNetwork_ok a0 v17 h18))) (rfl : ([] : List Nat) = [])) (And.intro (laws_eqNetwork_ok v10 v17 v19 h20) (And.intro (rfl : (laws_FnExactChoicesOf_x1 a0 a1 a2 a3 v8 v10 v12 v19) = (laws_FnExactChoicesOf_x1 a0 a1 a2 a3 v8 v10 v12 v19)) (And.intro (And.intro (con_sw 1001 9 (con_sw 1000 8 (laws_toNetwork_ok a0 v17 h18))) (rfl : ([] : List Nat) = [])) (And.intro (laws_eqNetwork_ok v10 v17 v19 h20) (And.intro (rfl : (laws_FnExactChoicesOf_x1 a0 a1 a2 a3 v8 v10 v12 v19) = (laws_FnExactChoicesOf_x1 a0 a1 a2 a3 v8 v10 v12 v19)) (And.intro h21 (And.intro (And.intro (con_sw 920 5 (con_sw 900 4 (laws_markNetwork_ok v10 1 v22 h23))) (rfl : ([4, 5] : List Nat) = [4, 5])) (And.intro h24 (And.intro (laws_eqChoiceS_ok v12 v8 v25 h26) (And.intro h27 (And.intro (And.intro (con_sw 900 7 (laws_markChoiceS_ok v12 1 v28 h29)) (rfl : ([7] : List Nat) = [7])) (And.intro (laws_heldChoiceS_ok v28.2 1 v30 h31) (And.intro h32 (And.intro h33 (And.intro (And.intro (con_sw 1001 11 (con_sw 1000 10 (laws_toNetwork_ok a0 v34 h35))) (rfl : ([] : List Nat) = [])) (And.intro (And.intro (con_sw 1000 12 (impl_ChoicesOf_ok v34 a1 a2 a3 v36 h37)) (rfl : ([] : List Nat) = [])) (And.intro (laws_eqChoiceS_ok v36 v8 v38 h39) (And.intro h40 (And.intro (laws_heldChoiceS_ok v28.2 1 v41 h42) (And.intro h43 (And.intro h44 True.intro))))))))))))))))))))))))))))))))))) (by kernel_rfl)
                        · have hE : some true = some r := hM
                          have hE := Option.some.inj hE
                          subst hE
                          exact pr R 9999 [.new 0, .as 19 false, .as 22 false, .call false [] (.o (.c (.v (.int .i64 v3)))) [] [], .as 27 false, .call false [] (.o (.agg [.sl 1, .sl 2, .v (.int .i64 v6.Change)])) [] [(1, .row 77 6 (v6.Legs.map Leg.enc)), (2, .row 3 1 (v6.Off.map encI))], .call false [] (.o (.c (.sl 3))) [] [(3, .row 114 2 (v8.map Choice.enc))], .call false [] (.o (.agg [.sl 4, .sl 5, .v (.int .i64 v10.Change)])) [] [(4, .row 77 6 (v10.Legs.map Leg.enc)), (5, .row 3 1 (v10.Off.map encI))], .new 6, .call false [] (.o (.c (.sl 7))) [] [(7, .row 114 2 (v12.map Choice.enc))], .call false [] (.o (.c (.v (.bool v14)))) [] [], .as 44 false, .xo [[], [], [.call false [] (.o (.agg [.sl 8, .sl 9, .v (.int .i64 v17.Change)])) [] [(8, .row 77 6 (v17.Legs.map Leg.enc)), (9, .row 3 1 (v17.Off.map encI))]], [.call false [] (.o (.c (.v (.bool v19)))) [] []], []] [.keep [1, 2, 3, 4, 10, 11, 12, 49] [0, 3, 6, 4, 5, 7]] (laws_FnExactChoicesOf_x1 a0 a1 a2 a3 v8 v10 v12 v19), .as 49 false, .ad (.keep [1, 2, 3, 4, 10, 11, 12, 13, 49, 50, 51] [4, 5, 0, 3, 6, 7]), .call false [4, 5] (.o (.c (.v (.int .i64 v22.1)))) [(4, .row 77 6 (v22.2.Legs.map Leg.enc)), (5, .row 3 1 (v22.2.Off.map encI))] [], .as 55 false, .call false [] (.o (.c (.v (.bool v25)))) [] [], .as 60 false, .call false [7] (.o (.c (.v (.int .i64 v28.1)))) [(7, .row 114 2 (v28.2.map Choice.enc))] [], .call false [] (.o (.c (.v (.int .i64 v30)))) [] [], .as 68 false, .as 71 false, .call false [] (.o (.agg [.sl 10, .sl 11, .v (.int .i64 v34.Change)])) [] [(10, .row 77 6 (v34.Legs.map Leg.enc)), (11, .row 3 1 (v34.Off.map encI))], .call false [] (.o (.c (.sl 12))) [] [(12, .row 114 2 (v36.map Choice.enc))], .call false [] (.o (.c (.v (.bool v38)))) [] [], .as 81 false, .call false [] (.o (.c (.v (.int .i64 v41)))) [] [], .as 86 false, .as 89 false] [] [] [] (And.intro h1 (And.intro h2 (And.intro (laws_szNetwork_ok a0 1048576 v3 h4) (And.intro h5 (And.intro (And.intro (con_sw 1001 2 (con_sw 1000 1 (laws_toNetwork_ok a0 v6 h7))) (rfl : ([] : List Nat) = [])) (And.intro (And.intro (con_sw 1000 3 (spec_ChoicesOf_ok v6 a1 a2 a3 v8 h9)) (rfl : ([] : List Nat) = [])) (And.intro (And.intro (con_sw 1001 5 (con_sw 1000 4 (laws_toNetwork_ok a0 v10 h11))) (rfl : ([] : List Nat) = [])) (And.intro (And.intro (con_sw 1000 7 (impl_ChoicesOf_ok v10 a1 a2 a3 v12 h13)) (rfl : ([] : List Nat) = [])) (And.intro (laws_eqChoiceS_ok v12 v8 v14 h15) (And.intro h16 (And.intro (And.intro (con_sw 1001 9 (con_sw 1000 8 (laws_toNetwork_ok a0 v17 h18))) (rfl : ([] : List Nat) = [])) (And.intro (laws_eqNetwork_ok v10 v17 v19 h20) (And.intro (rfl : (laws_FnExactChoicesOf_x1 a0 a1 a2 a3 v8 v10 v12 v19) = (laws_FnExactChoicesOf_x1 a0 a1 a2 a3 v8 v10 v12 v19)) (And.intro (And.intro (con_sw 1001 9 (con_sw 1000 8 (laws_toNetwork_ok a0 v17 h18))) (rfl : ([] : List Nat) = [])) (And.intro (laws_eqNetwork_ok v10 v17 v19 h20) (And.intro (rfl : (laws_FnExactChoicesOf_x1 a0 a1 a2 a3 v8 v10 v12 v19) = (laws_FnExactChoicesOf_x1 a0 a1 a2 a3 v8 v10 v12 v19)) (And.intro (And.intro (con_sw 1001 9 (con_sw 1000 8 (laws_toNetwork_ok a0 v17 h18))) (rfl : ([] : List Nat) = [])) (And.intro (laws_eqNetwork_ok v10 v17 v19 h20) (And.intro (rfl : (laws_FnExactChoicesOf_x1 a0 a1 a2 a3 v8 v10 v12 v19) = (laws_FnExactChoicesOf_x1 a0 a1 a2 a3 v8 v10 v12 v19)) (And.intro h21 (And.intro (And.intro (con_sw 920 5 (con_sw 900 4 (laws_markNetwork_ok v10 1 v22 h23))) (rfl : ([4, 5] : List Nat) = [4, 5])) (And.intro h24 (And.intro (laws_eqChoiceS_ok v12 v8 v25 h26) (And.intro h27 (And.intro (And.intro (con_sw 900 7 (laws_markChoiceS_ok v12 1 v28 h29)) (rfl : ([7] : List Nat) = [7])) (And.intro (laws_heldChoiceS_ok v28.2 1 v30 h31) (And.intro h32 (And.intro h33 (And.intro (And.intro (con_sw 1001 11 (con_sw 1000 10 (laws_toNetwork_ok a0 v34 h35))) (rfl : ([] : List Nat) = [])) (And.intro (And.intro (con_sw 1000 12 (impl_ChoicesOf_ok v34 a1 a2 a3 v36 h37)) (rfl : ([] : List Nat) = [])) (And.intro (laws_eqChoiceS_ok v36 v8 v38 h39) (And.intro h40 (And.intro (laws_heldChoiceS_ok v28.2 1 v41 h42) (And.intro h43 (And.intro h44 True.intro))))))))))))))))))))))))))))))))))) (by kernel_rfl)

-- loop.example/g03014/spec.l3Last
def spec_l3Last_L1_b (a0 : Network) (a1 : Int) (a2 : Int) (s1 : Int) (s2 : Int) : Option (Ctl (Int × Int) Int Int) :=
  bif (decide (s2 ≤ 60)) then
  (spec_l3Runs a0 a1 s2).bind fun v5 =>
  bif v5 then
  (spec_l3Ends a0 (Trip.mk a1 s2)).bind fun v8 =>
  bif (decide (v8 ≤ a2)) then
  some (.next (s2, w64 (s2 + 1)))
  else
  some (.next (s1, w64 (s2 + 1)))
  else
  some (.next (s1, w64 (s2 + 1)))
  else
  some (.brk s1)
def spec_l3Last_L1 (a0 : Network) (a1 : Int) (a2 : Int) (s : Int × Int) : Option (Ctl (Int × Int) Int Int) := spec_l3Last_L1_b a0 a1 a2 s.1 s.2
def spec_l3Last_L1_s (a0 : Network) (a1 : Int) (a2 : Int) (s1 : Int) (s2 : Int) : St := ⟨[(1, .o (.c (.v (.int .i64 a1)))), (2, .o (.c (.v (.int .i64 a2)))), (3, .o (.c (.ptr 0 0))), (7, .o (.c (.v (.int .i64 s1)))), (8, .o (.c (.v (.int .i64 s2))))], [(0, .box 32 [.rs 6 (a0.Legs.map Leg.enc), .rs 1 (a0.Off.map encI), .v (.int .i64 a0.Change)])]⟩
def spec_l3Last_L1_S (a0 : Network) (a1 : Int) (a2 : Int) (s : Int × Int) : St := spec_l3Last_L1_s a0 a1 a2 s.1 s.2
def spec_l3Last_L1_a (s3 : Int) : Option Int :=
  some s3
def spec_l3Last_L1_k (x : (Int) ⊕ (Int)) : Option Int := match x with
  | .inl t => spec_l3Last_L1_a t
  | .inr y => some y
def spec_l3Last (a0 : Network) (a1 : Int) (a2 : Int) : Option Int :=
  (loopM (spec_l3Last_L1 a0 a1 a2) big ((-1), 0)).bind (spec_l3Last_L1_k)
theorem spec_l3Last_ok (a0 : Network) (a1 : Int) (a2 : Int) (r : Int) (hM : spec_l3Last a0 a1 a2 = some r) :
    Con Try.prog 89 [.agg [.rs 6 (a0.Legs.map Leg.enc), .rs 1 (a0.Off.map encI), .v (.int .i64 a0.Change)], .c (.v (.int .i64 a1)), .c (.v (.int .i64 a2))] [] (.o (.c (.v (.int .i64 r)))) [] [] := by
  unfold spec_l3Last at hM
  refine cn (N := 28) (pids := []) Try_mixed Try.func89 (by kernel_rfl) (by kernel_rfl) (by kernel_rfl) rfl fun ρ g w R => ?_
  have K1 : ∀ (s3 : Int), spec_l3Last_L1_a s3 = some r → Gr R [.code (cAt Try.f89 [1, 1, 1])] (⟨[(7, .o (.c (.v (.int .i64 s3))))], []⟩) := by
    intro s3 hM
    unfold spec_l3Last_L1_a at hM
    have hE : some s3 = some r := hM
    have hE := Option.some.inj hE
    subst hE
    exact pr R 9999 [] [] [] [] True.intro (by kernel_rfl)
  refine pc R 9999 [.new 0] [.keep [1, 2, 3, 7, 8] [0]] (k' := [.code (.loop (cAt Try.f89 [1, 1, 0, 1, 0, 0])), .blk 0, .code (cAt Try.f89 [1, 1, 1])]) (S' := spec_l3Last_L1_S a0 a1 a2 ((-1), 0)) True.intro (by kernel_rfl) ?_
  refine lq (spec_l3Last_L1_S a0 a1 a2) (body := spec_l3Last_L1 a0 a1 a2) (k := spec_l3Last_L1_k) hM fun m1 s c1 hM hK1 => ?_
  obtain ⟨s1, s2⟩ := s
  have hM : spec_l3Last_L1_b a0 a1 a2 s1 s2 = some c1 := hM
  unfold spec_l3Last_L1_b at hM
  rcases cond_cases hM with ⟨h4, hM⟩ | ⟨h4, hM⟩
  · obtain ⟨v5, h6, hM⟩ := bind_some hM
    rcases cond_cases hM with ⟨h7, hM⟩ | ⟨h7, hM⟩
    · obtain ⟨v8, h9, hM⟩ := bind_some hM
      rcases cond_cases hM with ⟨h10, hM⟩ | ⟨h10, hM⟩
      · have hE : some (Ctl.next (s2, w64 (s2 + 1))) = some c1 := hM
        have hE := Option.some.inj hE
        subst hE
        exact pc R 9999 [.as 10 true, .call false [] (.o (.c (.v (.bool v5)))) [] [], .as 17 true, .call false [] (.o (.c (.v (.int .i64 v8)))) [] [], .as 25 true] [.keep [1, 2, 3, 7, 8] [0]] (And.intro h4 (And.intro (spec_l3Runs_ok a0 a1 s2 v5 h6) (And.intro h7 (And.intro (spec_l3Ends_ok a0 (Trip.mk a1 s2) v8 h9) (And.intro h10 True.intro))))) (by kernel_rfl) (li (Sf := spec_l3Last_L1_S a0 a1 a2) (M := Mk (spec_l3Last_L1 a0 a1 a2) (spec_l3Last_L1_k) r) (k := [.blk 0, .code (cAt Try.f89 [1, 1, 1])]) (Nat.lt_succ_self m1) hK1)
      · have hE : some (Ctl.next (s1, w64 (s2 + 1))) = some c1 := hM
        have hE := Option.some.inj hE
        subst hE
        exact pc R 9999 [.as 10 true, .call false [] (.o (.c (.v (.bool v5)))) [] [], .as 17 true, .call false [] (.o (.c (.v (.int .i64 v8)))) [] [], .as 25 false] [.keep [1, 2, 3, 7, 8] [0]] (And.intro h4 (And.intro (spec_l3Runs_ok a0 a1 s2 v5 h6) (And.intro h7 (And.intro (spec_l3Ends_ok a0 (Trip.mk a1 s2) v8 h9) (And.intro h10 True.intro))))) (by kernel_rfl) (li (Sf := spec_l3Last_L1_S a0 a1 a2) (M := Mk (spec_l3Last_L1 a0 a1 a2) (spec_l3Last_L1_k) r) (k := [.blk 0, .code (cAt Try.f89 [1, 1, 1])]) (Nat.lt_succ_self m1) hK1)
    · have hE : some (Ctl.next (s1, w64 (s2 + 1))) = some c1 := hM
      have hE := Option.some.inj hE
      subst hE
      exact pc R 9999 [.as 10 true, .call false [] (.o (.c (.v (.bool v5)))) [] [], .as 17 false] [.keep [1, 2, 3, 7, 8] [0]] (And.intro h4 (And.intro (spec_l3Runs_ok a0 a1 s2 v5 h6) (And.intro h7 True.intro))) (by kernel_rfl) (li (Sf := spec_l3Last_L1_S a0 a1 a2) (M := Mk (spec_l3Last_L1 a0 a1 a2) (spec_l3Last_L1_k) r) (k := [.blk 0, .code (cAt Try.f89 [1, 1, 1])]) (Nat.lt_succ_self m1) hK1)
  · have hE : some (Ctl.brk s1) = some c1 := hM
    have hE := Option.some.inj hE
    subst hE
    exact pc R 5 [.as 10 false] [.keep [7] []] (And.intro h4 True.intro) (by kernel_rfl) (K1 s1 hK1)

-- loop.example/g03014/spec.LatestStarts
def spec_LatestStarts_x16 (a0 : Network) (v1 : (List ByteArray)) (v3 : Int) (s14 : Int) (s17 : (List Int)) (s18 : Int) (v23 : Int) (v43 : Int) : St := ⟨[(3, .o (.c (.ptr 0 0))), (7, .o (.c (.sl 1))), (8, .o (.c (.v (.int .i64 v3)))), (9, .o (.c (.sl 2))), (11, .o (.c (.v (.int .i64 s14)))), (12, .o (.c (.v (.int .i64 s18))))], [(0, .box 32 [.rs 6 (a0.Legs.map Leg.enc), .rs 1 (a0.Off.map encI), .v (.int .i64 a0.Change)]), (1, .row 9 1 (v1.map encS)), (2, .row 3 1 ((List.set s17 (Int.toNat v23) v43).map encI))]⟩
def spec_LatestStarts_j1 (a0 : Network) (v3 : Int) (s17 : (List Int)) (s18 : Int) (v23 : Int) (v27 : Int) (s31 : Int) : Option (Ctl ((List Int) × Int) (List Int) (List Int)) :=
  (spec_l3Last a0 s18 s31).bind fun v32 =>
  (gi s17 v27).bind fun v34 =>
  bif (decide (v34 < 0)) then
  some (.next (s17, w64 (s18 + 1)))
  else
  bif (decide (v32 < 0)) then
  some (.next (s17, w64 (s18 + 1)))
  else
  bif (v23 == v3) then
  some (.next (s17, w64 (s18 + 1)))
  else
  (gi s17 v23).bind fun v39 =>
  (spec_l3Starts a0 (Trip.mk s18 v32)).bind fun v41 =>
  (spec_Max v39 v41).bind fun v43 =>
  (gi s17 v23).bind fun v45 =>
  some (.next (List.set s17 (Int.toNat v23) v43, w64 (s18 + 1)))
def spec_LatestStarts_L3_b (a0 : Network) (v1 : (List ByteArray)) (v3 : Int) (s17 : (List Int)) (s18 : Int) : Option (Ctl ((List Int) × Int) (List Int) (List Int)) :=
  bif (decide (s18 < (a0.Legs.length : Int))) then
  (gi a0.Legs s18).bind fun v21 =>
  (spec_l4Index v1 v21.From).bind fun v23 =>
  (gi a0.Legs s18).bind fun v25 =>
  (spec_l4Index v1 v25.To).bind fun v27 =>
  (gi s17 v27).bind fun v29 =>
  bif (v27 != v3) then
  spec_LatestStarts_j1 a0 v3 s17 s18 v23 v27 (w64 (v29 - a0.Change))
  else
  spec_LatestStarts_j1 a0 v3 s17 s18 v23 v27 v29
  else
  some (.brk s17)
def spec_LatestStarts_L3 (a0 : Network) (v1 : (List ByteArray)) (v3 : Int) (s : (List Int) × Int) : Option (Ctl ((List Int) × Int) (List Int) (List Int)) := spec_LatestStarts_L3_b a0 v1 v3 s.1 s.2
def spec_LatestStarts_L3_s (a0 : Network) (v1 : (List ByteArray)) (v3 : Int) (s14 : Int) (s17 : (List Int)) (s18 : Int) : St := ⟨[(3, .o (.c (.ptr 0 0))), (7, .o (.c (.sl 1))), (8, .o (.c (.v (.int .i64 v3)))), (9, .o (.c (.sl 2))), (11, .o (.c (.v (.int .i64 s14)))), (12, .o (.c (.v (.int .i64 s18))))], [(0, .box 32 [.rs 6 (a0.Legs.map Leg.enc), .rs 1 (a0.Off.map encI), .v (.int .i64 a0.Change)]), (1, .row 9 1 (v1.map encS)), (2, .row 3 1 (s17.map encI))]⟩
def spec_LatestStarts_L3_S (a0 : Network) (v1 : (List ByteArray)) (v3 : Int) (s14 : Int) (s : (List Int) × Int) : St := spec_LatestStarts_L3_s a0 v1 v3 s14 s.1 s.2
def spec_LatestStarts_L3_a (s14 : Int) (s19 : (List Int)) : Option (Ctl ((List Int) × Int) (List Int) (List Int)) :=
  some (.next (s19, w64 (s14 + 1)))
def spec_LatestStarts_L3_k (s14 : Int) (x : ((List Int)) ⊕ ((List Int))) : Option (Ctl ((List Int) × Int) (List Int) (List Int)) := match x with
  | .inl t => spec_LatestStarts_L3_a s14 t
  | .inr y => some (.ret y)
def spec_LatestStarts_L2_b (a0 : Network) (v1 : (List ByteArray)) (v3 : Int) (s13 : (List Int)) (s14 : Int) : Option (Ctl ((List Int) × Int) (List Int) (List Int)) :=
  bif (decide (s14 < (v1.length : Int))) then
  (loopM (spec_LatestStarts_L3 a0 v1 v3) big (s13, 0)).bind (spec_LatestStarts_L3_k s14)
  else
  some (.brk s13)
def spec_LatestStarts_L2 (a0 : Network) (v1 : (List ByteArray)) (v3 : Int) (s : (List Int) × Int) : Option (Ctl ((List Int) × Int) (List Int) (List Int)) := spec_LatestStarts_L2_b a0 v1 v3 s.1 s.2
def spec_LatestStarts_L2_s (a0 : Network) (v1 : (List ByteArray)) (v3 : Int) (s13 : (List Int)) (s14 : Int) : St := ⟨[(3, .o (.c (.ptr 0 0))), (7, .o (.c (.sl 1))), (8, .o (.c (.v (.int .i64 v3)))), (9, .o (.c (.sl 2))), (11, .o (.c (.v (.int .i64 s14))))], [(0, .box 32 [.rs 6 (a0.Legs.map Leg.enc), .rs 1 (a0.Off.map encI), .v (.int .i64 a0.Change)]), (1, .row 9 1 (v1.map encS)), (2, .row 3 1 (s13.map encI))]⟩
def spec_LatestStarts_L2_S (a0 : Network) (v1 : (List ByteArray)) (v3 : Int) (s : (List Int) × Int) : St := spec_LatestStarts_L2_s a0 v1 v3 s.1 s.2
def spec_LatestStarts_L2_a (s15 : (List Int)) : Option (List Int) :=
  some s15
def spec_LatestStarts_L2_k (x : ((List Int)) ⊕ ((List Int))) : Option (List Int) := match x with
  | .inl t => spec_LatestStarts_L2_a t
  | .inr y => some y
def spec_LatestStarts_L1_b (a2 : Int) (v1 : (List ByteArray)) (v3 : Int) (s10 : (List Int)) (s11 : Int) : Option (Ctl ((List Int) × Int) (List Int) (List Int)) :=
  bif (decide (s11 < (v1.length : Int))) then
  bif (s11 == v3) then
  (ap 8 s10 ([a2] : List Int)).bind fun v50 =>
  some (.next (v50, w64 (s11 + 1)))
  else
  (ap 8 s10 ([(-1)] : List Int)).bind fun v52 =>
  some (.next (v52, w64 (s11 + 1)))
  else
  some (.brk s10)
def spec_LatestStarts_L1 (a2 : Int) (v1 : (List ByteArray)) (v3 : Int) (s : (List Int) × Int) : Option (Ctl ((List Int) × Int) (List Int) (List Int)) := spec_LatestStarts_L1_b a2 v1 v3 s.1 s.2
def spec_LatestStarts_L1_s (a0 : Network) (a2 : Int) (v1 : (List ByteArray)) (v3 : Int) (s10 : (List Int)) (s11 : Int) : St := ⟨[(2, .o (.c (.v (.int .i64 a2)))), (3, .o (.c (.ptr 0 0))), (7, .o (.c (.sl 1))), (8, .o (.c (.v (.int .i64 v3)))), (9, .o (.c (.sl 2))), (10, .o (.c (.v (.int .i64 s11))))], [(0, .box 32 [.rs 6 (a0.Legs.map Leg.enc), .rs 1 (a0.Off.map encI), .v (.int .i64 a0.Change)]), (1, .row 9 1 (v1.map encS)), (2, .row 3 1 (s10.map encI))]⟩
def spec_LatestStarts_L1_S (a0 : Network) (a2 : Int) (v1 : (List ByteArray)) (v3 : Int) (s : (List Int) × Int) : St := spec_LatestStarts_L1_s a0 a2 v1 v3 s.1 s.2
def spec_LatestStarts_L1_a (a0 : Network) (v1 : (List ByteArray)) (v3 : Int) (s12 : (List Int)) : Option (List Int) :=
  (loopM (spec_LatestStarts_L2 a0 v1 v3) big (s12, 0)).bind (spec_LatestStarts_L2_k)
def spec_LatestStarts_L1_k (a0 : Network) (v1 : (List ByteArray)) (v3 : Int) (x : ((List Int)) ⊕ ((List Int))) : Option (List Int) := match x with
  | .inl t => spec_LatestStarts_L1_a a0 v1 v3 t
  | .inr y => some y
def spec_LatestStarts (a0 : Network) (a1 : ByteArray) (a2 : Int) : Option (List Int) :=
  (spec_PlacesOf a0).bind fun v1 =>
  (spec_l4Index v1 a1).bind fun v3 =>
  (spec_IsNetwork a0).bind fun v5 =>
  bif (!v5) then
  some ([] : List Int)
  else
  bif (decide (v3 < 0)) then
  some ([] : List Int)
  else
  bif (decide (a2 < 0)) then
  some ([] : List Int)
  else
  (loopM (spec_LatestStarts_L1 a2 v1 v3) big (([] : List Int), 0)).bind (spec_LatestStarts_L1_k a0 v1 v3)
theorem spec_LatestStarts_ok (a0 : Network) (a1 : ByteArray) (a2 : Int) (r : (List Int)) (hM : spec_LatestStarts a0 a1 a2 = some r) :
    Con Try.prog 35 [.agg [.rs 6 (a0.Legs.map Leg.enc), .rs 1 (a0.Off.map encI), .v (.int .i64 a0.Change)], .c (.v (.string a1)), .c (.v (.int .i64 a2))] [] (.o (.c (.sl 1000))) [] [(1000, .row 3 1 (r.map encI))] := by
  unfold spec_LatestStarts at hM
  refine cn (N := 123) (pids := []) Try_mixed Try.func35 (by kernel_rfl) (by kernel_rfl) (by kernel_rfl) rfl fun ρ g w R => ?_
  obtain ⟨v1, h2, hM⟩ := bind_some hM
  obtain ⟨v3, h4, hM⟩ := bind_some hM
  obtain ⟨v5, h6, hM⟩ := bind_some hM
  rcases cond_cases hM with ⟨h7, hM⟩ | ⟨h7, hM⟩
  · have hE : some ([] : List Int) = some r := hM
    have hE := Option.some.inj hE
    subst hE
    exact pr R 9999 [.new 0, .call false [] (.o (.c (.sl 1))) [] [(1, .row 9 1 (v1.map encS))], .call false [] (.o (.c (.v (.int .i64 v3)))) [] [], .new 2, .call false [] (.o (.c (.v (.bool v5)))) [] [], .as 26 true] [.sw 2 1000] [] [1000] (And.intro (And.intro (con_sw 1000 1 (spec_PlacesOf_ok a0 v1 h2)) (rfl : ([] : List Nat) = [])) (And.intro (spec_l4Index_ok v1 a1 v3 h4) (And.intro (spec_IsNetwork_ok a0 v5 h6) (And.intro h7 True.intro)))) (by kernel_rfl)
  · rcases cond_cases hM with ⟨h8, hM⟩ | ⟨h8, hM⟩
    · have hE : some ([] : List Int) = some r := hM
      have hE := Option.some.inj hE
      subst hE
      exact pr R 9999 [.new 0, .call false [] (.o (.c (.sl 1))) [] [(1, .row 9 1 (v1.map encS))], .call false [] (.o (.c (.v (.int .i64 v3)))) [] [], .new 2, .call false [] (.o (.c (.v (.bool v5)))) [] [], .as 26 false, .as 30 true] [.sw 2 1000] [] [1000] (And.intro (And.intro (con_sw 1000 1 (spec_PlacesOf_ok a0 v1 h2)) (rfl : ([] : List Nat) = [])) (And.intro (spec_l4Index_ok v1 a1 v3 h4) (And.intro (spec_IsNetwork_ok a0 v5 h6) (And.intro h7 (And.intro h8 True.intro))))) (by kernel_rfl)
    · rcases cond_cases hM with ⟨h9, hM⟩ | ⟨h9, hM⟩
      · have hE : some ([] : List Int) = some r := hM
        have hE := Option.some.inj hE
        subst hE
        exact pr R 9999 [.new 0, .call false [] (.o (.c (.sl 1))) [] [(1, .row 9 1 (v1.map encS))], .call false [] (.o (.c (.v (.int .i64 v3)))) [] [], .new 2, .call false [] (.o (.c (.v (.bool v5)))) [] [], .as 26 false, .as 30 false, .as 33 true] [.sw 2 1000] [] [1000] (And.intro (And.intro (con_sw 1000 1 (spec_PlacesOf_ok a0 v1 h2)) (rfl : ([] : List Nat) = [])) (And.intro (spec_l4Index_ok v1 a1 v3 h4) (And.intro (spec_IsNetwork_ok a0 v5 h6) (And.intro h7 (And.intro h8 (And.intro h9 True.intro)))))) (by kernel_rfl)
      · have K1 : ∀ (s12 : (List Int)), spec_LatestStarts_L1_a a0 v1 v3 s12 = some r → Gr R [.code (cAt Try.f35 [1, 1, 1, 1, 1, 1])] (⟨[(3, .o (.c (.ptr 0 0))), (7, .o (.c (.sl 1))), (8, .o (.c (.v (.int .i64 v3)))), (9, .o (.c (.sl 2)))], [(0, .box 32 [.rs 6 (a0.Legs.map Leg.enc), .rs 1 (a0.Off.map encI), .v (.int .i64 a0.Change)]), (1, .row 9 1 (v1.map encS)), (2, .row 3 1 (s12.map encI))]⟩) := by
          intro s12 hM
          unfold spec_LatestStarts_L1_a at hM
          have K2 : ∀ (s15 : (List Int)), spec_LatestStarts_L2_a s15 = some r → Gr R [.code (cAt Try.f35 [1, 1, 1, 1, 1, 1, 1])] (⟨[(9, .o (.c (.sl 2)))], [(2, .row 3 1 (s15.map encI))]⟩) := by
            intro s15 hM
            unfold spec_LatestStarts_L2_a at hM
            have hE : some s15 = some r := hM
            have hE := Option.some.inj hE
            subst hE
            exact pr R 9999 [] [.sw 2 1000] [] [1000] True.intro (by kernel_rfl)
          refine pc R 9999 [] [.keep [3, 7, 8, 9, 11] [0, 1, 2]] (k' := [.code (.loop (cAt Try.f35 [1, 1, 1, 1, 1, 1, 0, 1, 0, 0])), .blk 2, .code (cAt Try.f35 [1, 1, 1, 1, 1, 1, 1])]) (S' := spec_LatestStarts_L2_S a0 v1 v3 (s12, 0)) True.intro (by kernel_rfl) ?_
          refine lq (spec_LatestStarts_L2_S a0 v1 v3) (body := spec_LatestStarts_L2 a0 v1 v3) (k := spec_LatestStarts_L2_k) hM fun m2 s c2 hM hK2 => ?_
          obtain ⟨s13, s14⟩ := s
          have hM : spec_LatestStarts_L2_b a0 v1 v3 s13 s14 = some c2 := hM
          unfold spec_LatestStarts_L2_b at hM
          rcases cond_cases hM with ⟨h16, hM⟩ | ⟨h16, hM⟩
          · have K3 : ∀ (s19 : (List Int)), spec_LatestStarts_L3_a s14 s19 = some c2 → Gr R [.blk 3, .code (cAt Try.f35 [1, 1, 1, 1, 1, 1, 0, 1, 0, 0, 1, 1]), .inv (Jr R (spec_LatestStarts_L2_S a0 v1 v3) (Mk (spec_LatestStarts_L2 a0 v1 v3) (spec_LatestStarts_L2_k) r) (m2 + 1)), .blk 2, .code (cAt Try.f35 [1, 1, 1, 1, 1, 1, 1])] (⟨[(3, .o (.c (.ptr 0 0))), (7, .o (.c (.sl 1))), (8, .o (.c (.v (.int .i64 v3)))), (9, .o (.c (.sl 2))), (11, .o (.c (.v (.int .i64 s14))))], [(0, .box 32 [.rs 6 (a0.Legs.map Leg.enc), .rs 1 (a0.Off.map encI), .v (.int .i64 a0.Change)]), (1, .row 9 1 (v1.map encS)), (2, .row 3 1 (s19.map encI))]⟩) := by
              intro s19 hM
              unfold spec_LatestStarts_L3_a at hM
              have hE : some (Ctl.next (s19, w64 (s14 + 1))) = some c2 := hM
              have hE := Option.some.inj hE
              subst hE
              exact pc R 9999 [] [.keep [3, 7, 8, 9, 11] [0, 1, 2]] True.intro (by kernel_rfl) (li (Sf := spec_LatestStarts_L2_S a0 v1 v3) (M := Mk (spec_LatestStarts_L2 a0 v1 v3) (spec_LatestStarts_L2_k) r) (k := [.blk 2, .code (cAt Try.f35 [1, 1, 1, 1, 1, 1, 1])]) (Nat.lt_succ_self m2) hK2)
            refine pc R 9999 [.ln (v1.length), .as 54 true] [.keep [3, 7, 8, 9, 11, 12] [0, 1, 2]] (k' := [.code (.loop (cAt Try.f35 [1, 1, 1, 1, 1, 1, 0, 1, 0, 0, 1, 0, 0, 1, 0, 0])), .blk 4, .blk 3, .code (cAt Try.f35 [1, 1, 1, 1, 1, 1, 0, 1, 0, 0, 1, 1]), .inv (Jr R (spec_LatestStarts_L2_S a0 v1 v3) (Mk (spec_LatestStarts_L2 a0 v1 v3) (spec_LatestStarts_L2_k) r) (m2 + 1)), .blk 2, .code (cAt Try.f35 [1, 1, 1, 1, 1, 1, 1])]) (S' := spec_LatestStarts_L3_S a0 v1 v3 s14 (s13, 0)) (And.intro (lenm encS v1) (And.intro h16 True.intro)) (by kernel_rfl) ?_
            refine lq (spec_LatestStarts_L3_S a0 v1 v3 s14) (body := spec_LatestStarts_L3 a0 v1 v3) (k := spec_LatestStarts_L3_k s14) hM fun m3 s c3 hM hK3 => ?_
            obtain ⟨s17, s18⟩ := s
            have hM : spec_LatestStarts_L3_b a0 v1 v3 s17 s18 = some c3 := hM
            unfold spec_LatestStarts_L3_b at hM
            rcases cond_cases hM with ⟨h20, hM⟩ | ⟨h20, hM⟩
            · obtain ⟨v21, h22, hM⟩ := bind_some hM
              obtain ⟨v23, h24, hM⟩ := bind_some hM
              obtain ⟨v25, h26, hM⟩ := bind_some hM
              obtain ⟨v27, h28, hM⟩ := bind_some hM
              obtain ⟨v29, h30, hM⟩ := bind_some hM
              have J1 : ∀ (s31 : Int), spec_LatestStarts_j1 a0 v3 s17 s18 v23 v27 s31 = some c3 → Gr R [.code (cAt Try.f35 [1, 1, 1, 1, 1, 1, 0, 1, 0, 0, 1, 0, 0, 1, 0, 0, 1, 0, 0, 1, 1, 1, 1]), .blk 5, .code (cAt Try.f35 [1, 1, 1, 1, 1, 1, 0, 1, 0, 0, 1, 0, 0, 1, 0, 0, 1, 1]), .inv (Jr R (spec_LatestStarts_L3_S a0 v1 v3 s14) (Mk (spec_LatestStarts_L3 a0 v1 v3) (spec_LatestStarts_L3_k s14) c2) (m3 + 1)), .blk 4, .blk 3, .code (cAt Try.f35 [1, 1, 1, 1, 1, 1, 0, 1, 0, 0, 1, 1]), .inv (Jr R (spec_LatestStarts_L2_S a0 v1 v3) (Mk (spec_LatestStarts_L2 a0 v1 v3) (spec_LatestStarts_L2_k) r) (m2 + 1)), .blk 2, .code (cAt Try.f35 [1, 1, 1, 1, 1, 1, 1])] (⟨[(3, .o (.c (.ptr 0 0))), (7, .o (.c (.sl 1))), (8, .o (.c (.v (.int .i64 v3)))), (9, .o (.c (.sl 2))), (11, .o (.c (.v (.int .i64 s14)))), (12, .o (.c (.v (.int .i64 s18)))), (13, .o (.c (.v (.int .i64 v23)))), (14, .o (.c (.v (.int .i64 v27)))), (15, .o (.c (.v (.int .i64 s31))))], [(0, .box 32 [.rs 6 (a0.Legs.map Leg.enc), .rs 1 (a0.Off.map encI), .v (.int .i64 a0.Change)]), (1, .row 9 1 (v1.map encS)), (2, .row 3 1 (s17.map encI))]⟩) := by
                intro s31 hM
                unfold spec_LatestStarts_j1 at hM
                obtain ⟨v32, h33, hM⟩ := bind_some hM
                obtain ⟨v34, h35, hM⟩ := bind_some hM
                rcases cond_cases hM with ⟨h36, hM⟩ | ⟨h36, hM⟩
                · have hE : some (Ctl.next (s17, w64 (s18 + 1))) = some c3 := hM
                  have hE := Option.some.inj hE
                  subst hE
                  exact pc R 9999 [.call false [] (.o (.c (.v (.int .i64 v32)))) [] [], .ix (encI v34), .as 100 true] [.keep [3, 7, 8, 9, 11, 12] [0, 1, 2]] (And.intro (spec_l3Last_ok a0 s18 s31 v32 h33) (And.intro (gi_lt encI h35) (And.intro ((gi_map encI h35).2) (And.intro h36 True.intro)))) (by kernel_rfl) (li (Sf := spec_LatestStarts_L3_S a0 v1 v3 s14) (M := Mk (spec_LatestStarts_L3 a0 v1 v3) (spec_LatestStarts_L3_k s14) c2) (k := [.blk 4, .blk 3, .code (cAt Try.f35 [1, 1, 1, 1, 1, 1, 0, 1, 0, 0, 1, 1]), .inv (Jr R (spec_LatestStarts_L2_S a0 v1 v3) (Mk (spec_LatestStarts_L2 a0 v1 v3) (spec_LatestStarts_L2_k) r) (m2 + 1)), .blk 2, .code (cAt Try.f35 [1, 1, 1, 1, 1, 1, 1])]) (Nat.lt_succ_self m3) hK3)
                · rcases cond_cases hM with ⟨h37, hM⟩ | ⟨h37, hM⟩
                  · have hE : some (Ctl.next (s17, w64 (s18 + 1))) = some c3 := hM
                    have hE := Option.some.inj hE
                    subst hE
                    exact pc R 9999 [.call false [] (.o (.c (.v (.int .i64 v32)))) [] [], .ix (encI v34), .as 100 false, .as 104 true] [.keep [3, 7, 8, 9, 11, 12] [0, 1, 2]] (And.intro (spec_l3Last_ok a0 s18 s31 v32 h33) (And.intro (gi_lt encI h35) (And.intro ((gi_map encI h35).2) (And.intro h36 (And.intro h37 True.intro))))) (by kernel_rfl) (li (Sf := spec_LatestStarts_L3_S a0 v1 v3 s14) (M := Mk (spec_LatestStarts_L3 a0 v1 v3) (spec_LatestStarts_L3_k s14) c2) (k := [.blk 4, .blk 3, .code (cAt Try.f35 [1, 1, 1, 1, 1, 1, 0, 1, 0, 0, 1, 1]), .inv (Jr R (spec_LatestStarts_L2_S a0 v1 v3) (Mk (spec_LatestStarts_L2 a0 v1 v3) (spec_LatestStarts_L2_k) r) (m2 + 1)), .blk 2, .code (cAt Try.f35 [1, 1, 1, 1, 1, 1, 1])]) (Nat.lt_succ_self m3) hK3)
                  · rcases cond_cases hM with ⟨h38, hM⟩ | ⟨h38, hM⟩
                    · have hE : some (Ctl.next (s17, w64 (s18 + 1))) = some c3 := hM
                      have hE := Option.some.inj hE
                      subst hE
                      exact pc R 9999 [.call false [] (.o (.c (.v (.int .i64 v32)))) [] [], .ix (encI v34), .as 100 false, .as 104 false, .as 108 true] [.keep [3, 7, 8, 9, 11, 12] [0, 1, 2]] (And.intro (spec_l3Last_ok a0 s18 s31 v32 h33) (And.intro (gi_lt encI h35) (And.intro ((gi_map encI h35).2) (And.intro h36 (And.intro h37 (And.intro h38 True.intro)))))) (by kernel_rfl) (li (Sf := spec_LatestStarts_L3_S a0 v1 v3 s14) (M := Mk (spec_LatestStarts_L3 a0 v1 v3) (spec_LatestStarts_L3_k s14) c2) (k := [.blk 4, .blk 3, .code (cAt Try.f35 [1, 1, 1, 1, 1, 1, 0, 1, 0, 0, 1, 1]), .inv (Jr R (spec_LatestStarts_L2_S a0 v1 v3) (Mk (spec_LatestStarts_L2 a0 v1 v3) (spec_LatestStarts_L2_k) r) (m2 + 1)), .blk 2, .code (cAt Try.f35 [1, 1, 1, 1, 1, 1, 1])]) (Nat.lt_succ_self m3) hK3)
                    · obtain ⟨v39, h40, hM⟩ := bind_some hM
                      obtain ⟨v41, h42, hM⟩ := bind_some hM
                      obtain ⟨v43, h44, hM⟩ := bind_some hM
                      obtain ⟨v45, h46, hM⟩ := bind_some hM
                      have hE : some (Ctl.next (List.set s17 (Int.toNat v23) v43, w64 (s18 + 1))) = some c3 := hM
                      have hE := Option.some.inj hE
                      subst hE
                      exact pc R 9999 [.call false [] (.o (.c (.v (.int .i64 v32)))) [] [], .ix (encI v34), .as 100 false, .as 104 false, .as 108 false, .xo [[], [], [], [], [], [.ix (encI v39)], [], [], [], [], [.call false [] (.o (.c (.v (.int .i64 v41)))) [] []], [.call false [] (.o (.c (.v (.int .i64 v43)))) [] []], [], [.ix (encI v45), .nm ((List.set s17 (Int.toNat v23) v43).map encI)]] [.keep [3, 7, 8, 9, 11, 12] [0, 1, 2]] (spec_LatestStarts_x16 a0 v1 v3 s14 s17 s18 v23 v43)] [.keep [3, 7, 8, 9, 11, 12] [0, 1, 2]] (And.intro (spec_l3Last_ok a0 s18 s31 v32 h33) (And.intro (gi_lt encI h35) (And.intro ((gi_map encI h35).2) (And.intro h36 (And.intro h37 (And.intro h38 (And.intro (gi_lt encI h40) (And.intro ((gi_map encI h40).2) (And.intro (spec_l3Starts_ok a0 (Trip.mk s18 v32) v41 h42) (And.intro (spec_Max_ok v39 v41 v43 h44) (And.intro (gi_lt encI h46) (And.intro (And.intro (gi_map encI h46).2 (set_map encI s17 (Int.toNat v23) v43)) (And.intro (rfl : (spec_LatestStarts_x16 a0 v1 v3 s14 s17 s18 v23 v43) = (spec_LatestStarts_x16 a0 v1 v3 s14 s17 s18 v23 v43)) (And.intro (spec_l3Starts_ok a0 (Trip.mk s18 v32) v41 h42) (And.intro (spec_Max_ok v39 v41 v43 h44) (And.intro (gi_lt encI h46) (And.intro (And.intro (gi_map encI h46).2 (set_map encI s17 (Int.toNat v23) v43)) (And.intro (rfl : (spec_LatestStarts_x16 a0 v1 v3 s14 s17 s18 v23 v43) = (spec_LatestStarts_x16 a0 v1 v3 s14 s17 s18 v23 v43)) (And.intro ((gi_map encI h40).2) (And.intro (spec_l3Starts_ok a0 (Trip.mk s18 v32) v41 h42) (And.intro (spec_Max_ok v39 v41 v43 h44) (And.intro (gi_lt encI h46) (And.intro (And.intro (gi_map encI h46).2 (set_map encI s17 (Int.toNat v23) v43)) (And.intro (rfl : (spec_LatestStarts_x16 a0 v1 v3 s14 s17 s18 v23 v43) = (spec_LatestStarts_x16 a0 v1 v3 s14 s17 s18 v23 v43)) (And.intro ((gi_map encI h40).2) (And.intro (spec_l3Starts_ok a0 (Trip.mk s18 v32) v41 h42) (And.intro (spec_Max_ok v39 v41 v43 h44) (And.intro (gi_lt encI h46) (And.intro (And.intro (gi_map encI h46).2 (set_map encI s17 (Int.toNat v23) v43)) (And.intro (rfl : (spec_LatestStarts_x16 a0 v1 v3 s14 s17 s18 v23 v43) = (spec_LatestStarts_x16 a0 v1 v3 s14 s17 s18 v23 v43)) (And.intro (spec_l3Starts_ok a0 (Trip.mk s18 v32) v41 h42) (And.intro ((gi_map encI h40).2) (And.intro (spec_Max_ok v39 v41 v43 h44) (And.intro (gi_lt encI h46) (And.intro (And.intro (gi_map encI h46).2 (set_map encI s17 (Int.toNat v23) v43)) (And.intro (rfl : (spec_LatestStarts_x16 a0 v1 v3 s14 s17 s18 v23 v43) = (spec_LatestStarts_x16 a0 v1 v3 s14 s17 s18 v23 v43)) (And.intro ((gi_map encI h40).2) (And.intro (spec_l3Starts_ok a0 (Trip.mk s18 v32) v41 h42) (And.intro (spec_Max_ok v39 v41 v43 h44) (And.intro (gi_lt encI h46) (And.intro (And.intro (gi_map encI h46).2 (set_map encI s17 (Int.toNat v23) v43)) (And.intro (rfl : (spec_LatestStarts_x16 a0 v1 v3 s14 s17 s18 v23 v43) = (spec_LatestStarts_x16 a0 v1 v3 s14 s17 s18 v23 v43)) (And.intro ((gi_map encI h40).2) (And.intro (spec_l3Starts_ok a0 (Trip.mk s18 v32) v41 h42) (And.intro (spec_Max_ok v39 v41 v43 h44) (And.intro (gi_lt encI h46) (And.intro (And.intro (gi_map encI h46).2 (set_map encI s17 (Int.toNat v23) v43)) (And.intro (rfl : (spec_LatestStarts_x16 a0 v1 v3 s14 s17 s18 v23 v43) = (spec_LatestStarts_x16 a0 v1 v3 s14 s17 s18 v23 v43)) (And.intro (spec_l3Starts_ok a0 (Trip.mk s18 v32) v41 h42) (And.intro ((gi_map encI h40).2) (And.intro (spec_Max_ok v39 v41 v43 h44) (And.intro (gi_lt encI h46) (And.intro (And.intro (gi_map encI h46).2 (set_map encI s17 (Int.toNat v23) v43)) (And.intro (rfl : (spec_LatestStarts_x16 a0 v1 v3 s14 s17 s18 v23 v43) = (spec_LatestStarts_x16 a0 v1 v3 s14 s17 s18 v23 v43)) True.intro)))))))))))))))))))))))))))))))))))))))))))))))))))))) (by kernel_rfl) (li (Sf := spec_LatestStarts_L3_S a0 v1 v3 s14) (M := Mk (spec_LatestStarts_L3 a0 v1 v3) (spec_LatestStarts_L3_k s14) c2) (k := [.blk 4, .blk 3, .code (cAt Try.f35 [1, 1, 1, 1, 1, 1, 0, 1, 0, 0, 1, 1]), .inv (Jr R (spec_LatestStarts_L2_S a0 v1 v3) (Mk (spec_LatestStarts_L2 a0 v1 v3) (spec_LatestStarts_L2_k) r) (m2 + 1)), .blk 2, .code (cAt Try.f35 [1, 1, 1, 1, 1, 1, 1])]) (Nat.lt_succ_self m3) hK3)
              rcases cond_cases hM with ⟨h47, hM⟩ | ⟨h47, hM⟩
              · exact pc R 18 [.ln (a0.Legs.length), .as 61 true, .ix (Leg.enc v21), .call false [] (.o (.c (.v (.int .i64 v23)))) [] [], .ix (Leg.enc v25), .call false [] (.o (.c (.v (.int .i64 v27)))) [] [], .ix (encI v29), .as 86 true] [.keep [3, 7, 8, 9, 11, 12, 13, 14, 15] [0, 1, 2]] (And.intro (lenm Leg.enc a0.Legs) (And.intro h20 (And.intro (gi_map Leg.enc h22) (And.intro (spec_l4Index_ok v1 v21.From v23 h24) (And.intro (gi_map Leg.enc h26) (And.intro (spec_l4Index_ok v1 v25.To v27 h28) (And.intro (gi_lt encI h30) (And.intro ((gi_map encI h30).2) (And.intro h47 True.intro))))))))) (by kernel_rfl) (J1 (w64 (v29 - a0.Change)) hM)
              · exact pc R 18 [.ln (a0.Legs.length), .as 61 true, .ix (Leg.enc v21), .call false [] (.o (.c (.v (.int .i64 v23)))) [] [], .ix (Leg.enc v25), .call false [] (.o (.c (.v (.int .i64 v27)))) [] [], .ix (encI v29), .as 86 false] [.keep [3, 7, 8, 9, 11, 12, 13, 14, 15] [0, 1, 2]] (And.intro (lenm Leg.enc a0.Legs) (And.intro h20 (And.intro (gi_map Leg.enc h22) (And.intro (spec_l4Index_ok v1 v21.From v23 h24) (And.intro (gi_map Leg.enc h26) (And.intro (spec_l4Index_ok v1 v25.To v27 h28) (And.intro (gi_lt encI h30) (And.intro ((gi_map encI h30).2) (And.intro h47 True.intro))))))))) (by kernel_rfl) (J1 v29 hM)
            · have hE : some (Ctl.brk s17) = some c3 := hM
              have hE := Option.some.inj hE
              subst hE
              exact pc R 5 [.ln (a0.Legs.length), .as 61 false] [.keep [3, 7, 8, 9, 11] [0, 1, 2]] (And.intro (lenm Leg.enc a0.Legs) (And.intro h20 True.intro)) (by kernel_rfl) (K3 s17 hK3)
          · have hE : some (Ctl.brk s13) = some c2 := hM
            have hE := Option.some.inj hE
            subst hE
            exact pc R 5 [.ln (v1.length), .as 54 false] [.keep [9] [2]] (And.intro (lenm encS v1) (And.intro h16 True.intro)) (by kernel_rfl) (K2 s13 hK2)
        refine pc R 9999 [.new 0, .call false [] (.o (.c (.sl 1))) [] [(1, .row 9 1 (v1.map encS))], .call false [] (.o (.c (.v (.int .i64 v3)))) [] [], .new 2, .call false [] (.o (.c (.v (.bool v5)))) [] [], .as 26 false, .as 30 false, .as 33 false] [.keep [2, 3, 7, 8, 9, 10] [0, 1, 2]] (k' := [.code (.loop (cAt Try.f35 [1, 1, 1, 1, 1, 0, 1, 0, 0])), .blk 0, .code (cAt Try.f35 [1, 1, 1, 1, 1, 1])]) (S' := spec_LatestStarts_L1_S a0 a2 v1 v3 (([] : List Int), 0)) (And.intro (And.intro (con_sw 1000 1 (spec_PlacesOf_ok a0 v1 h2)) (rfl : ([] : List Nat) = [])) (And.intro (spec_l4Index_ok v1 a1 v3 h4) (And.intro (spec_IsNetwork_ok a0 v5 h6) (And.intro h7 (And.intro h8 (And.intro h9 True.intro)))))) (by kernel_rfl) ?_
        refine lq (spec_LatestStarts_L1_S a0 a2 v1 v3) (body := spec_LatestStarts_L1 a2 v1 v3) (k := spec_LatestStarts_L1_k a0 v1 v3) hM fun m1 s c1 hM hK1 => ?_
        obtain ⟨s10, s11⟩ := s
        have hM : spec_LatestStarts_L1_b a2 v1 v3 s10 s11 = some c1 := hM
        unfold spec_LatestStarts_L1_b at hM
        rcases cond_cases hM with ⟨h48, hM⟩ | ⟨h48, hM⟩
        · rcases cond_cases hM with ⟨h49, hM⟩ | ⟨h49, hM⟩
          · obtain ⟨v50, h51, hM⟩ := bind_some hM
            have hE : some (Ctl.next (v50, w64 (s11 + 1))) = some c1 := hM
            have hE := Option.some.inj hE
            subst hE
            exact pc R 9999 [.ln (v1.length), .as 38 true, .as 43 true, .new 3, .new 4, .nm (v50.map encI)] [.sw 4 2, .keep [2, 3, 7, 8, 9, 10] [0, 1, 2]] (And.intro (lenm encS v1) (And.intro h48 (And.intro h49 (And.intro (ap_ok encI h51) True.intro)))) (by kernel_rfl) (li (Sf := spec_LatestStarts_L1_S a0 a2 v1 v3) (M := Mk (spec_LatestStarts_L1 a2 v1 v3) (spec_LatestStarts_L1_k a0 v1 v3) r) (k := [.blk 0, .code (cAt Try.f35 [1, 1, 1, 1, 1, 1])]) (Nat.lt_succ_self m1) hK1)
          · obtain ⟨v52, h53, hM⟩ := bind_some hM
            have hE : some (Ctl.next (v52, w64 (s11 + 1))) = some c1 := hM
            have hE := Option.some.inj hE
            subst hE
            exact pc R 9999 [.ln (v1.length), .as 38 true, .as 43 false, .new 5, .new 6, .nm (v52.map encI)] [.sw 6 2, .keep [2, 3, 7, 8, 9, 10] [0, 1, 2]] (And.intro (lenm encS v1) (And.intro h48 (And.intro h49 (And.intro (ap_ok encI h53) True.intro)))) (by kernel_rfl) (li (Sf := spec_LatestStarts_L1_S a0 a2 v1 v3) (M := Mk (spec_LatestStarts_L1 a2 v1 v3) (spec_LatestStarts_L1_k a0 v1 v3) r) (k := [.blk 0, .code (cAt Try.f35 [1, 1, 1, 1, 1, 1])]) (Nat.lt_succ_self m1) hK1)
        · have hE : some (Ctl.brk s10) = some c1 := hM
          have hE := Option.some.inj hE
          subst hE
          exact pc R 5 [.ln (v1.length), .as 38 false] [.keep [3, 7, 8, 9] [0, 1, 2]] (And.intro (lenm encS v1) (And.intro h48 True.intro)) (by kernel_rfl) (K1 s10 hK1)

-- loop.example/g03014/impl.LastTrip
def impl_LastTrip_L1_b (a0 : Network) (a1 : Int) (a2 : Int) (s4 : Int) : Option (Ctl Int Unit (Trip × Bool)) :=
  bif (decide (s4 ≥ 0)) then
  (impl_runs a0 a1 s4).bind fun v6 =>
  bif v6 then
  (impl_ends a0 (Trip.mk ((Trip.mk a1 s4).Leg) ((Trip.mk a1 s4).Day))).bind fun v9 =>
  bif (decide (v9 ≤ a2)) then
  some (.ret ((Trip.mk ((Trip.mk ((Trip.mk a1 s4).Leg) ((Trip.mk a1 s4).Day)).Leg) ((Trip.mk ((Trip.mk a1 s4).Leg) ((Trip.mk a1 s4).Day)).Day)), true))
  else
  some (.next (w64 (s4 - 1)))
  else
  some (.next (w64 (s4 - 1)))
  else
  some (.brk ())
def impl_LastTrip_L1 (a0 : Network) (a1 : Int) (a2 : Int) (s : Int) : Option (Ctl Int Unit (Trip × Bool)) := impl_LastTrip_L1_b a0 a1 a2 s
def impl_LastTrip_L1_s (a0 : Network) (a1 : Int) (a2 : Int) (s4 : Int) : St := ⟨[(1, .o (.c (.v (.int .i64 a1)))), (2, .o (.c (.v (.int .i64 a2)))), (3, .o (.c (.ptr 0 0))), (6, .o (.c (.ptr 1 0))), (8, .o (.c (.v (.int .i64 s4))))], [(0, .box 32 [.rs 6 (a0.Legs.map Leg.enc), .rs 1 (a0.Off.map encI), .v (.int .i64 a0.Change)]), (1, .box 74 [.v (.int .i64 0), .v (.int .i64 0)])]⟩
def impl_LastTrip_L1_S (a0 : Network) (a1 : Int) (a2 : Int) (s : Int) : St := impl_LastTrip_L1_s a0 a1 a2 s
def impl_LastTrip_L1_a : Option (Trip × Bool) :=
  some ((Trip.mk ((Trip.mk 0 0).Leg) ((Trip.mk 0 0).Day)), false)
def impl_LastTrip_L1_k (x : (Unit) ⊕ (Trip × Bool)) : Option (Trip × Bool) := match x with
  | .inl t => impl_LastTrip_L1_a
  | .inr y => some y
def impl_LastTrip (a0 : Network) (a1 : Int) (a2 : Int) : Option (Trip × Bool) :=
  (impl_IsNetwork a0).bind fun v1 =>
  bif (!v1) then
  some ((Trip.mk ((Trip.mk 0 0).Leg) ((Trip.mk 0 0).Day)), false)
  else
  (loopM (impl_LastTrip_L1 a0 a1 a2) big 60).bind (impl_LastTrip_L1_k)
theorem impl_LastTrip_ok (a0 : Network) (a1 : Int) (a2 : Int) (r : Trip × Bool) (hM : impl_LastTrip a0 a1 a2 = some r) :
    Con Try.prog 91 [.agg [.rs 6 (a0.Legs.map Leg.enc), .rs 1 (a0.Off.map encI), .v (.int .i64 a0.Change)], .c (.v (.int .i64 a1)), .c (.v (.int .i64 a2))] [] (.tup [.c (.v (.agg (Trip.enc r.1).toArray)), .c (.v (.bool r.2))]) [] [] := by
  unfold impl_LastTrip at hM
  refine cn (N := 34) (pids := []) Try_mixed Try.func91 (by kernel_rfl) (by kernel_rfl) (by kernel_rfl) rfl fun ρ g w R => ?_
  obtain ⟨v1, h2, hM⟩ := bind_some hM
  rcases cond_cases hM with ⟨h3, hM⟩ | ⟨h3, hM⟩
  · have hE : some ((Trip.mk ((Trip.mk 0 0).Leg) ((Trip.mk 0 0).Day)), false) = some r := hM
    have hE := Option.some.inj hE
    subst hE
    exact pr R 9999 [.new 0, .new 1, .call false [] (.o (.c (.v (.bool v1)))) [] [], .as 12 true] [] [] [] (And.intro (impl_IsNetwork_ok a0 v1 h2) (And.intro h3 True.intro)) (by kernel_rfl)
  · have K1 : ∀ (_ : Unit), impl_LastTrip_L1_a = some r → Gr R [.code (cAt Try.f91 [1, 1, 1])] (⟨[(6, .o (.c (.ptr 1 0)))], [(1, .box 74 [.v (.int .i64 0), .v (.int .i64 0)])]⟩) := by
      intro _ hM
      unfold impl_LastTrip_L1_a at hM
      have hE : some ((Trip.mk ((Trip.mk 0 0).Leg) ((Trip.mk 0 0).Day)), false) = some r := hM
      have hE := Option.some.inj hE
      subst hE
      exact pr R 9999 [] [] [] [] True.intro (by kernel_rfl)
    refine pc R 9999 [.new 0, .new 1, .call false [] (.o (.c (.v (.bool v1)))) [] [], .as 12 false] [.keep [1, 2, 3, 6, 8] [0, 1]] (k' := [.code (.loop (cAt Try.f91 [1, 1, 0, 1, 0, 0])), .blk 0, .code (cAt Try.f91 [1, 1, 1])]) (S' := impl_LastTrip_L1_S a0 a1 a2 60) (And.intro (impl_IsNetwork_ok a0 v1 h2) (And.intro h3 True.intro)) (by kernel_rfl) ?_
    refine lq (impl_LastTrip_L1_S a0 a1 a2) (body := impl_LastTrip_L1 a0 a1 a2) (k := impl_LastTrip_L1_k) hM fun m1 s c1 hM hK1 => ?_
    obtain ⟨s4, hs⟩ : ∃ z, z = s := ⟨_, rfl⟩
    subst hs
    have hM : impl_LastTrip_L1_b a0 a1 a2 s4 = some c1 := hM
    unfold impl_LastTrip_L1_b at hM
    rcases cond_cases hM with ⟨h5, hM⟩ | ⟨h5, hM⟩
    · obtain ⟨v6, h7, hM⟩ := bind_some hM
      rcases cond_cases hM with ⟨h8, hM⟩ | ⟨h8, hM⟩
      · obtain ⟨v9, h10, hM⟩ := bind_some hM
        rcases cond_cases hM with ⟨h11, hM⟩ | ⟨h11, hM⟩
        · have hE : some (Ctl.ret ((Trip.mk ((Trip.mk ((Trip.mk a1 s4).Leg) ((Trip.mk a1 s4).Day)).Leg) ((Trip.mk ((Trip.mk a1 s4).Leg) ((Trip.mk a1 s4).Day)).Day)), true)) = some c1 := hM
          have hE := Option.some.inj hE
          subst hE
          have hE : some ((Trip.mk ((Trip.mk ((Trip.mk a1 s4).Leg) ((Trip.mk a1 s4).Day)).Leg) ((Trip.mk ((Trip.mk a1 s4).Leg) ((Trip.mk a1 s4).Day)).Day)), true) = some r := hK1
          have hE := Option.some.inj hE
          subst hE
          exact pr R 9999 [.as 15 true, .new 2, .call false [] (.o (.c (.v (.bool v6)))) [] [], .as 25 true, .call false [] (.o (.c (.v (.int .i64 v9)))) [] [], .as 31 true] [] [] [] (And.intro h5 (And.intro (impl_runs_ok a0 a1 s4 v6 h7) (And.intro h8 (And.intro (impl_ends_ok a0 (Trip.mk ((Trip.mk a1 s4).Leg) ((Trip.mk a1 s4).Day)) v9 h10) (And.intro h11 True.intro))))) (by kernel_rfl)
        · have hE : some (Ctl.next (w64 (s4 - 1))) = some c1 := hM
          have hE := Option.some.inj hE
          subst hE
          exact pc R 9999 [.as 15 true, .new 2, .call false [] (.o (.c (.v (.bool v6)))) [] [], .as 25 true, .call false [] (.o (.c (.v (.int .i64 v9)))) [] [], .as 31 false] [.keep [1, 2, 3, 6, 8] [0, 1]] (And.intro h5 (And.intro (impl_runs_ok a0 a1 s4 v6 h7) (And.intro h8 (And.intro (impl_ends_ok a0 (Trip.mk ((Trip.mk a1 s4).Leg) ((Trip.mk a1 s4).Day)) v9 h10) (And.intro h11 True.intro))))) (by kernel_rfl) (li (Sf := impl_LastTrip_L1_S a0 a1 a2) (M := Mk (impl_LastTrip_L1 a0 a1 a2) (impl_LastTrip_L1_k) r) (k := [.blk 0, .code (cAt Try.f91 [1, 1, 1])]) (Nat.lt_succ_self m1) hK1)
      · have hE : some (Ctl.next (w64 (s4 - 1))) = some c1 := hM
        have hE := Option.some.inj hE
        subst hE
        exact pc R 9999 [.as 15 true, .new 2, .call false [] (.o (.c (.v (.bool v6)))) [] [], .as 25 false] [.keep [1, 2, 3, 6, 8] [0, 1]] (And.intro h5 (And.intro (impl_runs_ok a0 a1 s4 v6 h7) (And.intro h8 True.intro))) (by kernel_rfl) (li (Sf := impl_LastTrip_L1_S a0 a1 a2) (M := Mk (impl_LastTrip_L1 a0 a1 a2) (impl_LastTrip_L1_k) r) (k := [.blk 0, .code (cAt Try.f91 [1, 1, 1])]) (Nat.lt_succ_self m1) hK1)
    · have hE : some (Ctl.brk ()) = some c1 := hM
      have hE := Option.some.inj hE
      subst hE
      exact pc R 5 [.as 15 false] [.keep [6] [1]] (And.intro h5 True.intro) (by kernel_rfl) (K1 () hK1)

-- loop.example/g03014/impl.LatestStarts
def impl_LatestStarts_j1 (a0 : Network) (s19 : (List Int)) (s20 : Bool) (s21 : Int) (v27 : Int) (s37 : Int) : Option (Ctl ((List Int) × Bool × Int) ((List Int) × Bool) (List Int)) :=
  (impl_LastTrip a0 s21 s37).bind fun v38 =>
  bif v38.2 then
  (impl_starts a0 v38.1).bind fun v41 =>
  (gi s19 v27).bind fun v43 =>
  bif (decide (v41 > v43)) then
  (impl_starts a0 v38.1).bind fun v46 =>
  (gi s19 v27).bind fun v48 =>
  some (.next (List.set s19 (Int.toNat v27) v46, true, w64 (s21 + 1)))
  else
  some (.next (s19, s20, w64 (s21 + 1)))
  else
  some (.next (s19, s20, w64 (s21 + 1)))
def impl_LatestStarts_L3_b (a0 : Network) (a2 : Int) (v1 : (List ByteArray)) (v3 : Int) (s19 : (List Int)) (s20 : Bool) (s21 : Int) : Option (Ctl ((List Int) × Bool × Int) ((List Int) × Bool) (List Int)) :=
  bif (decide (s21 < (a0.Legs.length : Int))) then
  (gi a0.Legs s21).bind fun v25 =>
  (impl_placeAt v1 v25.From).bind fun v27 =>
  (impl_placeAt v1 v25.To).bind fun v29 =>
  (gi s19 v29).bind fun v31 =>
  bif (decide (v31 < 0)) then
  some (.next (s19, s20, w64 (s21 + 1)))
  else
  bif (v27 == v3) then
  some (.next (s19, s20, w64 (s21 + 1)))
  else
  (gi s19 v29).bind fun v35 =>
  bif (v29 == v3) then
  impl_LatestStarts_j1 a0 s19 s20 s21 v27 a2
  else
  impl_LatestStarts_j1 a0 s19 s20 s21 v27 (w64 (v35 - a0.Change))
  else
  some (.brk (s19, s20))
def impl_LatestStarts_L3 (a0 : Network) (a2 : Int) (v1 : (List ByteArray)) (v3 : Int) (s : (List Int) × Bool × Int) : Option (Ctl ((List Int) × Bool × Int) ((List Int) × Bool) (List Int)) := impl_LatestStarts_L3_b a0 a2 v1 v3 s.1 s.2.1 s.2.2
def impl_LatestStarts_L3_s (a0 : Network) (a2 : Int) (v1 : (List ByteArray)) (v3 : Int) (s19 : (List Int)) (s20 : Bool) (s21 : Int) : St := ⟨[(2, .o (.c (.v (.int .i64 a2)))), (3, .o (.c (.ptr 0 0))), (7, .o (.c (.sl 1))), (8, .o (.c (.v (.int .i64 v3)))), (9, .o (.c (.sl 2))), (10, .o (.c (.v (.bool s20)))), (49, .o (.c (.rs 6 (a0.Legs.map Leg.enc)))), (50, .o (.c (.v (.int .i64 (a0.Legs.length : Int))))), (51, .o (.c (.v (.int .i64 s21))))], [(0, .box 32 [.rs 6 (a0.Legs.map Leg.enc), .rs 1 (a0.Off.map encI), .v (.int .i64 a0.Change)]), (1, .row 9 1 (v1.map encS)), (2, .row 3 1 (s19.map encI))]⟩
def impl_LatestStarts_L3_S (a0 : Network) (a2 : Int) (v1 : (List ByteArray)) (v3 : Int) (s : (List Int) × Bool × Int) : St := impl_LatestStarts_L3_s a0 a2 v1 v3 s.1 s.2.1 s.2.2
def impl_LatestStarts_L3_a (s22 : (List Int)) (s23 : Bool) : Option (Ctl ((List Int) × Bool) (List Int) (List Int)) :=
  some (.next (s22, s23))
def impl_LatestStarts_L3_k (x : ((List Int) × Bool) ⊕ ((List Int))) : Option (Ctl ((List Int) × Bool) (List Int) (List Int)) := match x with
  | .inl t => impl_LatestStarts_L3_a t.1 t.2
  | .inr y => some (.ret y)
def impl_LatestStarts_L2_b (a0 : Network) (a2 : Int) (v1 : (List ByteArray)) (v3 : Int) (s15 : (List Int)) (s16 : Bool) : Option (Ctl ((List Int) × Bool) (List Int) (List Int)) :=
  bif s16 then
  (loopM (impl_LatestStarts_L3 a0 a2 v1 v3) big (s15, false, 0)).bind (impl_LatestStarts_L3_k)
  else
  some (.brk s15)
def impl_LatestStarts_L2 (a0 : Network) (a2 : Int) (v1 : (List ByteArray)) (v3 : Int) (s : (List Int) × Bool) : Option (Ctl ((List Int) × Bool) (List Int) (List Int)) := impl_LatestStarts_L2_b a0 a2 v1 v3 s.1 s.2
def impl_LatestStarts_L2_s (a0 : Network) (a2 : Int) (v1 : (List ByteArray)) (v3 : Int) (s15 : (List Int)) (s16 : Bool) : St := ⟨[(2, .o (.c (.v (.int .i64 a2)))), (3, .o (.c (.ptr 0 0))), (7, .o (.c (.sl 1))), (8, .o (.c (.v (.int .i64 v3)))), (9, .o (.c (.sl 2))), (10, .o (.c (.v (.bool s16))))], [(0, .box 32 [.rs 6 (a0.Legs.map Leg.enc), .rs 1 (a0.Off.map encI), .v (.int .i64 a0.Change)]), (1, .row 9 1 (v1.map encS)), (2, .row 3 1 (s15.map encI))]⟩
def impl_LatestStarts_L2_S (a0 : Network) (a2 : Int) (v1 : (List ByteArray)) (v3 : Int) (s : (List Int) × Bool) : St := impl_LatestStarts_L2_s a0 a2 v1 v3 s.1 s.2
def impl_LatestStarts_L2_a (s17 : (List Int)) : Option (List Int) :=
  some s17
def impl_LatestStarts_L2_k (x : ((List Int)) ⊕ ((List Int))) : Option (List Int) := match x with
  | .inl t => impl_LatestStarts_L2_a t
  | .inr y => some y
def impl_LatestStarts_L1_b (v1 : (List ByteArray)) (s10 : (List Int)) (s11 : Int) : Option (Ctl ((List Int) × Int) (List Int) (List Int)) :=
  bif (decide (s11 < (v1.length : Int))) then
  (ap 8 s10 ([(-1)] : List Int)).bind fun v52 =>
  some (.next (v52, w64 (s11 + 1)))
  else
  some (.brk s10)
def impl_LatestStarts_L1 (v1 : (List ByteArray)) (s : (List Int) × Int) : Option (Ctl ((List Int) × Int) (List Int) (List Int)) := impl_LatestStarts_L1_b v1 s.1 s.2
def impl_LatestStarts_L1_s (a0 : Network) (a2 : Int) (v1 : (List ByteArray)) (v3 : Int) (s10 : (List Int)) (s11 : Int) : St := ⟨[(2, .o (.c (.v (.int .i64 a2)))), (3, .o (.c (.ptr 0 0))), (7, .o (.c (.sl 1))), (8, .o (.c (.v (.int .i64 v3)))), (9, .o (.c (.sl 2))), (36, .o (.c (.v (.int .i64 (v1.length : Int))))), (37, .o (.c (.v (.int .i64 s11))))], [(0, .box 32 [.rs 6 (a0.Legs.map Leg.enc), .rs 1 (a0.Off.map encI), .v (.int .i64 a0.Change)]), (1, .row 9 1 (v1.map encS)), (2, .row 3 1 (s10.map encI))]⟩
def impl_LatestStarts_L1_S (a0 : Network) (a2 : Int) (v1 : (List ByteArray)) (v3 : Int) (s : (List Int) × Int) : St := impl_LatestStarts_L1_s a0 a2 v1 v3 s.1 s.2
def impl_LatestStarts_L1_a (a0 : Network) (a2 : Int) (v1 : (List ByteArray)) (v3 : Int) (s12 : (List Int)) : Option (List Int) :=
  (gi s12 v3).bind fun v13 =>
  (loopM (impl_LatestStarts_L2 a0 a2 v1 v3) big (List.set s12 (Int.toNat v3) a2, true)).bind (impl_LatestStarts_L2_k)
def impl_LatestStarts_L1_k (a0 : Network) (a2 : Int) (v1 : (List ByteArray)) (v3 : Int) (x : ((List Int)) ⊕ ((List Int))) : Option (List Int) := match x with
  | .inl t => impl_LatestStarts_L1_a a0 a2 v1 v3 t
  | .inr y => some y
def impl_LatestStarts (a0 : Network) (a1 : ByteArray) (a2 : Int) : Option (List Int) :=
  (impl_PlacesOf a0).bind fun v1 =>
  (impl_placeAt v1 a1).bind fun v3 =>
  (impl_IsNetwork a0).bind fun v5 =>
  bif (!v5) then
  some ([] : List Int)
  else
  bif (decide (v3 < 0)) then
  some ([] : List Int)
  else
  bif (decide (a2 < 0)) then
  some ([] : List Int)
  else
  (loopM (impl_LatestStarts_L1 v1) big (([] : List Int), 0)).bind (impl_LatestStarts_L1_k a0 a2 v1 v3)
theorem impl_LatestStarts_ok (a0 : Network) (a1 : ByteArray) (a2 : Int) (r : (List Int)) (hM : impl_LatestStarts a0 a1 a2 = some r) :
    Con Try.prog 36 [.agg [.rs 6 (a0.Legs.map Leg.enc), .rs 1 (a0.Off.map encI), .v (.int .i64 a0.Change)], .c (.v (.string a1)), .c (.v (.int .i64 a2))] [] (.o (.c (.sl 1000))) [] [(1000, .row 3 1 (r.map encI))] := by
  unfold impl_LatestStarts at hM
  refine cn (N := 111) (pids := []) Try_mixed Try.func36 (by kernel_rfl) (by kernel_rfl) (by kernel_rfl) rfl fun ρ g w R => ?_
  obtain ⟨v1, h2, hM⟩ := bind_some hM
  obtain ⟨v3, h4, hM⟩ := bind_some hM
  obtain ⟨v5, h6, hM⟩ := bind_some hM
  rcases cond_cases hM with ⟨h7, hM⟩ | ⟨h7, hM⟩
  · have hE : some ([] : List Int) = some r := hM
    have hE := Option.some.inj hE
    subst hE
    exact pr R 9999 [.new 0, .call false [] (.o (.c (.sl 1))) [] [(1, .row 9 1 (v1.map encS))], .call false [] (.o (.c (.v (.int .i64 v3)))) [] [], .call false [] (.o (.c (.v (.bool v5)))) [] [], .as 26 true] [.nl 6 1000 3 1] [] [1000] (And.intro (And.intro (con_sw 1000 1 (impl_PlacesOf_ok a0 v1 h2)) (rfl : ([] : List Nat) = [])) (And.intro (impl_placeAt_ok v1 a1 v3 h4) (And.intro (impl_IsNetwork_ok a0 v5 h6) (And.intro h7 True.intro)))) (by kernel_rfl)
  · rcases cond_cases hM with ⟨h8, hM⟩ | ⟨h8, hM⟩
    · have hE : some ([] : List Int) = some r := hM
      have hE := Option.some.inj hE
      subst hE
      exact pr R 9999 [.new 0, .call false [] (.o (.c (.sl 1))) [] [(1, .row 9 1 (v1.map encS))], .call false [] (.o (.c (.v (.int .i64 v3)))) [] [], .call false [] (.o (.c (.v (.bool v5)))) [] [], .as 26 false, .as 30 true] [.nl 6 1000 3 1] [] [1000] (And.intro (And.intro (con_sw 1000 1 (impl_PlacesOf_ok a0 v1 h2)) (rfl : ([] : List Nat) = [])) (And.intro (impl_placeAt_ok v1 a1 v3 h4) (And.intro (impl_IsNetwork_ok a0 v5 h6) (And.intro h7 (And.intro h8 True.intro))))) (by kernel_rfl)
    · rcases cond_cases hM with ⟨h9, hM⟩ | ⟨h9, hM⟩
      · have hE : some ([] : List Int) = some r := hM
        have hE := Option.some.inj hE
        subst hE
        exact pr R 9999 [.new 0, .call false [] (.o (.c (.sl 1))) [] [(1, .row 9 1 (v1.map encS))], .call false [] (.o (.c (.v (.int .i64 v3)))) [] [], .call false [] (.o (.c (.v (.bool v5)))) [] [], .as 26 false, .as 30 false, .as 33 true] [.nl 6 1000 3 1] [] [1000] (And.intro (And.intro (con_sw 1000 1 (impl_PlacesOf_ok a0 v1 h2)) (rfl : ([] : List Nat) = [])) (And.intro (impl_placeAt_ok v1 a1 v3 h4) (And.intro (impl_IsNetwork_ok a0 v5 h6) (And.intro h7 (And.intro h8 (And.intro h9 True.intro)))))) (by kernel_rfl)
      · have K1 : ∀ (s12 : (List Int)), impl_LatestStarts_L1_a a0 a2 v1 v3 s12 = some r → Gr R [.code (cAt Try.f36 [1, 1, 1, 1, 1, 1])] (⟨[(2, .o (.c (.v (.int .i64 a2)))), (3, .o (.c (.ptr 0 0))), (7, .o (.c (.sl 1))), (8, .o (.c (.v (.int .i64 v3)))), (9, .o (.c (.sl 2)))], [(0, .box 32 [.rs 6 (a0.Legs.map Leg.enc), .rs 1 (a0.Off.map encI), .v (.int .i64 a0.Change)]), (1, .row 9 1 (v1.map encS)), (2, .row 3 1 (s12.map encI))]⟩) := by
          intro s12 hM
          unfold impl_LatestStarts_L1_a at hM
          obtain ⟨v13, h14, hM⟩ := bind_some hM
          have K2 : ∀ (s17 : (List Int)), impl_LatestStarts_L2_a s17 = some r → Gr R [.code (cAt Try.f36 [1, 1, 1, 1, 1, 1, 1, 1])] (⟨[(9, .o (.c (.sl 2)))], [(2, .row 3 1 (s17.map encI))]⟩) := by
            intro s17 hM
            unfold impl_LatestStarts_L2_a at hM
            have hE : some s17 = some r := hM
            have hE := Option.some.inj hE
            subst hE
            exact pr R 9999 [] [.sw 2 1000] [] [1000] True.intro (by kernel_rfl)
          refine pc R 9999 [.ix (encI v13), .nm ((List.set s12 (Int.toNat v3) a2).map encI)] [.keep [2, 3, 7, 8, 9, 10] [0, 1, 2]] (k' := [.code (.loop (cAt Try.f36 [1, 1, 1, 1, 1, 1, 1, 0, 1, 0, 0])), .blk 2, .code (cAt Try.f36 [1, 1, 1, 1, 1, 1, 1, 1])]) (S' := impl_LatestStarts_L2_S a0 a2 v1 v3 (List.set s12 (Int.toNat v3) a2, true)) (And.intro (gi_lt encI h14) (And.intro (And.intro (gi_map encI h14).2 (set_map encI s12 (Int.toNat v3) a2)) True.intro)) (by kernel_rfl) ?_
          refine lq (impl_LatestStarts_L2_S a0 a2 v1 v3) (body := impl_LatestStarts_L2 a0 a2 v1 v3) (k := impl_LatestStarts_L2_k) hM fun m2 s c2 hM hK2 => ?_
          obtain ⟨s15, s16⟩ := s
          have hM : impl_LatestStarts_L2_b a0 a2 v1 v3 s15 s16 = some c2 := hM
          unfold impl_LatestStarts_L2_b at hM
          rcases cond_cases hM with ⟨h18, hM⟩ | ⟨h18, hM⟩
          · have K3 : ∀ (s22 : (List Int)) (s23 : Bool), impl_LatestStarts_L3_a s22 s23 = some c2 → Gr R [.blk 3, .inv (Jr R (impl_LatestStarts_L2_S a0 a2 v1 v3) (Mk (impl_LatestStarts_L2 a0 a2 v1 v3) (impl_LatestStarts_L2_k) r) (m2 + 1)), .blk 2, .code (cAt Try.f36 [1, 1, 1, 1, 1, 1, 1, 1])] (⟨[(2, .o (.c (.v (.int .i64 a2)))), (3, .o (.c (.ptr 0 0))), (7, .o (.c (.sl 1))), (8, .o (.c (.v (.int .i64 v3)))), (9, .o (.c (.sl 2))), (10, .o (.c (.v (.bool s23))))], [(0, .box 32 [.rs 6 (a0.Legs.map Leg.enc), .rs 1 (a0.Off.map encI), .v (.int .i64 a0.Change)]), (1, .row 9 1 (v1.map encS)), (2, .row 3 1 (s22.map encI))]⟩) := by
              intro s22 s23 hM
              unfold impl_LatestStarts_L3_a at hM
              have hE : some (Ctl.next (s22, s23)) = some c2 := hM
              have hE := Option.some.inj hE
              subst hE
              exact pc R 9999 [] [.keep [2, 3, 7, 8, 9, 10] [0, 1, 2]] True.intro (by kernel_rfl) (li (Sf := impl_LatestStarts_L2_S a0 a2 v1 v3) (M := Mk (impl_LatestStarts_L2 a0 a2 v1 v3) (impl_LatestStarts_L2_k) r) (k := [.blk 2, .code (cAt Try.f36 [1, 1, 1, 1, 1, 1, 1, 1])]) (Nat.lt_succ_self m2) hK2)
            refine pc R 9999 [.as 47 true, .ln (a0.Legs.length)] [.keep [2, 3, 7, 8, 9, 10, 49, 50, 51] [0, 1, 2]] (k' := [.code (.loop (cAt Try.f36 [1, 1, 1, 1, 1, 1, 1, 0, 1, 0, 0, 1, 0, 1, 1, 0, 0])), .blk 4, .blk 3, .inv (Jr R (impl_LatestStarts_L2_S a0 a2 v1 v3) (Mk (impl_LatestStarts_L2 a0 a2 v1 v3) (impl_LatestStarts_L2_k) r) (m2 + 1)), .blk 2, .code (cAt Try.f36 [1, 1, 1, 1, 1, 1, 1, 1])]) (S' := impl_LatestStarts_L3_S a0 a2 v1 v3 (s15, false, 0)) (And.intro h18 (And.intro (lenm Leg.enc a0.Legs) True.intro)) (by kernel_rfl) ?_
            refine lq (impl_LatestStarts_L3_S a0 a2 v1 v3) (body := impl_LatestStarts_L3 a0 a2 v1 v3) (k := impl_LatestStarts_L3_k) hM fun m3 s c3 hM hK3 => ?_
            obtain ⟨s19, s20, s21⟩ := s
            have hM : impl_LatestStarts_L3_b a0 a2 v1 v3 s19 s20 s21 = some c3 := hM
            unfold impl_LatestStarts_L3_b at hM
            rcases cond_cases hM with ⟨h24, hM⟩ | ⟨h24, hM⟩
            · obtain ⟨v25, h26, hM⟩ := bind_some hM
              obtain ⟨v27, h28, hM⟩ := bind_some hM
              obtain ⟨v29, h30, hM⟩ := bind_some hM
              obtain ⟨v31, h32, hM⟩ := bind_some hM
              rcases cond_cases hM with ⟨h33, hM⟩ | ⟨h33, hM⟩
              · have hE : some (Ctl.next (s19, s20, w64 (s21 + 1))) = some c3 := hM
                have hE := Option.some.inj hE
                subst hE
                exact pc R 9999 [.as 52 true, .ix (Leg.enc v25), .new 3, .call false [] (.o (.c (.v (.int .i64 v27)))) [] [], .call false [] (.o (.c (.v (.int .i64 v29)))) [] [], .ix (encI v31), .as 69 true] [.keep [2, 3, 7, 8, 9, 10, 49, 50, 51] [0, 1, 2]] (And.intro h24 (And.intro (gi_map Leg.enc h26) (And.intro (impl_placeAt_ok v1 v25.From v27 h28) (And.intro (impl_placeAt_ok v1 v25.To v29 h30) (And.intro (gi_lt encI h32) (And.intro ((gi_map encI h32).2) (And.intro h33 True.intro))))))) (by kernel_rfl) (li (Sf := impl_LatestStarts_L3_S a0 a2 v1 v3) (M := Mk (impl_LatestStarts_L3 a0 a2 v1 v3) (impl_LatestStarts_L3_k) c2) (k := [.blk 4, .blk 3, .inv (Jr R (impl_LatestStarts_L2_S a0 a2 v1 v3) (Mk (impl_LatestStarts_L2 a0 a2 v1 v3) (impl_LatestStarts_L2_k) r) (m2 + 1)), .blk 2, .code (cAt Try.f36 [1, 1, 1, 1, 1, 1, 1, 1])]) (Nat.lt_succ_self m3) hK3)
              · rcases cond_cases hM with ⟨h34, hM⟩ | ⟨h34, hM⟩
                · have hE : some (Ctl.next (s19, s20, w64 (s21 + 1))) = some c3 := hM
                  have hE := Option.some.inj hE
                  subst hE
                  exact pc R 9999 [.as 52 true, .ix (Leg.enc v25), .new 3, .call false [] (.o (.c (.v (.int .i64 v27)))) [] [], .call false [] (.o (.c (.v (.int .i64 v29)))) [] [], .ix (encI v31), .as 69 false, .as 73 true] [.keep [2, 3, 7, 8, 9, 10, 49, 50, 51] [0, 1, 2]] (And.intro h24 (And.intro (gi_map Leg.enc h26) (And.intro (impl_placeAt_ok v1 v25.From v27 h28) (And.intro (impl_placeAt_ok v1 v25.To v29 h30) (And.intro (gi_lt encI h32) (And.intro ((gi_map encI h32).2) (And.intro h33 (And.intro h34 True.intro)))))))) (by kernel_rfl) (li (Sf := impl_LatestStarts_L3_S a0 a2 v1 v3) (M := Mk (impl_LatestStarts_L3 a0 a2 v1 v3) (impl_LatestStarts_L3_k) c2) (k := [.blk 4, .blk 3, .inv (Jr R (impl_LatestStarts_L2_S a0 a2 v1 v3) (Mk (impl_LatestStarts_L2 a0 a2 v1 v3) (impl_LatestStarts_L2_k) r) (m2 + 1)), .blk 2, .code (cAt Try.f36 [1, 1, 1, 1, 1, 1, 1, 1])]) (Nat.lt_succ_self m3) hK3)
                · obtain ⟨v35, h36, hM⟩ := bind_some hM
                  have J1 : ∀ (s37 : Int), impl_LatestStarts_j1 a0 s19 s20 s21 v27 s37 = some c3 → Gr R [.code (cAt Try.f36 [1, 1, 1, 1, 1, 1, 1, 0, 1, 0, 0, 1, 0, 1, 1, 0, 0, 1, 1, 0, 0, 1, 1, 1, 1, 1, 1]), .blk 5, .code (cAt Try.f36 [1, 1, 1, 1, 1, 1, 1, 0, 1, 0, 0, 1, 0, 1, 1, 0, 0, 1, 1, 1]), .inv (Jr R (impl_LatestStarts_L3_S a0 a2 v1 v3) (Mk (impl_LatestStarts_L3 a0 a2 v1 v3) (impl_LatestStarts_L3_k) c2) (m3 + 1)), .blk 4, .blk 3, .inv (Jr R (impl_LatestStarts_L2_S a0 a2 v1 v3) (Mk (impl_LatestStarts_L2 a0 a2 v1 v3) (impl_LatestStarts_L2_k) r) (m2 + 1)), .blk 2, .code (cAt Try.f36 [1, 1, 1, 1, 1, 1, 1, 1])] (⟨[(2, .o (.c (.v (.int .i64 a2)))), (3, .o (.c (.ptr 0 0))), (7, .o (.c (.sl 1))), (8, .o (.c (.v (.int .i64 v3)))), (9, .o (.c (.sl 2))), (10, .o (.c (.v (.bool s20)))), (11, .o (.c (.v (.int .i64 s21)))), (13, .o (.c (.v (.int .i64 v27)))), (15, .o (.c (.v (.int .i64 s37)))), (49, .o (.c (.rs 6 (a0.Legs.map Leg.enc)))), (50, .o (.c (.v (.int .i64 (a0.Legs.length : Int))))), (51, .o (.c (.v (.int .i64 s21))))], [(0, .box 32 [.rs 6 (a0.Legs.map Leg.enc), .rs 1 (a0.Off.map encI), .v (.int .i64 a0.Change)]), (1, .row 9 1 (v1.map encS)), (2, .row 3 1 (s19.map encI))]⟩) := by
                    intro s37 hM
                    unfold impl_LatestStarts_j1 at hM
                    obtain ⟨v38, h39, hM⟩ := bind_some hM
                    rcases cond_cases hM with ⟨h40, hM⟩ | ⟨h40, hM⟩
                    · obtain ⟨v41, h42, hM⟩ := bind_some hM
                      obtain ⟨v43, h44, hM⟩ := bind_some hM
                      rcases cond_cases hM with ⟨h45, hM⟩ | ⟨h45, hM⟩
                      · obtain ⟨v46, h47, hM⟩ := bind_some hM
                        obtain ⟨v48, h49, hM⟩ := bind_some hM
                        have hE : some (Ctl.next (List.set s19 (Int.toNat v27) v46, true, w64 (s21 + 1))) = some c3 := hM
                        have hE := Option.some.inj hE
                        subst hE
                        exact pc R 9999 [.call false [] (.tup [.c (.v (.agg (Trip.enc v38.1).toArray)), .c (.v (.bool v38.2))]) [] [], .new 4, .as 93 true, .call false [] (.o (.c (.v (.int .i64 v41)))) [] [], .ix (encI v43), .as 102 true, .call false [] (.o (.c (.v (.int .i64 v46)))) [] [], .ix (encI v48), .nm ((List.set s19 (Int.toNat v27) v46).map encI)] [.keep [2, 3, 7, 8, 9, 10, 49, 50, 51] [0, 1, 2]] (And.intro (impl_LastTrip_ok a0 s21 s37 v38 h39) (And.intro h40 (And.intro (impl_starts_ok a0 v38.1 v41 h42) (And.intro (gi_lt encI h44) (And.intro ((gi_map encI h44).2) (And.intro h45 (And.intro (impl_starts_ok a0 v38.1 v46 h47) (And.intro (gi_lt encI h49) (And.intro (And.intro (gi_map encI h49).2 (set_map encI s19 (Int.toNat v27) v46)) True.intro))))))))) (by kernel_rfl) (li (Sf := impl_LatestStarts_L3_S a0 a2 v1 v3) (M := Mk (impl_LatestStarts_L3 a0 a2 v1 v3) (impl_LatestStarts_L3_k) c2) (k := [.blk 4, .blk 3, .inv (Jr R (impl_LatestStarts_L2_S a0 a2 v1 v3) (Mk (impl_LatestStarts_L2 a0 a2 v1 v3) (impl_LatestStarts_L2_k) r) (m2 + 1)), .blk 2, .code (cAt Try.f36 [1, 1, 1, 1, 1, 1, 1, 1])]) (Nat.lt_succ_self m3) hK3)
                      · have hE : some (Ctl.next (s19, s20, w64 (s21 + 1))) = some c3 := hM
                        have hE := Option.some.inj hE
                        subst hE
                        exact pc R 9999 [.call false [] (.tup [.c (.v (.agg (Trip.enc v38.1).toArray)), .c (.v (.bool v38.2))]) [] [], .new 4, .as 93 true, .call false [] (.o (.c (.v (.int .i64 v41)))) [] [], .ix (encI v43), .as 102 false] [.keep [2, 3, 7, 8, 9, 10, 49, 50, 51] [0, 1, 2]] (And.intro (impl_LastTrip_ok a0 s21 s37 v38 h39) (And.intro h40 (And.intro (impl_starts_ok a0 v38.1 v41 h42) (And.intro (gi_lt encI h44) (And.intro ((gi_map encI h44).2) (And.intro h45 True.intro)))))) (by kernel_rfl) (li (Sf := impl_LatestStarts_L3_S a0 a2 v1 v3) (M := Mk (impl_LatestStarts_L3 a0 a2 v1 v3) (impl_LatestStarts_L3_k) c2) (k := [.blk 4, .blk 3, .inv (Jr R (impl_LatestStarts_L2_S a0 a2 v1 v3) (Mk (impl_LatestStarts_L2 a0 a2 v1 v3) (impl_LatestStarts_L2_k) r) (m2 + 1)), .blk 2, .code (cAt Try.f36 [1, 1, 1, 1, 1, 1, 1, 1])]) (Nat.lt_succ_self m3) hK3)
                    · have hE : some (Ctl.next (s19, s20, w64 (s21 + 1))) = some c3 := hM
                      have hE := Option.some.inj hE
                      subst hE
                      exact pc R 9999 [.call false [] (.tup [.c (.v (.agg (Trip.enc v38.1).toArray)), .c (.v (.bool v38.2))]) [] [], .new 4, .as 93 false] [.keep [2, 3, 7, 8, 9, 10, 49, 50, 51] [0, 1, 2]] (And.intro (impl_LastTrip_ok a0 s21 s37 v38 h39) (And.intro h40 True.intro)) (by kernel_rfl) (li (Sf := impl_LatestStarts_L3_S a0 a2 v1 v3) (M := Mk (impl_LatestStarts_L3 a0 a2 v1 v3) (impl_LatestStarts_L3_k) c2) (k := [.blk 4, .blk 3, .inv (Jr R (impl_LatestStarts_L2_S a0 a2 v1 v3) (Mk (impl_LatestStarts_L2 a0 a2 v1 v3) (impl_LatestStarts_L2_k) r) (m2 + 1)), .blk 2, .code (cAt Try.f36 [1, 1, 1, 1, 1, 1, 1, 1])]) (Nat.lt_succ_self m3) hK3)
                  rcases cond_cases hM with ⟨h50, hM⟩ | ⟨h50, hM⟩
                  · exact pc R 25 [.as 52 true, .ix (Leg.enc v25), .new 3, .call false [] (.o (.c (.v (.int .i64 v27)))) [] [], .call false [] (.o (.c (.v (.int .i64 v29)))) [] [], .ix (encI v31), .as 69 false, .as 73 false, .ix (encI v35), .as 83 true] [.keep [2, 3, 7, 8, 9, 10, 11, 13, 15, 49, 50, 51] [0, 1, 2]] (And.intro h24 (And.intro (gi_map Leg.enc h26) (And.intro (impl_placeAt_ok v1 v25.From v27 h28) (And.intro (impl_placeAt_ok v1 v25.To v29 h30) (And.intro (gi_lt encI h32) (And.intro ((gi_map encI h32).2) (And.intro h33 (And.intro h34 (And.intro (gi_lt encI h36) (And.intro ((gi_map encI h36).2) (And.intro h50 True.intro))))))))))) (by kernel_rfl) (J1 a2 hM)
                  · exact pc R 25 [.as 52 true, .ix (Leg.enc v25), .new 3, .call false [] (.o (.c (.v (.int .i64 v27)))) [] [], .call false [] (.o (.c (.v (.int .i64 v29)))) [] [], .ix (encI v31), .as 69 false, .as 73 false, .ix (encI v35), .as 83 false] [.keep [2, 3, 7, 8, 9, 10, 11, 13, 15, 49, 50, 51] [0, 1, 2]] (And.intro h24 (And.intro (gi_map Leg.enc h26) (And.intro (impl_placeAt_ok v1 v25.From v27 h28) (And.intro (impl_placeAt_ok v1 v25.To v29 h30) (And.intro (gi_lt encI h32) (And.intro ((gi_map encI h32).2) (And.intro h33 (And.intro h34 (And.intro (gi_lt encI h36) (And.intro ((gi_map encI h36).2) (And.intro h50 True.intro))))))))))) (by kernel_rfl) (J1 (w64 (v35 - a0.Change)) hM)
            · have hE : some (Ctl.brk (s19, s20)) = some c3 := hM
              have hE := Option.some.inj hE
              subst hE
              exact pc R 5 [.as 52 false] [.keep [2, 3, 7, 8, 9, 10] [0, 1, 2]] (And.intro h24 True.intro) (by kernel_rfl) (K3 s19 s20 hK3)
          · have hE : some (Ctl.brk s15) = some c2 := hM
            have hE := Option.some.inj hE
            subst hE
            exact pc R 5 [.as 47 false] [.keep [9] [2]] (And.intro h18 True.intro) (by kernel_rfl) (K2 s15 hK2)
        refine pc R 9999 [.new 0, .call false [] (.o (.c (.sl 1))) [] [(1, .row 9 1 (v1.map encS))], .call false [] (.o (.c (.v (.int .i64 v3)))) [] [], .call false [] (.o (.c (.v (.bool v5)))) [] [], .as 26 false, .as 30 false, .as 33 false, .new 2, .ln (v1.length)] [.keep [2, 3, 7, 8, 9, 36, 37] [0, 1, 2]] (k' := [.code (.loop (cAt Try.f36 [1, 1, 1, 1, 1, 0, 1, 0, 0])), .blk 0, .code (cAt Try.f36 [1, 1, 1, 1, 1, 1])]) (S' := impl_LatestStarts_L1_S a0 a2 v1 v3 (([] : List Int), 0)) (And.intro (And.intro (con_sw 1000 1 (impl_PlacesOf_ok a0 v1 h2)) (rfl : ([] : List Nat) = [])) (And.intro (impl_placeAt_ok v1 a1 v3 h4) (And.intro (impl_IsNetwork_ok a0 v5 h6) (And.intro h7 (And.intro h8 (And.intro h9 (And.intro (lenm encS v1) True.intro))))))) (by kernel_rfl) ?_
        refine lq (impl_LatestStarts_L1_S a0 a2 v1 v3) (body := impl_LatestStarts_L1 v1) (k := impl_LatestStarts_L1_k a0 a2 v1 v3) hM fun m1 s c1 hM hK1 => ?_
        obtain ⟨s10, s11⟩ := s
        have hM : impl_LatestStarts_L1_b v1 s10 s11 = some c1 := hM
        unfold impl_LatestStarts_L1_b at hM
        rcases cond_cases hM with ⟨h51, hM⟩ | ⟨h51, hM⟩
        · obtain ⟨v52, h53, hM⟩ := bind_some hM
          have hE : some (Ctl.next (v52, w64 (s11 + 1))) = some c1 := hM
          have hE := Option.some.inj hE
          subst hE
          exact pc R 9999 [.as 38 true, .new 5, .new 6, .nm (v52.map encI)] [.sw 6 2, .keep [2, 3, 7, 8, 9, 36, 37] [0, 1, 2]] (And.intro h51 (And.intro (ap_ok encI h53) True.intro)) (by kernel_rfl) (li (Sf := impl_LatestStarts_L1_S a0 a2 v1 v3) (M := Mk (impl_LatestStarts_L1 v1) (impl_LatestStarts_L1_k a0 a2 v1 v3) r) (k := [.blk 0, .code (cAt Try.f36 [1, 1, 1, 1, 1, 1])]) (Nat.lt_succ_self m1) hK1)
        · have hE : some (Ctl.brk s10) = some c1 := hM
          have hE := Option.some.inj hE
          subst hE
          exact pc R 5 [.as 38 false] [.keep [2, 3, 7, 8, 9] [0, 1, 2]] (And.intro h51 True.intro) (by kernel_rfl) (K1 s10 hK1)

-- loop.example/g03014/laws.FnExactLatestStarts
def laws_FnExactLatestStarts_x1 (a0 : Network) (a1 : ByteArray) (a2 : Int) (v7 : (List Int)) (v9 : Network) (v11 : (List Int)) (v18 : Bool) : St := ⟨[(1, .o (.c (.v (.string a1)))), (2, .o (.c (.v (.int .i64 a2)))), (3, .o (.c (.ptr 0 0))), (8, .o (.c (.sl 3))), (9, .o (.c (.ptr 6 0))), (10, .o (.c (.sl 7))), (42, .o (.c (.v (.bool (!v18)))))], [(0, .box 25 [.rs 6 (a0.Legs.map Leg.enc), .rs 1 (a0.Off.map encI), .v (.int .i64 a0.Change)]), (3, .row 3 1 (v7.map encI)), (6, .box 32 [.sl 4, .sl 5, .v (.int .i64 v9.Change)]), (4, .row 77 6 (v9.Legs.map Leg.enc)), (5, .row 3 1 (v9.Off.map encI)), (7, .row 3 1 (v11.map encI))]⟩
def laws_FnExactLatestStarts (a0 : Network) (a1 : ByteArray) (a2 : Int) : Option Bool :=
  bif (decide ((a1.size : Int) > 1048576)) then
  some true
  else
  (laws_szNetwork a0 1048576).bind fun v2 =>
  bif (decide (v2 < 0)) then
  some true
  else
  (laws_toNetwork a0).bind fun v5 =>
  (spec_LatestStarts v5 a1 a2).bind fun v7 =>
  (laws_toNetwork a0).bind fun v9 =>
  (impl_LatestStarts v9 a1 a2).bind fun v11 =>
  (laws_eqIntS v11 v7).bind fun v13 =>
  bif (!v13) then
  some false
  else
  (laws_toNetwork a0).bind fun v16 =>
  (laws_eqNetwork v9 v16).bind fun v18 =>
  bif (!v18) then
  some false
  else
  (laws_markNetwork v9 1).bind fun v21 =>
  bif (decide (v21.1 < 0)) then
  some false
  else
  (laws_eqIntS v11 v7).bind fun v24 =>
  bif (!v24) then
  some false
  else
  (laws_markIntS v11 1).bind fun v27 =>
  (laws_heldIntS v27.2 1).bind fun v29 =>
  bif (decide (v29 < 0)) then
  some false
  else
  bif (v29 != v27.1) then
  some false
  else
  (laws_toNetwork a0).bind fun v33 =>
  (impl_LatestStarts v33 a1 a2).bind fun v35 =>
  (laws_eqIntS v35 v7).bind fun v37 =>
  bif (!v37) then
  some false
  else
  (laws_heldIntS v27.2 1).bind fun v40 =>
  bif (decide (v40 < 0)) then
  some false
  else
  bif (v40 != v27.1) then
  some false
  else
  some true
theorem laws_FnExactLatestStarts_ok (a0 : Network) (a1 : ByteArray) (a2 : Int) (r : Bool) (hM : laws_FnExactLatestStarts a0 a1 a2 = some r) :
    Con Try.prog 7 [.agg [.rs 6 (a0.Legs.map Leg.enc), .rs 1 (a0.Off.map encI), .v (.int .i64 a0.Change)], .c (.v (.string a1)), .c (.v (.int .i64 a2))] [] (.o (.c (.v (.bool r)))) [] [] := by
  unfold laws_FnExactLatestStarts at hM
  refine cn (N := 82) (pids := []) Try_mixed Try.func7 (by kernel_rfl) (by kernel_rfl) (by kernel_rfl) rfl fun ρ g w R => ?_
  rcases cond_cases hM with ⟨h1, hM⟩ | ⟨h1, hM⟩
  · have hE : some true = some r := hM
    have hE := Option.some.inj hE
    subst hE
    exact pr R 9999 [.new 0, .as 17 true] [] [] [] (And.intro h1 True.intro) (by kernel_rfl)
  · obtain ⟨v2, h3, hM⟩ := bind_some hM
    rcases cond_cases hM with ⟨h4, hM⟩ | ⟨h4, hM⟩
    · have hE : some true = some r := hM
      have hE := Option.some.inj hE
      subst hE
      exact pr R 9999 [.new 0, .as 17 false, .call false [] (.o (.c (.v (.int .i64 v2)))) [] [], .as 22 true] [] [] [] (And.intro h1 (And.intro (laws_szNetwork_ok a0 1048576 v2 h3) (And.intro h4 True.intro))) (by kernel_rfl)
    · obtain ⟨v5, h6, hM⟩ := bind_some hM
      obtain ⟨v7, h8, hM⟩ := bind_some hM
      obtain ⟨v9, h10, hM⟩ := bind_some hM
      obtain ⟨v11, h12, hM⟩ := bind_some hM
      obtain ⟨v13, h14, hM⟩ := bind_some hM
      rcases cond_cases hM with ⟨h15, hM⟩ | ⟨h15, hM⟩
      · have hE : some false = some r := hM
        have hE := Option.some.inj hE
        subst hE
        exact pr R 9999 [.new 0, .as 17 false, .call false [] (.o (.c (.v (.int .i64 v2)))) [] [], .as 22 false, .call false [] (.o (.agg [.sl 1, .sl 2, .v (.int .i64 v5.Change)])) [] [(1, .row 77 6 (v5.Legs.map Leg.enc)), (2, .row 3 1 (v5.Off.map encI))], .call false [] (.o (.c (.sl 3))) [] [(3, .row 3 1 (v7.map encI))], .call false [] (.o (.agg [.sl 4, .sl 5, .v (.int .i64 v9.Change)])) [] [(4, .row 77 6 (v9.Legs.map Leg.enc)), (5, .row 3 1 (v9.Off.map encI))], .new 6, .call false [] (.o (.c (.sl 7))) [] [(7, .row 3 1 (v11.map encI))], .call false [] (.o (.c (.v (.bool v13)))) [] [], .as 37 true] [] [] [] (And.intro h1 (And.intro (laws_szNetwork_ok a0 1048576 v2 h3) (And.intro h4 (And.intro (And.intro (con_sw 1001 2 (con_sw 1000 1 (laws_toNetwork_ok a0 v5 h6))) (rfl : ([] : List Nat) = [])) (And.intro (And.intro (con_sw 1000 3 (spec_LatestStarts_ok v5 a1 a2 v7 h8)) (rfl : ([] : List Nat) = [])) (And.intro (And.intro (con_sw 1001 5 (con_sw 1000 4 (laws_toNetwork_ok a0 v9 h10))) (rfl : ([] : List Nat) = [])) (And.intro (And.intro (con_sw 1000 7 (impl_LatestStarts_ok v9 a1 a2 v11 h12)) (rfl : ([] : List Nat) = [])) (And.intro (laws_eqIntS_ok v11 v7 v13 h14) (And.intro h15 True.intro))))))))) (by kernel_rfl)
      · obtain ⟨v16, h17, hM⟩ := bind_some hM
        obtain ⟨v18, h19, hM⟩ := bind_some hM
        rcases cond_cases hM with ⟨h20, hM⟩ | ⟨h20, hM⟩
        · have hE : some false = some r := hM
          have hE := Option.some.inj hE
          subst hE
          exact pr R 9999 [.new 0, .as 17 false, .call false [] (.o (.c (.v (.int .i64 v2)))) [] [], .as 22 false, .call false [] (.o (.agg [.sl 1, .sl 2, .v (.int .i64 v5.Change)])) [] [(1, .row 77 6 (v5.Legs.map Leg.enc)), (2, .row 3 1 (v5.Off.map encI))], .call false [] (.o (.c (.sl 3))) [] [(3, .row 3 1 (v7.map encI))], .call false [] (.o (.agg [.sl 4, .sl 5, .v (.int .i64 v9.Change)])) [] [(4, .row 77 6 (v9.Legs.map Leg.enc)), (5, .row 3 1 (v9.Off.map encI))], .new 6, .call false [] (.o (.c (.sl 7))) [] [(7, .row 3 1 (v11.map encI))], .call false [] (.o (.c (.v (.bool v13)))) [] [], .as 37 false, .xo [[], [], [.call false [] (.o (.agg [.sl 8, .sl 9, .v (.int .i64 v16.Change)])) [] [(8, .row 77 6 (v16.Legs.map Leg.enc)), (9, .row 3 1 (v16.Off.map encI))]], [.call false [] (.o (.c (.v (.bool v18)))) [] []], []] [.keep [1, 2, 3, 8, 9, 10, 42] [0, 3, 6, 4, 5, 7]] (laws_FnExactLatestStarts_x1 a0 a1 a2 v7 v9 v11 v18), .as 42 true] [] [] [] (And.intro h1 (And.intro (laws_szNetwork_ok a0 1048576 v2 h3) (And.intro h4 (And.intro (And.intro (con_sw 1001 2 (con_sw 1000 1 (laws_toNetwork_ok a0 v5 h6))) (rfl : ([] : List Nat) = [])) (And.intro (And.intro (con_sw 1000 3 (spec_LatestStarts_ok v5 a1 a2 v7 h8)) (rfl : ([] : List Nat) = [])) (And.intro (And.intro (con_sw 1001 5 (con_sw 1000 4 (laws_toNetwork_ok a0 v9 h10))) (rfl : ([] : List Nat) = [])) (And.intro (And.intro (con_sw 1000 7 (impl_LatestStarts_ok v9 a1 a2 v11 h12)) (rfl : ([] : List Nat) = [])) (And.intro (laws_eqIntS_ok v11 v7 v13 h14) (And.intro h15 (And.intro (And.intro (con_sw 1001 9 (con_sw 1000 8 (laws_toNetwork_ok a0 v16 h17))) (rfl : ([] : List Nat) = [])) (And.intro (laws_eqNetwork_ok v9 v16 v18 h19) (And.intro (rfl : (laws_FnExactLatestStarts_x1 a0 a1 a2 v7 v9 v11 v18) = (laws_FnExactLatestStarts_x1 a0 a1 a2 v7 v9 v11 v18)) (And.intro (And.intro (con_sw 1001 9 (con_sw 1000 8 (laws_toNetwork_ok a0 v16 h17))) (rfl : ([] : List Nat) = [])) (And.intro (laws_eqNetwork_ok v9 v16 v18 h19) (And.intro (rfl : (laws_FnExactLatestStarts_x1 a0 a1 a2 v7 v9 v11 v18) = (laws_FnExactLatestStarts_x1 a0 a1 a2 v7 v9 v11 v18)) (And.intro (And.intro (con_sw 1001 9 (con_sw 1000 8 (laws_toNetwork_ok a0 v16 h17))) (rfl : ([] : List Nat) = [])) (And.intro (laws_eqNetwork_ok v9 v16 v18 h19) (And.intro (rfl : (laws_FnExactLatestStarts_x1 a0 a1 a2 v7 v9 v11 v18) = (laws_FnExactLatestStarts_x1 a0 a1 a2 v7 v9 v11 v18)) (And.intro h20 True.intro))))))))))))))))))) (by kernel_rfl)
        · obtain ⟨v21, h22, hM⟩ := bind_some hM
          rcases cond_cases hM with ⟨h23, hM⟩ | ⟨h23, hM⟩
          · have hE : some false = some r := hM
            have hE := Option.some.inj hE
            subst hE
            exact pr R 9999 [.new 0, .as 17 false, .call false [] (.o (.c (.v (.int .i64 v2)))) [] [], .as 22 false, .call false [] (.o (.agg [.sl 1, .sl 2, .v (.int .i64 v5.Change)])) [] [(1, .row 77 6 (v5.Legs.map Leg.enc)), (2, .row 3 1 (v5.Off.map encI))], .call false [] (.o (.c (.sl 3))) [] [(3, .row 3 1 (v7.map encI))], .call false [] (.o (.agg [.sl 4, .sl 5, .v (.int .i64 v9.Change)])) [] [(4, .row 77 6 (v9.Legs.map Leg.enc)), (5, .row 3 1 (v9.Off.map encI))], .new 6, .call false [] (.o (.c (.sl 7))) [] [(7, .row 3 1 (v11.map encI))], .call false [] (.o (.c (.v (.bool v13)))) [] [], .as 37 false, .xo [[], [], [.call false [] (.o (.agg [.sl 8, .sl 9, .v (.int .i64 v16.Change)])) [] [(8, .row 77 6 (v16.Legs.map Leg.enc)), (9, .row 3 1 (v16.Off.map encI))]], [.call false [] (.o (.c (.v (.bool v18)))) [] []], []] [.keep [1, 2, 3, 8, 9, 10, 42] [0, 3, 6, 4, 5, 7]] (laws_FnExactLatestStarts_x1 a0 a1 a2 v7 v9 v11 v18), .as 42 false, .ad (.keep [1, 2, 3, 8, 9, 10, 11, 42, 43, 44] [4, 5, 0, 3, 6, 7]), .call false [4, 5] (.o (.c (.v (.int .i64 v21.1)))) [(4, .row 77 6 (v21.2.Legs.map Leg.enc)), (5, .row 3 1 (v21.2.Off.map encI))] [], .as 48 true] [] [] [] (And.intro h1 (And.intro (laws_szNetwork_ok a0 1048576 v2 h3) (And.intro h4 (And.intro (And.intro (con_sw 1001 2 (con_sw 1000 1 (laws_toNetwork_ok a0 v5 h6))) (rfl : ([] : List Nat) = [])) (And.intro (And.intro (con_sw 1000 3 (spec_LatestStarts_ok v5 a1 a2 v7 h8)) (rfl : ([] : List Nat) = [])) (And.intro (And.intro (con_sw 1001 5 (con_sw 1000 4 (laws_toNetwork_ok a0 v9 h10))) (rfl : ([] : List Nat) = [])) (And.intro (And.intro (con_sw 1000 7 (impl_LatestStarts_ok v9 a1 a2 v11 h12)) (rfl : ([] : List Nat) = [])) (And.intro (laws_eqIntS_ok v11 v7 v13 h14) (And.intro h15 (And.intro (And.intro (con_sw 1001 9 (con_sw 1000 8 (laws_toNetwork_ok a0 v16 h17))) (rfl : ([] : List Nat) = [])) (And.intro (laws_eqNetwork_ok v9 v16 v18 h19) (And.intro (rfl : (laws_FnExactLatestStarts_x1 a0 a1 a2 v7 v9 v11 v18) = (laws_FnExactLatestStarts_x1 a0 a1 a2 v7 v9 v11 v18)) (And.intro (And.intro (con_sw 1001 9 (con_sw 1000 8 (laws_toNetwork_ok a0 v16 h17))) (rfl : ([] : List Nat) = [])) (And.intro (laws_eqNetwork_ok v9 v16 v18 h19) (And.intro (rfl : (laws_FnExactLatestStarts_x1 a0 a1 a2 v7 v9 v11 v18) = (laws_FnExactLatestStarts_x1 a0 a1 a2 v7 v9 v11 v18)) (And.intro (And.intro (con_sw 1001 9 (con_sw 1000 8 (laws_toNetwork_ok a0 v16 h17))) (rfl : ([] : List Nat) = [])) (And.intro (laws_eqNetwork_ok v9 v16 v18 h19) (And.intro (rfl : (laws_FnExactLatestStarts_x1 a0 a1 a2 v7 v9 v11 v18) = (laws_FnExactLatestStarts_x1 a0 a1 a2 v7 v9 v11 v18)) (And.intro h20 (And.intro (And.intro (con_sw 920 5 (con_sw 900 4 (laws_markNetwork_ok v9 1 v21 h22))) (rfl : ([4, 5] : List Nat) = [4, 5])) (And.intro h23 True.intro))))))))))))))))))))) (by kernel_rfl)
          · obtain ⟨v24, h25, hM⟩ := bind_some hM
            rcases cond_cases hM with ⟨h26, hM⟩ | ⟨h26, hM⟩
            · have hE : some false = some r := hM
              have hE := Option.some.inj hE
              subst hE
              exact pr R 9999 [.new 0, .as 17 false, .call false [] (.o (.c (.v (.int .i64 v2)))) [] [], .as 22 false, .call false [] (.o (.agg [.sl 1, .sl 2, .v (.int .i64 v5.Change)])) [] [(1, .row 77 6 (v5.Legs.map Leg.enc)), (2, .row 3 1 (v5.Off.map encI))], .call false [] (.o (.c (.sl 3))) [] [(3, .row 3 1 (v7.map encI))], .call false [] (.o (.agg [.sl 4, .sl 5, .v (.int .i64 v9.Change)])) [] [(4, .row 77 6 (v9.Legs.map Leg.enc)), (5, .row 3 1 (v9.Off.map encI))], .new 6, .call false [] (.o (.c (.sl 7))) [] [(7, .row 3 1 (v11.map encI))], .call false [] (.o (.c (.v (.bool v13)))) [] [], .as 37 false, .xo [[], [], [.call false [] (.o (.agg [.sl 8, .sl 9, .v (.int .i64 v16.Change)])) [] [(8, .row 77 6 (v16.Legs.map Leg.enc)), (9, .row 3 1 (v16.Off.map encI))]], [.call false [] (.o (.c (.v (.bool v18)))) [] []], []] [.keep [1, 2, 3, 8, 9, 10, 42] [0, 3, 6, 4, 5, 7]] (laws_FnExactLatestStarts_x1 a0 a1 a2 v7 v9 v11 v18), .as 42 false, .ad (.keep [1, 2, 3, 8, 9, 10, 11, 42, 43, 44] [4, 5, 0, 3, 6, 7]), .call false [4, 5] (.o (.c (.v (.int .i64 v21.1)))) [(4, .row 77 6 (v21.2.Legs.map Leg.enc)), (5, .row 3 1 (v21.2.Off.map encI))] [], .as 48 false, .call false [] (.o (.c (.v (.bool v24)))) [] [], .as 53 true] [] [] [] (And.intro h1 (And.intro (laws_szNetwork_ok a0 1048576 v2 h3) (And.intro h4 (And.intro (And.intro (con_sw 1001 2 (con_sw 1000 1 (laws_toNetwork_ok a0 v5 h6))) (rfl : ([] : List Nat) = [])) (And.intro (And.intro (con_sw 1000 3 (spec_LatestStarts_ok v5 a1 a2 v7 h8)) (rfl : ([] : List Nat) = [])) (And.intro (And.intro (con_sw 1001 5 (con_sw 1000 4 (laws_toNetwork_ok a0 v9 h10))) (rfl : ([] : List Nat) = [])) (And.intro (And.intro (con_sw 1000 7 (impl_LatestStarts_ok v9 a1 a2 v11 h12)) (rfl : ([] : List Nat) = [])) (And.intro (laws_eqIntS_ok v11 v7 v13 h14) (And.intro h15 (And.intro (And.intro (con_sw 1001 9 (con_sw 1000 8 (laws_toNetwork_ok a0 v16 h17))) (rfl : ([] : List Nat) = [])) (And.intro (laws_eqNetwork_ok v9 v16 v18 h19) (And.intro (rfl : (laws_FnExactLatestStarts_x1 a0 a1 a2 v7 v9 v11 v18) = (laws_FnExactLatestStarts_x1 a0 a1 a2 v7 v9 v11 v18)) (And.intro (And.intro (con_sw 1001 9 (con_sw 1000 8 (laws_toNetwork_ok a0 v16 h17))) (rfl : ([] : List Nat) = [])) (And.intro (laws_eqNetwork_ok v9 v16 v18 h19) (And.intro (rfl : (laws_FnExactLatestStarts_x1 a0 a1 a2 v7 v9 v11 v18) = (laws_FnExactLatestStarts_x1 a0 a1 a2 v7 v9 v11 v18)) (And.intro (And.intro (con_sw 1001 9 (con_sw 1000 8 (laws_toNetwork_ok a0 v16 h17))) (rfl : ([] : List Nat) = [])) (And.intro (laws_eqNetwork_ok v9 v16 v18 h19) (And.intro (rfl : (laws_FnExactLatestStarts_x1 a0 a1 a2 v7 v9 v11 v18) = (laws_FnExactLatestStarts_x1 a0 a1 a2 v7 v9 v11 v18)) (And.intro h20 (And.intro (And.intro (con_sw 920 5 (con_sw 900 4 (laws_markNetwork_ok v9 1 v21 h22))) (rfl : ([4, 5] : List Nat) = [4, 5])) (And.intro h23 (And.intro (laws_eqIntS_ok v11 v7 v24 h25) (And.intro h26 True.intro))))))))))))))))))))))) (by kernel_rfl)
            · obtain ⟨v27, h28, hM⟩ := bind_some hM
              obtain ⟨v29, h30, hM⟩ := bind_some hM
              rcases cond_cases hM with ⟨h31, hM⟩ | ⟨h31, hM⟩
              · have hE : some false = some r := hM
                have hE := Option.some.inj hE
                subst hE
                exact pr R 9999 [.new 0, .as 17 false, .call false [] (.o (.c (.v (.int .i64 v2)))) [] [], .as 22 false, .call false [] (.o (.agg [.sl 1, .sl 2, .v (.int .i64 v5.Change)])) [] [(1, .row 77 6 (v5.Legs.map Leg.enc)), (2, .row 3 1 (v5.Off.map encI))], .call false [] (.o (.c (.sl 3))) [] [(3, .row 3 1 (v7.map encI))], .call false [] (.o (.agg [.sl 4, .sl 5, .v (.int .i64 v9.Change)])) [] [(4, .row 77 6 (v9.Legs.map Leg.enc)), (5, .row 3 1 (v9.Off.map encI))], .new 6, .call false [] (.o (.c (.sl 7))) [] [(7, .row 3 1 (v11.map encI))], .call false [] (.o (.c (.v (.bool v13)))) [] [], .as 37 false, .xo [[], [], [.call false [] (.o (.agg [.sl 8, .sl 9, .v (.int .i64 v16.Change)])) [] [(8, .row 77 6 (v16.Legs.map Leg.enc)), (9, .row 3 1 (v16.Off.map encI))]], [.call false [] (.o (.c (.v (.bool v18)))) [] []], []] [.keep [1, 2, 3, 8, 9, 10, 42] [0, 3, 6, 4, 5, 7]] (laws_FnExactLatestStarts_x1 a0 a1 a2 v7 v9 v11 v18), .as 42 false, .ad (.keep [1, 2, 3, 8, 9, 10, 11, 42, 43, 44] [4, 5, 0, 3, 6, 7]), .call false [4, 5] (.o (.c (.v (.int .i64 v21.1)))) [(4, .row 77 6 (v21.2.Legs.map Leg.enc)), (5, .row 3 1 (v21.2.Off.map encI))] [], .as 48 false, .call false [] (.o (.c (.v (.bool v24)))) [] [], .as 53 false, .call false [7] (.o (.c (.v (.int .i64 v27.1)))) [(7, .row 3 1 (v27.2.map encI))] [], .call false [] (.o (.c (.v (.int .i64 v29)))) [] [], .as 61 true] [] [] [] (And.intro h1 (And.intro (laws_szNetwork_ok a0 1048576 v2 h3) (And.intro h4 (And.intro (And.intro (con_sw 1001 2 (con_sw 1000 1 (laws_toNetwork_ok a0 v5 h6))) (rfl : ([] : List Nat) = [])) (And.intro (And.intro (con_sw 1000 3 (spec_LatestStarts_ok v5 a1 a2 v7 h8)) (rfl : ([] : List Nat) = [])) (And.intro (And.intro (con_sw 1001 5 (con_sw 1000 4 (laws_toNetwork_ok a0 v9 h10))) (rfl : ([] : List Nat) = [])) (And.intro (And.intro (con_sw 1000 7 (impl_LatestStarts_ok v9 a1 a2 v11 h12)) (rfl : ([] : List Nat) = [])) (And.intro (laws_eqIntS_ok v11 v7 v13 h14) (And.intro h15 (And.intro (And.intro (con_sw 1001 9 (con_sw 1000 8 (laws_toNetwork_ok a0 v16 h17))) (rfl : ([] : List Nat) = [])) (And.intro (laws_eqNetwork_ok v9 v16 v18 h19) (And.intro (rfl : (laws_FnExactLatestStarts_x1 a0 a1 a2 v7 v9 v11 v18) = (laws_FnExactLatestStarts_x1 a0 a1 a2 v7 v9 v11 v18)) (And.intro (And.intro (con_sw 1001 9 (con_sw 1000 8 (laws_toNetwork_ok a0 v16 h17))) (rfl : ([] : List Nat) = [])) (And.intro (laws_eqNetwork_ok v9 v16 v18 h19) (And.intro (rfl : (laws_FnExactLatestStarts_x1 a0 a1 a2 v7 v9 v11 v18) = (laws_FnExactLatestStarts_x1 a0 a1 a2 v7 v9 v11 v18)) (And.intro (And.intro (con_sw 1001 9 (con_sw 1000 8 (laws_toNetwork_ok a0 v16 h17))) (rfl : ([] : List Nat) = [])) (And.intro (laws_eqNetwork_ok v9 v16 v18 h19) (And.intro (rfl : (laws_FnExactLatestStarts_x1 a0 a1 a2 v7 v9 v11 v18) = (laws_FnExactLatestStarts_x1 a0 a1 a2 v7 v9 v11 v18)) (And.intro h20 (And.intro (And.intro (con_sw 920 5 (con_sw 900 4 (laws_markNetwork_ok v9 1 v21 h22))) (rfl : ([4, 5] : List Nat) = [4, 5])) (And.intro h23 (And.intro (laws_eqIntS_ok v11 v7 v24 h25) (And.intro h26 (And.intro (And.intro (con_sw 900 7 (laws_markIntS_ok v11 1 v27 h28)) (rfl : ([7] : List Nat) = [7])) (And.intro (laws_heldIntS_ok v27.2 1 v29 h30) (And.intro h31 True.intro)))))))))))))))))))))))))) (by kernel_rfl)
              · rcases cond_cases hM with ⟨h32, hM⟩ | ⟨h32, hM⟩
                · have hE : some false = some r := hM
                  have hE := Option.some.inj hE
                  subst hE
                  exact pr R 9999 [.new 0, .as 17 false, .call false [] (.o (.c (.v (.int .i64 v2)))) [] [], .as 22 false, .call false [] (.o (.agg [.sl 1, .sl 2, .v (.int .i64 v5.Change)])) [] [(1, .row 77 6 (v5.Legs.map Leg.enc)), (2, .row 3 1 (v5.Off.map encI))], .call false [] (.o (.c (.sl 3))) [] [(3, .row 3 1 (v7.map encI))], .call false [] (.o (.agg [.sl 4, .sl 5, .v (.int .i64 v9.Change)])) [] [(4, .row 77 6 (v9.Legs.map Leg.enc)), (5, .row 3 1 (v9.Off.map encI))], .new 6, .call false [] (.o (.c (.sl 7))) [] [(7, .row 3 1 (v11.map encI))], .call false [] (.o (.c (.v (.bool v13)))) [] [], .as 37 false, .xo [[], [], [.call false [] (.o (.agg [.sl 8, .sl 9, .v (.int .i64 v16.Change)])) [] [(8, .row 77 6 (v16.Legs.map Leg.enc)), (9, .row 3 1 (v16.Off.map encI))]], [.call false [] (.o (.c (.v (.bool v18)))) [] []], []] [.keep [1, 2, 3, 8, 9, 10, 42] [0, 3, 6, 4, 5, 7]] (laws_FnExactLatestStarts_x1 a0 a1 a2 v7 v9 v11 v18), .as 42 false, .ad (.keep [1, 2, 3, 8, 9, 10, 11, 42, 43, 44] [4, 5, 0, 3, 6, 7]), .call false [4, 5] (.o (.c (.v (.int .i64 v21.1)))) [(4, .row 77 6 (v21.2.Legs.map Leg.enc)), (5, .row 3 1 (v21.2.Off.map encI))] [], .as 48 false, .call false [] (.o (.c (.v (.bool v24)))) [] [], .as 53 false, .call false [7] (.o (.c (.v (.int .i64 v27.1)))) [(7, .row 3 1 (v27.2.map encI))] [], .call false [] (.o (.c (.v (.int .i64 v29)))) [] [], .as 61 false, .as 64 true] [] [] [] (And.intro h1 (And.intro (laws_szNetwork_ok a0 1048576 v2 h3) (And.intro h4 (And.intro (And.intro (con_sw 1001 2 (con_sw 1000 1 (laws_toNetwork_ok a0 v5 h6))) (rfl : ([] : List Nat) = [])) (And.intro (And.intro (con_sw 1000 3 (spec_LatestStarts_ok v5 a1 a2 v7 h8)) (rfl : ([] : List Nat) = [])) (And.intro (And.intro (con_sw 1001 5 (con_sw 1000 4 (laws_toNetwork_ok a0 v9 h10))) (rfl : ([] : List Nat) = [])) (And.intro (And.intro (con_sw 1000 7 (impl_LatestStarts_ok v9 a1 a2 v11 h12)) (rfl : ([] : List Nat) = [])) (And.intro (laws_eqIntS_ok v11 v7 v13 h14) (And.intro h15 (And.intro (And.intro (con_sw 1001 9 (con_sw 1000 8 (laws_toNetwork_ok a0 v16 h17))) (rfl : ([] : List Nat) = [])) (And.intro (laws_eqNetwork_ok v9 v16 v18 h19) (And.intro (rfl : (laws_FnExactLatestStarts_x1 a0 a1 a2 v7 v9 v11 v18) = (laws_FnExactLatestStarts_x1 a0 a1 a2 v7 v9 v11 v18)) (And.intro (And.intro (con_sw 1001 9 (con_sw 1000 8 (laws_toNetwork_ok a0 v16 h17))) (rfl : ([] : List Nat) = [])) (And.intro (laws_eqNetwork_ok v9 v16 v18 h19) (And.intro (rfl : (laws_FnExactLatestStarts_x1 a0 a1 a2 v7 v9 v11 v18) = (laws_FnExactLatestStarts_x1 a0 a1 a2 v7 v9 v11 v18)) (And.intro (And.intro (con_sw 1001 9 (con_sw 1000 8 (laws_toNetwork_ok a0 v16 h17))) (rfl : ([] : List Nat) = [])) (And.intro (laws_eqNetwork_ok v9 v16 v18 h19) (And.intro (rfl : (laws_FnExactLatestStarts_x1 a0 a1 a2 v7 v9 v11 v18) = (laws_FnExactLatestStarts_x1 a0 a1 a2 v7 v9 v11 v18)) (And.intro h20 (And.intro (And.intro (con_sw 920 5 (con_sw 900 4 (laws_markNetwork_ok v9 1 v21 h22))) (rfl : ([4, 5] : List Nat) = [4, 5])) (And.intro h23 (And.intro (laws_eqIntS_ok v11 v7 v24 h25) (And.intro h26 (And.intro (And.intro (con_sw 900 7 (laws_markIntS_ok v11 1 v27 h28)) (rfl : ([7] : List Nat) = [7])) (And.intro (laws_heldIntS_ok v27.2 1 v29 h30) (And.intro h31 (And.intro h32 True.intro))))))))))))))))))))))))))) (by kernel_rfl)
                · obtain ⟨v33, h34, hM⟩ := bind_some hM
                  obtain ⟨v35, h36, hM⟩ := bind_some hM
                  obtain ⟨v37, h38, hM⟩ := bind_some hM
                  rcases cond_cases hM with ⟨h39, hM⟩ | ⟨h39, hM⟩
                  · have hE : some false = some r := hM
                    have hE := Option.some.inj hE
                    subst hE
                    exact pr R 9999 [.new 0, .as 17 false, .call false [] (.o (.c (.v (.int .i64 v2)))) [] [], .as 22 false, .call false [] (.o (.agg [.sl 1, .sl 2, .v (.int .i64 v5.Change)])) [] [(1, .row 77 6 (v5.Legs.map Leg.enc)), (2, .row 3 1 (v5.Off.map encI))], .call false [] (.o (.c (.sl 3))) [] [(3, .row 3 1 (v7.map encI))], .call false [] (.o (.agg [.sl 4, .sl 5, .v (.int .i64 v9.Change)])) [] [(4, .row 77 6 (v9.Legs.map Leg.enc)), (5, .row 3 1 (v9.Off.map encI))], .new 6, .call false [] (.o (.c (.sl 7))) [] [(7, .row 3 1 (v11.map encI))], .call false [] (.o (.c (.v (.bool v13)))) [] [], .as 37 false, .xo [[], [], [.call false [] (.o (.agg [.sl 8, .sl 9, .v (.int .i64 v16.Change)])) [] [(8, .row 77 6 (v16.Legs.map Leg.enc)), (9, .row 3 1 (v16.Off.map encI))]], [.call false [] (.o (.c (.v (.bool v18)))) [] []], []] [.keep [1, 2, 3, 8, 9, 10, 42] [0, 3, 6, 4, 5, 7]] (laws_FnExactLatestStarts_x1 a0 a1 a2 v7 v9 v11 v18), .as 42 false, .ad (.keep [1, 2, 3, 8, 9, 10, 11, 42, 43, 44] [4, 5, 0, 3, 6, 7]), .call false [4, 5] (.o (.c (.v (.int .i64 v21.1)))) [(4, .row 77 6 (v21.2.Legs.map Leg.enc)), (5, .row 3 1 (v21.2.Off.map encI))] [], .as 48 false, .call false [] (.o (.c (.v (.bool v24)))) [] [], .as 53 false, .call false [7] (.o (.c (.v (.int .i64 v27.1)))) [(7, .row 3 1 (v27.2.map encI))] [], .call false [] (.o (.c (.v (.int .i64 v29)))) [] [], .as 61 false, .as 64 false, .call false [] (.o (.agg [.sl 10, .sl 11, .v (.int .i64 v33.Change)])) [] [(10, .row 77 6 (v33.Legs.map Leg.enc)), (11, .row 3 1 (v33.Off.map encI))], .call false [] (.o (.c (.sl 12))) [] [(12, .row 3 1 (v35.map encI))], .call false [] (.o (.c (.v (.bool v37)))) [] [], .as 73 true] [] [] [] (And.intro h1 (And.intro (laws_szNetwork_ok a0 1048576 v2 h3) (And.intro h4 (And.intro (And.intro (con_sw 1001 2 (con_sw 1000 1 (laws_toNetwork_ok a0 v5 h6))) (rfl : ([] : List Nat) = [])) (And.intro (And.intro (con_sw 1000 3 (spec_LatestStarts_ok v5 a1 a2 v7 h8)) (rfl : ([] : List Nat) = [])) (And.intro (And.intro (con_sw 1001 5 (con_sw 1000 4 (laws_toNetwork_ok a0 v9 h10))) (rfl : ([] : List Nat) = [])) (And.intro (And.intro (con_sw 1000 7 (impl_LatestStarts_ok v9 a1 a2 v11 h12)) (rfl : ([] : List Nat) = [])) (And.intro (laws_eqIntS_ok v11 v7 v13 h14) (And.intro h15 (And.intro (And.intro (con_sw 1001 9 (con_sw 1000 8 (laws_toNetwork_ok a0 v16 h17))) (rfl : ([] : List Nat) = [])) (And.intro (laws_eqNetwork_ok v9 v16 v18 h19) (And.intro (rfl : (laws_FnExactLatestStarts_x1 a0 a1 a2 v7 v9 v11 v18) = (laws_FnExactLatestStarts_x1 a0 a1 a2 v7 v9 v11 v18)) (And.intro (And.intro (con_sw 1001 9 (con_sw 1000 8 (laws_toNetwork_ok a0 v16 h17))) (rfl : ([] : List Nat) = [])) (And.intro (laws_eqNetwork_ok v9 v16 v18 h19) (And.intro (rfl : (laws_FnExactLatestStarts_x1 a0 a1 a2 v7 v9 v11 v18) = (laws_FnExactLatestStarts_x1 a0 a1 a2 v7 v9 v11 v18)) (And.intro (And.intro (con_sw 1001 9 (con_sw 1000 8 (laws_toNetwork_ok a0 v16 h17))) (rfl : ([] : List Nat) = [])) (And.intro (laws_eqNetwork_ok v9 v16 v18 h19) (And.intro (rfl : (laws_FnExactLatestStarts_x1 a0 a1 a2 v7 v9 v11 v18) = (laws_FnExactLatestStarts_x1 a0 a1 a2 v7 v9 v11 v18)) (And.intro h20 (And.intro (And.intro (con_sw 920 5 (con_sw 900 4 (laws_markNetwork_ok v9 1 v21 h22))) (rfl : ([4, 5] : List Nat) = [4, 5])) (And.intro h23 (And.intro (laws_eqIntS_ok v11 v7 v24 h25) (And.intro h26 (And.intro (And.intro (con_sw 900 7 (laws_markIntS_ok v11 1 v27 h28)) (rfl : ([7] : List Nat) = [7])) (And.intro (laws_heldIntS_ok v27.2 1 v29 h30) (And.intro h31 (And.intro h32 (And.intro (And.intro (con_sw 1001 11 (con_sw 1000 10 (laws_toNetwork_ok a0 v33 h34))) (rfl : ([] : List Nat) = [])) (And.intro (And.intro (con_sw 1000 12 (impl_LatestStarts_ok v33 a1 a2 v35 h36)) (rfl : ([] : List Nat) = [])) (And.intro (laws_eqIntS_ok v35 v7 v37 h38) (And.intro h39 True.intro))))))))))))))))))))))))))))))) (by kernel_rfl)
                  · obtain ⟨v40, h41, hM⟩ := bind_some hM
                    rcases cond_cases hM with ⟨h42, hM⟩ | ⟨h42, hM⟩
                    · have hE : some false = some r := hM
                      have hE := Option.some.inj hE
                      subst hE
                      exact pr R 9999 [.new 0, .as 17 false, .call false [] (.o (.c (.v (.int .i64 v2)))) [] [], .as 22 false, .call false [] (.o (.agg [.sl 1, .sl 2, .v (.int .i64 v5.Change)])) [] [(1, .row 77 6 (v5.Legs.map Leg.enc)), (2, .row 3 1 (v5.Off.map encI))], .call false [] (.o (.c (.sl 3))) [] [(3, .row 3 1 (v7.map encI))], .call false [] (.o (.agg [.sl 4, .sl 5, .v (.int .i64 v9.Change)])) [] [(4, .row 77 6 (v9.Legs.map Leg.enc)), (5, .row 3 1 (v9.Off.map encI))], .new 6, .call false [] (.o (.c (.sl 7))) [] [(7, .row 3 1 (v11.map encI))], .call false [] (.o (.c (.v (.bool v13)))) [] [], .as 37 false, .xo [[], [], [.call false [] (.o (.agg [.sl 8, .sl 9, .v (.int .i64 v16.Change)])) [] [(8, .row 77 6 (v16.Legs.map Leg.enc)), (9, .row 3 1 (v16.Off.map encI))]], [.call false [] (.o (.c (.v (.bool v18)))) [] []], []] [.keep [1, 2, 3, 8, 9, 10, 42] [0, 3, 6, 4, 5, 7]] (laws_FnExactLatestStarts_x1 a0 a1 a2 v7 v9 v11 v18), .as 42 false, .ad (.keep [1, 2, 3, 8, 9, 10, 11, 42, 43, 44] [4, 5, 0, 3, 6, 7]), .call false [4, 5] (.o (.c (.v (.int .i64 v21.1)))) [(4, .row 77 6 (v21.2.Legs.map Leg.enc)), (5, .row 3 1 (v21.2.Off.map encI))] [], .as 48 false, .call false [] (.o (.c (.v (.bool v24)))) [] [], .as 53 false, .call false [7] (.o (.c (.v (.int .i64 v27.1)))) [(7, .row 3 1 (v27.2.map encI))] [], .call false [] (.o (.c (.v (.int .i64 v29)))) [] [], .as 61 false, .as 64 false, .call false [] (.o (.agg [.sl 10, .sl 11, .v (.int .i64 v33.Change)])) [] [(10, .row 77 6 (v33.Legs.map Leg.enc)), (11, .row 3 1 (v33.Off.map encI))], .call false [] (.o (.c (.sl 12))) [] [(12, .row 3 1 (v35.map encI))], .call false [] (.o (.c (.v (.bool v37)))) [] [], .as 73 false, .call false [] (.o (.c (.v (.int .i64 v40)))) [] [], .as 78 true] [] [] [] (And.intro h1 (And.intro (laws_szNetwork_ok a0 1048576 v2 h3) (And.intro h4 (And.intro (And.intro (con_sw 1001 2 (con_sw 1000 1 (laws_toNetwork_ok a0 v5 h6))) (rfl : ([] : List Nat) = [])) (And.intro (And.intro (con_sw 1000 3 (spec_LatestStarts_ok v5 a1 a2 v7 h8)) (rfl : ([] : List Nat) = [])) (And.intro (And.intro (con_sw 1001 5 (con_sw 1000 4 (laws_toNetwork_ok a0 v9 h10))) (rfl : ([] : List Nat) = [])) (And.intro (And.intro (con_sw 1000 7 (impl_LatestStarts_ok v9 a1 a2 v11 h12)) (rfl : ([] : List Nat) = [])) (And.intro (laws_eqIntS_ok v11 v7 v13 h14) (And.intro h15 (And.intro (And.intro (con_sw 1001 9 (con_sw 1000 8 (laws_toNetwork_ok a0 v16 h17))) (rfl : ([] : List Nat) = [])) (And.intro (laws_eqNetwork_ok v9 v16 v18 h19) (And.intro (rfl : (laws_FnExactLatestStarts_x1 a0 a1 a2 v7 v9 v11 v18) = (laws_FnExactLatestStarts_x1 a0 a1 a2 v7 v9 v11 v18)) (And.intro (And.intro (con_sw 1001 9 (con_sw 1000 8 (laws_toNetwork_ok a0 v16 h17))) (rfl : ([] : List Nat) = [])) (And.intro (laws_eqNetwork_ok v9 v16 v18 h19) (And.intro (rfl : (laws_FnExactLatestStarts_x1 a0 a1 a2 v7 v9 v11 v18) = (laws_FnExactLatestStarts_x1 a0 a1 a2 v7 v9 v11 v18)) (And.intro (And.intro (con_sw 1001 9 (con_sw 1000 8 (laws_toNetwork_ok a0 v16 h17))) (rfl : ([] : List Nat) = [])) (And.intro (laws_eqNetwork_ok v9 v16 v18 h19) (And.intro (rfl : (laws_FnExactLatestStarts_x1 a0 a1 a2 v7 v9 v11 v18) = (laws_FnExactLatestStarts_x1 a0 a1 a2 v7 v9 v11 v18)) (And.intro h20 (And.intro (And.intro (con_sw 920 5 (con_sw 900 4 (laws_markNetwork_ok v9 1 v21 h22))) (rfl : ([4, 5] : List Nat) = [4, 5])) (And.intro h23 (And.intro (laws_eqIntS_ok v11 v7 v24 h25) (And.intro h26 (And.intro (And.intro (con_sw 900 7 (laws_markIntS_ok v11 1 v27 h28)) (rfl : ([7] : List Nat) = [7])) (And.intro (laws_heldIntS_ok v27.2 1 v29 h30) (And.intro h31 (And.intro h32 (And.intro (And.intro (con_sw 1001 11 (con_sw 1000 10 (laws_toNetwork_ok a0 v33 h34))) (rfl : ([] : List Nat) = [])) (And.intro (And.intro (con_sw 1000 12 (impl_LatestStarts_ok v33 a1 a2 v35 h36)) (rfl : ([] : List Nat) = [])) (And.intro (laws_eqIntS_ok v35 v7 v37 h38) (And.intro h39 (And.intro (laws_heldIntS_ok v27.2 1 v40 h41) (And.intro h42 True.intro))))))))))))))))))))))))))))))))) (by kernel_rfl)
                    · rcases cond_cases hM with ⟨h43, hM⟩ | ⟨h43, hM⟩
                      · have hE : some false = some r := hM
                        have hE := Option.some.inj hE
                        subst hE
                        exact pr R 9999 [.new 0, .as 17 false, .call false [] (.o (.c (.v (.int .i64 v2)))) [] [], .as 22 false, .call false [] (.o (.agg [.sl 1, .sl 2, .v (.int .i64 v5.Change)])) [] [(1, .row 77 6 (v5.Legs.map Leg.enc)), (2, .row 3 1 (v5.Off.map encI))], .call false [] (.o (.c (.sl 3))) [] [(3, .row 3 1 (v7.map encI))], .call false [] (.o (.agg [.sl 4, .sl 5, .v (.int .i64 v9.Change)])) [] [(4, .row 77 6 (v9.Legs.map Leg.enc)), (5, .row 3 1 (v9.Off.map encI))], .new 6, .call false [] (.o (.c (.sl 7))) [] [(7, .row 3 1 (v11.map encI))], .call false [] (.o (.c (.v (.bool v13)))) [] [], .as 37 false, .xo [[], [], [.call false [] (.o (.agg [.sl 8, .sl 9, .v (.int .i64 v16.Change)])) [] [(8, .row 77 6 (v16.Legs.map Leg.enc)), (9, .row 3 1 (v16.Off.map encI))]], [.call false [] (.o (.c (.v (.bool v18)))) [] []], []] [.keep [1, 2, 3, 8, 9, 10, 42] [0, 3, 6, 4, 5, 7]] (laws_FnExactLatestStarts_x1 a0 a1 a2 v7 v9 v11 v18), .as 42 false, .ad (.keep [1, 2, 3, 8, 9, 10, 11, 42, 43, 44] [4, 5, 0, 3, 6, 7]), .call false [4, 5] (.o (.c (.v (.int .i64 v21.1)))) [(4, .row 77 6 (v21.2.Legs.map Leg.enc)), (5, .row 3 1 (v21.2.Off.map encI))] [], .as 48 false, .call false [] (.o (.c (.v (.bool v24)))) [] [], .as 53 false, .call false [7] (.o (.c (.v (.int .i64 v27.1)))) [(7, .row 3 1 (v27.2.map encI))] [], .call false [] (.o (.c (.v (.int .i64 v29)))) [] [], .as 61 false, .as 64 false, .call false [] (.o (.agg [.sl 10, .sl 11, .v (.int .i64 v33.Change)])) [] [(10, .row 77 6 (v33.Legs.map Leg.enc)), (11, .row 3 1 (v33.Off.map encI))], .call false [] (.o (.c (.sl 12))) [] [(12, .row 3 1 (v35.map encI))], .call false [] (.o (.c (.v (.bool v37)))) [] [], .as 73 false, .call false [] (.o (.c (.v (.int .i64 v40)))) [] [], .as 78 false, .as 81 true] [] [] [] (And.intro h1 (And.intro (laws_szNetwork_ok a0 1048576 v2 h3) (And.intro h4 (And.intro (And.intro (con_sw 1001 2 (con_sw 1000 1 (laws_toNetwork_ok a0 v5 h6))) (rfl : ([] : List Nat) = [])) (And.intro (And.intro (con_sw 1000 3 (spec_LatestStarts_ok v5 a1 a2 v7 h8)) (rfl : ([] : List Nat) = [])) (And.intro (And.intro (con_sw 1001 5 (con_sw 1000 4 (laws_toNetwork_ok a0 v9 h10))) (rfl : ([] : List Nat) = [])) (And.intro (And.intro (con_sw 1000 7 (impl_LatestStarts_ok v9 a1 a2 v11 h12)) (rfl : ([] : List Nat) = [])) (And.intro (laws_eqIntS_ok v11 v7 v13 h14) (And.intro h15 (And.intro (And.intro (con_sw 1001 9 (con_sw 1000 8 (laws_toNetwork_ok a0 v16 h17))) (rfl : ([] : List Nat) = [])) (And.intro (laws_eqNetwork_ok v9 v16 v18 h19) (And.intro (rfl : (laws_FnExactLatestStarts_x1 a0 a1 a2 v7 v9 v11 v18) = (laws_FnExactLatestStarts_x1 a0 a1 a2 v7 v9 v11 v18)) (And.intro (And.intro (con_sw 1001 9 (con_sw 1000 8 (laws_toNetwork_ok a0 v16 h17))) (rfl : ([] : List Nat) = [])) (And.intro (laws_eqNetwork_ok v9 v16 v18 h19) (And.intro (rfl : (laws_FnExactLatestStarts_x1 a0 a1 a2 v7 v9 v11 v18) = (laws_FnExactLatestStarts_x1 a0 a1 a2 v7 v9 v11 v18)) (And.intro (And.intro (con_sw 1001 9 (con_sw 1000 8 (laws_toNetwork_ok a0 v16 h17))) (rfl : ([] : List Nat) = [])) (And.intro (laws_eqNetwork_ok v9 v16 v18 h19) (And.intro (rfl : (laws_FnExactLatestStarts_x1 a0 a1 a2 v7 v9 v11 v18) = (laws_FnExactLatestStarts_x1 a0 a1 a2 v7 v9 v11 v18)) (And.intro h20 (And.intro (And.intro (con_sw 920 5 (con_sw 900 4 (laws_markNetwork_ok v9 1 v21 h22))) (rfl : ([4, 5] : List Nat) = [4, 5])) (And.intro h23 (And.intro (laws_eqIntS_ok v11 v7 v24 h25) (And.intro h26 (And.intro (And.intro (con_sw 900 7 (laws_markIntS_ok v11 1 v27 h28)) (rfl : ([7] : List Nat) = [7])) (And.intro (laws_heldIntS_ok v27.2 1 v29 h30) (And.intro h31 (And.intro h32 (And.intro (And.intro (con_sw 1001 11 (con_sw 1000 10 (laws_toNetwork_ok a0 v33 h34))) (rfl : ([] : List Nat) = [])) (And.intro (And.intro (con_sw 1000 12 (impl_LatestStarts_ok v33 a1 a2 v35 h36)) (rfl : ([] : List Nat) = [])) (And.intro (laws_eqIntS_ok v35 v7 v37 h38) (And.intro h39 (And.intro (laws_heldIntS_ok v27.2 1 v40 h41) (And.intro h42 (And.intro h43 True.intro)))))))))))))))))))))))))))))))))) (by kernel_rfl)
                      · have hE : some true = some r := hM
                        have hE := Option.some.inj hE
                        subst hE
                        exact pr R 9999 [.new 0, .as 17 false, .call false [] (.o (.c (.v (.int .i64 v2)))) [] [], .as 22 false, .call false [] (.o (.agg [.sl 1, .sl 2, .v (.int .i64 v5.Change)])) [] [(1, .row 77 6 (v5.Legs.map Leg.enc)), (2, .row 3 1 (v5.Off.map encI))], .call false [] (.o (.c (.sl 3))) [] [(3, .row 3 1 (v7.map encI))], .call false [] (.o (.agg [.sl 4, .sl 5, .v (.int .i64 v9.Change)])) [] [(4, .row 77 6 (v9.Legs.map Leg.enc)), (5, .row 3 1 (v9.Off.map encI))], .new 6, .call false [] (.o (.c (.sl 7))) [] [(7, .row 3 1 (v11.map encI))], .call false [] (.o (.c (.v (.bool v13)))) [] [], .as 37 false, .xo [[], [], [.call false [] (.o (.agg [.sl 8, .sl 9, .v (.int .i64 v16.Change)])) [] [(8, .row 77 6 (v16.Legs.map Leg.enc)), (9, .row 3 1 (v16.Off.map encI))]], [.call false [] (.o (.c (.v (.bool v18)))) [] []], []] [.keep [1, 2, 3, 8, 9, 10, 42] [0, 3, 6, 4, 5, 7]] (laws_FnExactLatestStarts_x1 a0 a1 a2 v7 v9 v11 v18), .as 42 false, .ad (.keep [1, 2, 3, 8, 9, 10, 11, 42, 43, 44] [4, 5, 0, 3, 6, 7]), .call false [4, 5] (.o (.c (.v (.int .i64 v21.1)))) [(4, .row 77 6 (v21.2.Legs.map Leg.enc)), (5, .row 3 1 (v21.2.Off.map encI))] [], .as 48 false, .call false [] (.o (.c (.v (.bool v24)))) [] [], .as 53 false, .call false [7] (.o (.c (.v (.int .i64 v27.1)))) [(7, .row 3 1 (v27.2.map encI))] [], .call false [] (.o (.c (.v (.int .i64 v29)))) [] [], .as 61 false, .as 64 false, .call false [] (.o (.agg [.sl 10, .sl 11, .v (.int .i64 v33.Change)])) [] [(10, .row 77 6 (v33.Legs.map Leg.enc)), (11, .row 3 1 (v33.Off.map encI))], .call false [] (.o (.c (.sl 12))) [] [(12, .row 3 1 (v35.map encI))], .call false [] (.o (.c (.v (.bool v37)))) [] [], .as 73 false, .call false [] (.o (.c (.v (.int .i64 v40)))) [] [], .as 78 false, .as 81 false] [] [] [] (And.intro h1 (And.intro (laws_szNetwork_ok a0 1048576 v2 h3) (And.intro h4 (And.intro (And.intro (con_sw 1001 2 (con_sw 1000 1 (laws_toNetwork_ok a0 v5 h6))) (rfl : ([] : List Nat) = [])) (And.intro (And.intro (con_sw 1000 3 (spec_LatestStarts_ok v5 a1 a2 v7 h8)) (rfl : ([] : List Nat) = [])) (And.intro (And.intro (con_sw 1001 5 (con_sw 1000 4 (laws_toNetwork_ok a0 v9 h10))) (rfl : ([] : List Nat) = [])) (And.intro (And.intro (con_sw 1000 7 (impl_LatestStarts_ok v9 a1 a2 v11 h12)) (rfl : ([] : List Nat) = [])) (And.intro (laws_eqIntS_ok v11 v7 v13 h14) (And.intro h15 (And.intro (And.intro (con_sw 1001 9 (con_sw 1000 8 (laws_toNetwork_ok a0 v16 h17))) (rfl : ([] : List Nat) = [])) (And.intro (laws_eqNetwork_ok v9 v16 v18 h19) (And.intro (rfl : (laws_FnExactLatestStarts_x1 a0 a1 a2 v7 v9 v11 v18) = (laws_FnExactLatestStarts_x1 a0 a1 a2 v7 v9 v11 v18)) (And.intro (And.intro (con_sw 1001 9 (con_sw 1000 8 (laws_toNetwork_ok a0 v16 h17))) (rfl : ([] : List Nat) = [])) (And.intro (laws_eqNetwork_ok v9 v16 v18 h19) (And.intro (rfl : (laws_FnExactLatestStarts_x1 a0 a1 a2 v7 v9 v11 v18) = (laws_FnExactLatestStarts_x1 a0 a1 a2 v7 v9 v11 v18)) (And.intro (And.intro (con_sw 1001 9 (con_sw 1000 8 (laws_toNetwork_ok a0 v16 h17))) (rfl : ([] : List Nat) = [])) (And.intro (laws_eqNetwork_ok v9 v16 v18 h19) (And.intro (rfl : (laws_FnExactLatestStarts_x1 a0 a1 a2 v7 v9 v11 v18) = (laws_FnExactLatestStarts_x1 a0 a1 a2 v7 v9 v11 v18)) (And.intro h20 (And.intro (And.intro (con_sw 920 5 (con_sw 900 4 (laws_markNetwork_ok v9 1 v21 h22))) (rfl : ([4, 5] : List Nat) = [4, 5])) (And.intro h23 (And.intro (laws_eqIntS_ok v11 v7 v24 h25) (And.intro h26 (And.intro (And.intro (con_sw 900 7 (laws_markIntS_ok v11 1 v27 h28)) (rfl : ([7] : List Nat) = [7])) (And.intro (laws_heldIntS_ok v27.2 1 v29 h30) (And.intro h31 (And.intro h32 (And.intro (And.intro (con_sw 1001 11 (con_sw 1000 10 (laws_toNetwork_ok a0 v33 h34))) (rfl : ([] : List Nat) = [])) (And.intro (And.intro (con_sw 1000 12 (impl_LatestStarts_ok v33 a1 a2 v35 h36)) (rfl : ([] : List Nat) = [])) (And.intro (laws_eqIntS_ok v35 v7 v37 h38) (And.intro h39 (And.intro (laws_heldIntS_ok v27.2 1 v40 h41) (And.intro h42 (And.intro h43 True.intro)))))))))))))))))))))))))))))))))) (by kernel_rfl)

-- loop.example/g03014/spec.LatestStart
def spec_LatestStart (a0 : Network) (a1 : ByteArray) (a2 : ByteArray) (a3 : Int) : Option Int :=
  (spec_PlacesOf a0).bind fun v1 =>
  (spec_l4Index v1 a1).bind fun v3 =>
  (spec_LatestStarts a0 a2 a3).bind fun v5 =>
  bif (decide (v3 < 0)) then
  some (-1)
  else
  bif ((v5.length : Int) == 0) then
  some (-1)
  else
  (gi v5 v3).bind fun v9 =>
  some v9
theorem spec_LatestStart_ok (a0 : Network) (a1 : ByteArray) (a2 : ByteArray) (a3 : Int) (r : Int) (hM : spec_LatestStart a0 a1 a2 a3 = some r) :
    Con Try.prog 26 [.agg [.rs 6 (a0.Legs.map Leg.enc), .rs 1 (a0.Off.map encI), .v (.int .i64 a0.Change)], .c (.v (.string a1)), .c (.v (.string a2)), .c (.v (.int .i64 a3))] [] (.o (.c (.v (.int .i64 r)))) [] [] := by
  unfold spec_LatestStart at hM
  refine cn (N := 30) (pids := []) Try_mixed Try.func26 (by kernel_rfl) (by kernel_rfl) (by kernel_rfl) rfl fun ρ g w R => ?_
  obtain ⟨v1, h2, hM⟩ := bind_some hM
  obtain ⟨v3, h4, hM⟩ := bind_some hM
  obtain ⟨v5, h6, hM⟩ := bind_some hM
  rcases cond_cases hM with ⟨h7, hM⟩ | ⟨h7, hM⟩
  · have hE : some (-1) = some r := hM
    have hE := Option.some.inj hE
    subst hE
    exact pr R 9999 [.new 0, .call false [] (.o (.c (.sl 1))) [] [(1, .row 9 1 (v1.map encS))], .call false [] (.o (.c (.v (.int .i64 v3)))) [] [], .call false [] (.o (.c (.sl 2))) [] [(2, .row 3 1 (v5.map encI))], .as 21 true] [] [] [] (And.intro (And.intro (con_sw 1000 1 (spec_PlacesOf_ok a0 v1 h2)) (rfl : ([] : List Nat) = [])) (And.intro (spec_l4Index_ok v1 a1 v3 h4) (And.intro (And.intro (con_sw 1000 2 (spec_LatestStarts_ok a0 a2 a3 v5 h6)) (rfl : ([] : List Nat) = [])) (And.intro h7 True.intro)))) (by kernel_rfl)
  · rcases cond_cases hM with ⟨h8, hM⟩ | ⟨h8, hM⟩
    · have hE : some (-1) = some r := hM
      have hE := Option.some.inj hE
      subst hE
      exact pr R 9999 [.new 0, .call false [] (.o (.c (.sl 1))) [] [(1, .row 9 1 (v1.map encS))], .call false [] (.o (.c (.v (.int .i64 v3)))) [] [], .call false [] (.o (.c (.sl 2))) [] [(2, .row 3 1 (v5.map encI))], .as 21 false, .ln (v5.length), .as 25 true] [] [] [] (And.intro (And.intro (con_sw 1000 1 (spec_PlacesOf_ok a0 v1 h2)) (rfl : ([] : List Nat) = [])) (And.intro (spec_l4Index_ok v1 a1 v3 h4) (And.intro (And.intro (con_sw 1000 2 (spec_LatestStarts_ok a0 a2 a3 v5 h6)) (rfl : ([] : List Nat) = [])) (And.intro h7 (And.intro (lenm encI v5) (And.intro h8 True.intro)))))) (by kernel_rfl)
    · obtain ⟨v9, h10, hM⟩ := bind_some hM
      have hE : some v9 = some r := hM
      have hE := Option.some.inj hE
      subst hE
      exact pr R 9999 [.new 0, .call false [] (.o (.c (.sl 1))) [] [(1, .row 9 1 (v1.map encS))], .call false [] (.o (.c (.v (.int .i64 v3)))) [] [], .call false [] (.o (.c (.sl 2))) [] [(2, .row 3 1 (v5.map encI))], .as 21 false, .ln (v5.length), .as 25 false, .ix (encI v9)] [] [] [] (And.intro (And.intro (con_sw 1000 1 (spec_PlacesOf_ok a0 v1 h2)) (rfl : ([] : List Nat) = [])) (And.intro (spec_l4Index_ok v1 a1 v3 h4) (And.intro (And.intro (con_sw 1000 2 (spec_LatestStarts_ok a0 a2 a3 v5 h6)) (rfl : ([] : List Nat) = [])) (And.intro h7 (And.intro (lenm encI v5) (And.intro h8 (And.intro (gi_lt encI h10) (And.intro ((gi_map encI h10).2) True.intro)))))))) (by kernel_rfl)

-- loop.example/g03014/impl.LatestStart
def impl_LatestStart (a0 : Network) (a1 : ByteArray) (a2 : ByteArray) (a3 : Int) : Option Int :=
  (impl_LatestStarts a0 a2 a3).bind fun v1 =>
  (impl_PlacesOf a0).bind fun v3 =>
  (impl_placeAt v3 a1).bind fun v5 =>
  bif ((v1.length : Int) == 0) then
  some (-1)
  else
  bif (decide (v5 < 0)) then
  some (-1)
  else
  (gi v1 v5).bind fun v9 =>
  some v9
theorem impl_LatestStart_ok (a0 : Network) (a1 : ByteArray) (a2 : ByteArray) (a3 : Int) (r : Int) (hM : impl_LatestStart a0 a1 a2 a3 = some r) :
    Con Try.prog 27 [.agg [.rs 6 (a0.Legs.map Leg.enc), .rs 1 (a0.Off.map encI), .v (.int .i64 a0.Change)], .c (.v (.string a1)), .c (.v (.string a2)), .c (.v (.int .i64 a3))] [] (.o (.c (.v (.int .i64 r)))) [] [] := by
  unfold impl_LatestStart at hM
  refine cn (N := 30) (pids := []) Try_mixed Try.func27 (by kernel_rfl) (by kernel_rfl) (by kernel_rfl) rfl fun ρ g w R => ?_
  obtain ⟨v1, h2, hM⟩ := bind_some hM
  obtain ⟨v3, h4, hM⟩ := bind_some hM
  obtain ⟨v5, h6, hM⟩ := bind_some hM
  rcases cond_cases hM with ⟨h7, hM⟩ | ⟨h7, hM⟩
  · have hE : some (-1) = some r := hM
    have hE := Option.some.inj hE
    subst hE
    exact pr R 9999 [.new 0, .call false [] (.o (.c (.sl 1))) [] [(1, .row 3 1 (v1.map encI))], .call false [] (.o (.c (.sl 2))) [] [(2, .row 9 1 (v3.map encS))], .call false [] (.o (.c (.v (.int .i64 v5)))) [] [], .ln (v1.length), .as 22 true] [] [] [] (And.intro (And.intro (con_sw 1000 1 (impl_LatestStarts_ok a0 a2 a3 v1 h2)) (rfl : ([] : List Nat) = [])) (And.intro (And.intro (con_sw 1000 2 (impl_PlacesOf_ok a0 v3 h4)) (rfl : ([] : List Nat) = [])) (And.intro (impl_placeAt_ok v3 a1 v5 h6) (And.intro (lenm encI v1) (And.intro h7 True.intro))))) (by kernel_rfl)
  · rcases cond_cases hM with ⟨h8, hM⟩ | ⟨h8, hM⟩
    · have hE : some (-1) = some r := hM
      have hE := Option.some.inj hE
      subst hE
      exact pr R 9999 [.new 0, .call false [] (.o (.c (.sl 1))) [] [(1, .row 3 1 (v1.map encI))], .call false [] (.o (.c (.sl 2))) [] [(2, .row 9 1 (v3.map encS))], .call false [] (.o (.c (.v (.int .i64 v5)))) [] [], .ln (v1.length), .as 22 false, .as 25 true] [] [] [] (And.intro (And.intro (con_sw 1000 1 (impl_LatestStarts_ok a0 a2 a3 v1 h2)) (rfl : ([] : List Nat) = [])) (And.intro (And.intro (con_sw 1000 2 (impl_PlacesOf_ok a0 v3 h4)) (rfl : ([] : List Nat) = [])) (And.intro (impl_placeAt_ok v3 a1 v5 h6) (And.intro (lenm encI v1) (And.intro h7 (And.intro h8 True.intro)))))) (by kernel_rfl)
    · obtain ⟨v9, h10, hM⟩ := bind_some hM
      have hE : some v9 = some r := hM
      have hE := Option.some.inj hE
      subst hE
      exact pr R 9999 [.new 0, .call false [] (.o (.c (.sl 1))) [] [(1, .row 3 1 (v1.map encI))], .call false [] (.o (.c (.sl 2))) [] [(2, .row 9 1 (v3.map encS))], .call false [] (.o (.c (.v (.int .i64 v5)))) [] [], .ln (v1.length), .as 22 false, .as 25 false, .ix (encI v9)] [] [] [] (And.intro (And.intro (con_sw 1000 1 (impl_LatestStarts_ok a0 a2 a3 v1 h2)) (rfl : ([] : List Nat) = [])) (And.intro (And.intro (con_sw 1000 2 (impl_PlacesOf_ok a0 v3 h4)) (rfl : ([] : List Nat) = [])) (And.intro (impl_placeAt_ok v3 a1 v5 h6) (And.intro (lenm encI v1) (And.intro h7 (And.intro h8 (And.intro (gi_lt encI h10) (And.intro ((gi_map encI h10).2) True.intro)))))))) (by kernel_rfl)

-- loop.example/g03014/laws.FnExactLatestStart
def laws_FnExactLatestStart_x1 (v17 : Bool) : St := ⟨[(44, .o (.c (.v (.bool (!v17)))))], []⟩
def laws_FnExactLatestStart (a0 : Network) (a1 : ByteArray) (a2 : ByteArray) (a3 : Int) : Option Bool :=
  bif (decide ((a1.size : Int) > 1048576)) then
  some true
  else
  bif (decide ((a2.size : Int) > 1048576)) then
  some true
  else
  (laws_szNetwork a0 1048576).bind fun v3 =>
  bif (decide (v3 < 0)) then
  some true
  else
  (laws_toNetwork a0).bind fun v6 =>
  (spec_LatestStart v6 a1 a2 a3).bind fun v8 =>
  (laws_toNetwork a0).bind fun v10 =>
  (impl_LatestStart v10 a1 a2 a3).bind fun v12 =>
  bif (v12 != v8) then
  some false
  else
  (laws_toNetwork a0).bind fun v15 =>
  (laws_eqNetwork v10 v15).bind fun v17 =>
  bif (!v17) then
  some false
  else
  some true
theorem laws_FnExactLatestStart_ok (a0 : Network) (a1 : ByteArray) (a2 : ByteArray) (a3 : Int) (r : Bool) (hM : laws_FnExactLatestStart a0 a1 a2 a3 = some r) :
    Con Try.prog 5 [.agg [.rs 6 (a0.Legs.map Leg.enc), .rs 1 (a0.Off.map encI), .v (.int .i64 a0.Change)], .c (.v (.string a1)), .c (.v (.string a2)), .c (.v (.int .i64 a3))] [] (.o (.c (.v (.bool r)))) [] [] := by
  unfold laws_FnExactLatestStart at hM
  refine cn (N := 45) (pids := []) Try_mixed Try.func5 (by kernel_rfl) (by kernel_rfl) (by kernel_rfl) rfl fun ρ g w R => ?_
  rcases cond_cases hM with ⟨h1, hM⟩ | ⟨h1, hM⟩
  · have hE : some true = some r := hM
    have hE := Option.some.inj hE
    subst hE
    exact pr R 9999 [.new 0, .as 15 true] [] [] [] (And.intro h1 True.intro) (by kernel_rfl)
  · rcases cond_cases hM with ⟨h2, hM⟩ | ⟨h2, hM⟩
    · have hE : some true = some r := hM
      have hE := Option.some.inj hE
      subst hE
      exact pr R 9999 [.new 0, .as 15 false, .as 18 true] [] [] [] (And.intro h1 (And.intro h2 True.intro)) (by kernel_rfl)
    · obtain ⟨v3, h4, hM⟩ := bind_some hM
      rcases cond_cases hM with ⟨h5, hM⟩ | ⟨h5, hM⟩
      · have hE : some true = some r := hM
        have hE := Option.some.inj hE
        subst hE
        exact pr R 9999 [.new 0, .as 15 false, .as 18 false, .call false [] (.o (.c (.v (.int .i64 v3)))) [] [], .as 23 true] [] [] [] (And.intro h1 (And.intro h2 (And.intro (laws_szNetwork_ok a0 1048576 v3 h4) (And.intro h5 True.intro)))) (by kernel_rfl)
      · obtain ⟨v6, h7, hM⟩ := bind_some hM
        obtain ⟨v8, h9, hM⟩ := bind_some hM
        obtain ⟨v10, h11, hM⟩ := bind_some hM
        obtain ⟨v12, h13, hM⟩ := bind_some hM
        rcases cond_cases hM with ⟨h14, hM⟩ | ⟨h14, hM⟩
        · have hE : some false = some r := hM
          have hE := Option.some.inj hE
          subst hE
          exact pr R 9999 [.new 0, .as 15 false, .as 18 false, .call false [] (.o (.c (.v (.int .i64 v3)))) [] [], .as 23 false, .call false [] (.o (.agg [.sl 1, .sl 2, .v (.int .i64 v6.Change)])) [] [(1, .row 77 6 (v6.Legs.map Leg.enc)), (2, .row 3 1 (v6.Off.map encI))], .call false [] (.o (.c (.v (.int .i64 v8)))) [] [], .call false [] (.o (.agg [.sl 3, .sl 4, .v (.int .i64 v10.Change)])) [] [(3, .row 77 6 (v10.Legs.map Leg.enc)), (4, .row 3 1 (v10.Off.map encI))], .new 5, .call false [] (.o (.c (.v (.int .i64 v12)))) [] [], .as 39 true] [] [] [] (And.intro h1 (And.intro h2 (And.intro (laws_szNetwork_ok a0 1048576 v3 h4) (And.intro h5 (And.intro (And.intro (con_sw 1001 2 (con_sw 1000 1 (laws_toNetwork_ok a0 v6 h7))) (rfl : ([] : List Nat) = [])) (And.intro (spec_LatestStart_ok v6 a1 a2 a3 v8 h9) (And.intro (And.intro (con_sw 1001 4 (con_sw 1000 3 (laws_toNetwork_ok a0 v10 h11))) (rfl : ([] : List Nat) = [])) (And.intro (impl_LatestStart_ok v10 a1 a2 a3 v12 h13) (And.intro h14 True.intro))))))))) (by kernel_rfl)
        · obtain ⟨v15, h16, hM⟩ := bind_some hM
          obtain ⟨v17, h18, hM⟩ := bind_some hM
          rcases cond_cases hM with ⟨h19, hM⟩ | ⟨h19, hM⟩
          · have hE : some false = some r := hM
            have hE := Option.some.inj hE
            subst hE
            exact pr R 9999 [.new 0, .as 15 false, .as 18 false, .call false [] (.o (.c (.v (.int .i64 v3)))) [] [], .as 23 false, .call false [] (.o (.agg [.sl 1, .sl 2, .v (.int .i64 v6.Change)])) [] [(1, .row 77 6 (v6.Legs.map Leg.enc)), (2, .row 3 1 (v6.Off.map encI))], .call false [] (.o (.c (.v (.int .i64 v8)))) [] [], .call false [] (.o (.agg [.sl 3, .sl 4, .v (.int .i64 v10.Change)])) [] [(3, .row 77 6 (v10.Legs.map Leg.enc)), (4, .row 3 1 (v10.Off.map encI))], .new 5, .call false [] (.o (.c (.v (.int .i64 v12)))) [] [], .as 39 false, .xo [[], [], [.call false [] (.o (.agg [.sl 6, .sl 7, .v (.int .i64 v15.Change)])) [] [(6, .row 77 6 (v15.Legs.map Leg.enc)), (7, .row 3 1 (v15.Off.map encI))]], [.call false [] (.o (.c (.v (.bool v17)))) [] []], []] [.keep [44] []] (laws_FnExactLatestStart_x1 v17), .as 44 true] [] [] [] (And.intro h1 (And.intro h2 (And.intro (laws_szNetwork_ok a0 1048576 v3 h4) (And.intro h5 (And.intro (And.intro (con_sw 1001 2 (con_sw 1000 1 (laws_toNetwork_ok a0 v6 h7))) (rfl : ([] : List Nat) = [])) (And.intro (spec_LatestStart_ok v6 a1 a2 a3 v8 h9) (And.intro (And.intro (con_sw 1001 4 (con_sw 1000 3 (laws_toNetwork_ok a0 v10 h11))) (rfl : ([] : List Nat) = [])) (And.intro (impl_LatestStart_ok v10 a1 a2 a3 v12 h13) (And.intro h14 (And.intro (And.intro (con_sw 1001 7 (con_sw 1000 6 (laws_toNetwork_ok a0 v15 h16))) (rfl : ([] : List Nat) = [])) (And.intro (laws_eqNetwork_ok v10 v15 v17 h18) (And.intro (rfl : (laws_FnExactLatestStart_x1 v17) = (laws_FnExactLatestStart_x1 v17)) (And.intro (And.intro (con_sw 1001 7 (con_sw 1000 6 (laws_toNetwork_ok a0 v15 h16))) (rfl : ([] : List Nat) = [])) (And.intro (laws_eqNetwork_ok v10 v15 v17 h18) (And.intro (rfl : (laws_FnExactLatestStart_x1 v17) = (laws_FnExactLatestStart_x1 v17)) (And.intro (And.intro (con_sw 1001 7 (con_sw 1000 6 (laws_toNetwork_ok a0 v15 h16))) (rfl : ([] : List Nat) = [])) (And.intro (laws_eqNetwork_ok v10 v15 v17 h18) (And.intro (rfl : (laws_FnExactLatestStart_x1 v17) = (laws_FnExactLatestStart_x1 v17)) (And.intro h19 True.intro))))))))))))))))))) (by kernel_rfl)
          · have hE : some true = some r := hM
            have hE := Option.some.inj hE
            subst hE
            exact pr R 9999 [.new 0, .as 15 false, .as 18 false, .call false [] (.o (.c (.v (.int .i64 v3)))) [] [], .as 23 false, .call false [] (.o (.agg [.sl 1, .sl 2, .v (.int .i64 v6.Change)])) [] [(1, .row 77 6 (v6.Legs.map Leg.enc)), (2, .row 3 1 (v6.Off.map encI))], .call false [] (.o (.c (.v (.int .i64 v8)))) [] [], .call false [] (.o (.agg [.sl 3, .sl 4, .v (.int .i64 v10.Change)])) [] [(3, .row 77 6 (v10.Legs.map Leg.enc)), (4, .row 3 1 (v10.Off.map encI))], .new 5, .call false [] (.o (.c (.v (.int .i64 v12)))) [] [], .as 39 false, .xo [[], [], [.call false [] (.o (.agg [.sl 6, .sl 7, .v (.int .i64 v15.Change)])) [] [(6, .row 77 6 (v15.Legs.map Leg.enc)), (7, .row 3 1 (v15.Off.map encI))]], [.call false [] (.o (.c (.v (.bool v17)))) [] []], []] [.keep [44] []] (laws_FnExactLatestStart_x1 v17), .as 44 false] [] [] [] (And.intro h1 (And.intro h2 (And.intro (laws_szNetwork_ok a0 1048576 v3 h4) (And.intro h5 (And.intro (And.intro (con_sw 1001 2 (con_sw 1000 1 (laws_toNetwork_ok a0 v6 h7))) (rfl : ([] : List Nat) = [])) (And.intro (spec_LatestStart_ok v6 a1 a2 a3 v8 h9) (And.intro (And.intro (con_sw 1001 4 (con_sw 1000 3 (laws_toNetwork_ok a0 v10 h11))) (rfl : ([] : List Nat) = [])) (And.intro (impl_LatestStart_ok v10 a1 a2 a3 v12 h13) (And.intro h14 (And.intro (And.intro (con_sw 1001 7 (con_sw 1000 6 (laws_toNetwork_ok a0 v15 h16))) (rfl : ([] : List Nat) = [])) (And.intro (laws_eqNetwork_ok v10 v15 v17 h18) (And.intro (rfl : (laws_FnExactLatestStart_x1 v17) = (laws_FnExactLatestStart_x1 v17)) (And.intro (And.intro (con_sw 1001 7 (con_sw 1000 6 (laws_toNetwork_ok a0 v15 h16))) (rfl : ([] : List Nat) = [])) (And.intro (laws_eqNetwork_ok v10 v15 v17 h18) (And.intro (rfl : (laws_FnExactLatestStart_x1 v17) = (laws_FnExactLatestStart_x1 v17)) (And.intro (And.intro (con_sw 1001 7 (con_sw 1000 6 (laws_toNetwork_ok a0 v15 h16))) (rfl : ([] : List Nat) = [])) (And.intro (laws_eqNetwork_ok v10 v15 v17 h18) (And.intro (rfl : (laws_FnExactLatestStart_x1 v17) = (laws_FnExactLatestStart_x1 v17)) (And.intro h19 True.intro))))))))))))))))))) (by kernel_rfl)
end Go.Sx
