/- The functions of the program as plain Lean, and that each runs so (printed by wip/gen). -/
import Derived.Test.YtgipaamnefphgaaBxW1
namespace Go.Sx
open Go.Proofs
set_option linter.unusedVariables false

-- loop.example/g03014/laws.markIntS
def laws_markIntS_L1_b (s1 : (List Int)) (s2 : Int) (s3 : Int) : Option (Ctl ((List Int) × Int × Int) ((List Int) × Int) (Int × (List Int))) :=
  bif (decide (s3 < (s1.length : Int))) then
  (gi s1 s3).bind fun v7 =>
  some (.next (List.set s1 (Int.toNat s3) s2, w64 (s2 + 1), w64 (s3 + 1)))
  else
  some (.brk (s1, s2))
def laws_markIntS_L1 (s : (List Int) × Int × Int) : Option (Ctl ((List Int) × Int × Int) ((List Int) × Int) (Int × (List Int))) := laws_markIntS_L1_b s.1 s.2.1 s.2.2
def laws_markIntS_L1_s (s1 : (List Int)) (s2 : Int) (s3 : Int) : St := ⟨[(0, .o (.c (.sl 900))), (1, .o (.c (.v (.int .i64 s2)))), (5, .o (.c (.v (.int .i64 s3))))], [(900, .row 3 1 (s1.map encI))]⟩
def laws_markIntS_L1_S (s : (List Int) × Int × Int) : St := laws_markIntS_L1_s s.1 s.2.1 s.2.2
def laws_markIntS_L1_a (s4 : (List Int)) (s5 : Int) : Option (Int × (List Int)) :=
  some (s5, s4)
def laws_markIntS_L1_k (x : ((List Int) × Int) ⊕ (Int × (List Int))) : Option (Int × (List Int)) := match x with
  | .inl t => laws_markIntS_L1_a t.1 t.2
  | .inr y => some y
def laws_markIntS (a0 : (List Int)) (a1 : Int) : Option (Int × (List Int)) :=
  (loopM (laws_markIntS_L1) big (a0, a1, 0)).bind (laws_markIntS_L1_k)
theorem laws_markIntS_ok (a0 : (List Int)) (a1 : Int) (r : Int × (List Int)) (hM : laws_markIntS a0 a1 = some r) :
    Con Try.prog 41 [.c (.sl 900), .c (.v (.int .i64 a1))] [(900, .row 3 1 (a0.map encI))] (.o (.c (.v (.int .i64 r.1)))) [(900, .row 3 1 (r.2.map encI))] [] := by
  unfold laws_markIntS at hM
  refine cn (N := 19) (pids := [900]) Try_mixed Try.func41 (by kernel_rfl) (by kernel_rfl) (by kernel_rfl) rfl fun ρ g w R => ?_
  have K1 : ∀ (s4 : (List Int)) (s5 : Int), laws_markIntS_L1_a s4 s5 = some r → Gr R [.code (cAt Try.f41 [1, 1])] (⟨[(0, .o (.c (.sl 900))), (1, .o (.c (.v (.int .i64 s5))))], [(900, .row 3 1 (s4.map encI))]⟩) := by
    intro s4 s5 hM
    unfold laws_markIntS_L1_a at hM
    have hE : some (s5, s4) = some r := hM
    have hE := Option.some.inj hE
    subst hE
    exact pr R 9999 [] [] [900] [] True.intro (by kernel_rfl)
  refine pc R 9999 [] [.keep [0, 1, 5] [900]] (k' := [.code (.loop (cAt Try.f41 [1, 0, 1, 0, 0])), .blk 0, .code (cAt Try.f41 [1, 1])]) (S' := laws_markIntS_L1_S (a0, a1, 0)) True.intro (by kernel_rfl) ?_
  refine lq (laws_markIntS_L1_S) (body := laws_markIntS_L1) (k := laws_markIntS_L1_k) hM fun m1 s c1 hM hK1 => ?_
  obtain ⟨s1, s2, s3⟩ := s
  have hM : laws_markIntS_L1_b s1 s2 s3 = some c1 := hM
  unfold laws_markIntS_L1_b at hM
  rcases cond_cases hM with ⟨h6, hM⟩ | ⟨h6, hM⟩
  · obtain ⟨v7, h8, hM⟩ := bind_some hM
    have hE : some (Ctl.next (List.set s1 (Int.toNat s3) s2, w64 (s2 + 1), w64 (s3 + 1))) = some c1 := hM
    have hE := Option.some.inj hE
    subst hE
    exact pc R 9999 [.ln (s1.length), .as 9 true, .ix (encI v7), .nm ((List.set s1 (Int.toNat s3) s2).map encI)] [.keep [0, 1, 5] [900]] (And.intro (lenm encI s1) (And.intro h6 (And.intro (gi_lt encI h8) (And.intro (And.intro (gi_map encI h8).2 (set_map encI s1 (Int.toNat s3) s2)) True.intro)))) (by kernel_rfl) (li (Sf := laws_markIntS_L1_S) (M := Mk (laws_markIntS_L1) (laws_markIntS_L1_k) r) (k := [.blk 0, .code (cAt Try.f41 [1, 1])]) (Nat.lt_succ_self m1) hK1)
  · have hE : some (Ctl.brk (s1, s2)) = some c1 := hM
    have hE := Option.some.inj hE
    subst hE
    exact pc R 5 [.ln (s1.length), .as 9 false] [.keep [0, 1] [900]] (And.intro (lenm encI s1) (And.intro h6 True.intro)) (by kernel_rfl) (K1 s1 s2 hK1)

-- loop.example/g03014/laws.heldIntS
def laws_heldIntS_L1_b (a0 : (List Int)) (s1 : Int) (s2 : Int) : Option (Ctl (Int × Int) Int Int) :=
  bif (decide (s2 < (a0.length : Int))) then
  (gi a0 s2).bind fun v5 =>
  bif (v5 != s1) then
  some (.ret (-1))
  else
  some (.next (w64 (s1 + 1), w64 (s2 + 1)))
  else
  some (.brk s1)
def laws_heldIntS_L1 (a0 : (List Int)) (s : Int × Int) : Option (Ctl (Int × Int) Int Int) := laws_heldIntS_L1_b a0 s.1 s.2
def laws_heldIntS_L1_s (a0 : (List Int)) (s1 : Int) (s2 : Int) : St := ⟨[(0, .o (.c (.rs 1 (a0.map encI)))), (1, .o (.c (.v (.int .i64 s1)))), (5, .o (.c (.v (.int .i64 s2))))], []⟩
def laws_heldIntS_L1_S (a0 : (List Int)) (s : Int × Int) : St := laws_heldIntS_L1_s a0 s.1 s.2
def laws_heldIntS_L1_a (s3 : Int) : Option Int :=
  some s3
def laws_heldIntS_L1_k (x : (Int) ⊕ (Int)) : Option Int := match x with
  | .inl t => laws_heldIntS_L1_a t
  | .inr y => some y
def laws_heldIntS (a0 : (List Int)) (a1 : Int) : Option Int :=
  (loopM (laws_heldIntS_L1 a0) big (a1, 0)).bind (laws_heldIntS_L1_k)
theorem laws_heldIntS_ok (a0 : (List Int)) (a1 : Int) (r : Int) (hM : laws_heldIntS a0 a1 = some r) :
    Con Try.prog 42 [.c (.rs 1 (a0.map encI)), .c (.v (.int .i64 a1))] [] (.o (.c (.v (.int .i64 r)))) [] [] := by
  unfold laws_heldIntS at hM
  refine cn (N := 21) (pids := []) Try_mixed Try.func42 (by kernel_rfl) (by kernel_rfl) (by kernel_rfl) rfl fun ρ g w R => ?_
  have K1 : ∀ (s3 : Int), laws_heldIntS_L1_a s3 = some r → Gr R [.code (cAt Try.f42 [1, 1])] (⟨[(1, .o (.c (.v (.int .i64 s3))))], []⟩) := by
    intro s3 hM
    unfold laws_heldIntS_L1_a at hM
    have hE : some s3 = some r := hM
    have hE := Option.some.inj hE
    subst hE
    exact pr R 9999 [] [] [] [] True.intro (by kernel_rfl)
  refine pc R 9999 [] [.keep [0, 1, 5] []] (k' := [.code (.loop (cAt Try.f42 [1, 0, 1, 0, 0])), .blk 0, .code (cAt Try.f42 [1, 1])]) (S' := laws_heldIntS_L1_S a0 (a1, 0)) True.intro (by kernel_rfl) ?_
  refine lq (laws_heldIntS_L1_S a0) (body := laws_heldIntS_L1 a0) (k := laws_heldIntS_L1_k) hM fun m1 s c1 hM hK1 => ?_
  obtain ⟨s1, s2⟩ := s
  have hM : laws_heldIntS_L1_b a0 s1 s2 = some c1 := hM
  unfold laws_heldIntS_L1_b at hM
  rcases cond_cases hM with ⟨h4, hM⟩ | ⟨h4, hM⟩
  · obtain ⟨v5, h6, hM⟩ := bind_some hM
    rcases cond_cases hM with ⟨h7, hM⟩ | ⟨h7, hM⟩
    · have hE : some (Ctl.ret (-1)) = some c1 := hM
      have hE := Option.some.inj hE
      subst hE
      have hE : some (-1) = some r := hK1
      have hE := Option.some.inj hE
      subst hE
      exact pr R 9999 [.ln (a0.length), .as 9 true, .ix (encI v5), .as 17 true] [] [] [] (And.intro (lenm encI a0) (And.intro h4 (And.intro (gi_map encI h6) (And.intro h7 True.intro)))) (by kernel_rfl)
    · have hE : some (Ctl.next (w64 (s1 + 1), w64 (s2 + 1))) = some c1 := hM
      have hE := Option.some.inj hE
      subst hE
      exact pc R 9999 [.ln (a0.length), .as 9 true, .ix (encI v5), .as 17 false] [.keep [0, 1, 5] []] (And.intro (lenm encI a0) (And.intro h4 (And.intro (gi_map encI h6) (And.intro h7 True.intro)))) (by kernel_rfl) (li (Sf := laws_heldIntS_L1_S a0) (M := Mk (laws_heldIntS_L1 a0) (laws_heldIntS_L1_k) r) (k := [.blk 0, .code (cAt Try.f42 [1, 1])]) (Nat.lt_succ_self m1) hK1)
  · have hE : some (Ctl.brk s1) = some c1 := hM
    have hE := Option.some.inj hE
    subst hE
    exact pc R 5 [.ln (a0.length), .as 9 false] [.keep [1] []] (And.intro (lenm encI a0) (And.intro h4 True.intro)) (by kernel_rfl) (K1 s1 hK1)

-- loop.example/g03014/laws.FnExactInsideOf
def laws_FnExactInsideOf (a0 : (List Thing)) (a1 : Int) : Option Bool :=
  (laws_szThingS a0 1048576).bind fun v1 =>
  bif (decide (v1 < 0)) then
  some true
  else
  (laws_toThingS a0).bind fun v4 =>
  (spec_InsideOf v4 a1).bind fun v6 =>
  (laws_toThingS a0).bind fun v8 =>
  (impl_InsideOf v8 a1).bind fun v10 =>
  (laws_eqIntS v10 v6).bind fun v12 =>
  bif (!v12) then
  some false
  else
  (laws_toThingS a0).bind fun v15 =>
  (laws_eqThingS v8 v15).bind fun v17 =>
  bif (!v17) then
  some false
  else
  (laws_markThingS v8 1).bind fun v20 =>
  bif (decide (v20.1 < 0)) then
  some false
  else
  (laws_eqIntS v10 v6).bind fun v23 =>
  bif (!v23) then
  some false
  else
  (laws_markIntS v10 1).bind fun v26 =>
  (laws_heldIntS v26.2 1).bind fun v28 =>
  bif (decide (v28 < 0)) then
  some false
  else
  bif (v28 != v26.1) then
  some false
  else
  (laws_toThingS a0).bind fun v32 =>
  (impl_InsideOf v32 a1).bind fun v34 =>
  (laws_eqIntS v34 v6).bind fun v36 =>
  bif (!v36) then
  some false
  else
  (laws_heldIntS v26.2 1).bind fun v39 =>
  bif (decide (v39 < 0)) then
  some false
  else
  bif (v39 != v26.1) then
  some false
  else
  some true
theorem laws_FnExactInsideOf_ok (a0 : (List Thing)) (a1 : Int) (r : Bool) (hM : laws_FnExactInsideOf a0 a1 = some r) :
    Con Try.prog 9 [.c (.rs 6 (a0.map Thing.enc)), .c (.v (.int .i64 a1))] [] (.o (.c (.v (.bool r)))) [] [] := by
  unfold laws_FnExactInsideOf at hM
  refine cn (N := 74) (pids := []) Try_mixed Try.func9 (by kernel_rfl) (by kernel_rfl) (by kernel_rfl) rfl fun ρ g w R => ?_
  obtain ⟨v1, h2, hM⟩ := bind_some hM
  rcases cond_cases hM with ⟨h3, hM⟩ | ⟨h3, hM⟩
  · have hE : some true = some r := hM
    have hE := Option.some.inj hE
    subst hE
    exact pr R 9999 [.call false [] (.o (.c (.v (.int .i64 v1)))) [] [], .as 17 true] [] [] [] (And.intro (laws_szThingS_ok a0 1048576 v1 h2) (And.intro h3 True.intro)) (by kernel_rfl)
  · obtain ⟨v4, h5, hM⟩ := bind_some hM
    obtain ⟨v6, h7, hM⟩ := bind_some hM
    obtain ⟨v8, h9, hM⟩ := bind_some hM
    obtain ⟨v10, h11, hM⟩ := bind_some hM
    obtain ⟨v12, h13, hM⟩ := bind_some hM
    rcases cond_cases hM with ⟨h14, hM⟩ | ⟨h14, hM⟩
    · have hE : some false = some r := hM
      have hE := Option.some.inj hE
      subst hE
      exact pr R 9999 [.call false [] (.o (.c (.v (.int .i64 v1)))) [] [], .as 17 false, .call false [] (.o (.c (.sl 0))) [] [(0, .row 49 6 (v4.map Thing.enc))], .call false [] (.o (.c (.sl 1))) [] [(1, .row 3 1 (v6.map encI))], .call false [] (.o (.c (.sl 2))) [] [(2, .row 49 6 (v8.map Thing.enc))], .call false [] (.o (.c (.sl 3))) [] [(3, .row 3 1 (v10.map encI))], .call false [] (.o (.c (.v (.bool v12)))) [] [], .as 30 true] [] [] [] (And.intro (laws_szThingS_ok a0 1048576 v1 h2) (And.intro h3 (And.intro (And.intro (con_sw 1000 0 (laws_toThingS_ok a0 v4 h5)) (rfl : ([] : List Nat) = [])) (And.intro (And.intro (con_sw 1000 1 (spec_InsideOf_ok v4 a1 v6 h7)) (rfl : ([] : List Nat) = [])) (And.intro (And.intro (con_sw 1000 2 (laws_toThingS_ok a0 v8 h9)) (rfl : ([] : List Nat) = [])) (And.intro (And.intro (con_sw 1000 3 (impl_InsideOf_ok v8 a1 v10 h11)) (rfl : ([] : List Nat) = [])) (And.intro (laws_eqIntS_ok v10 v6 v12 h13) (And.intro h14 True.intro)))))))) (by kernel_rfl)
    · obtain ⟨v15, h16, hM⟩ := bind_some hM
      obtain ⟨v17, h18, hM⟩ := bind_some hM
      rcases cond_cases hM with ⟨h19, hM⟩ | ⟨h19, hM⟩
      · have hE : some false = some r := hM
        have hE := Option.some.inj hE
        subst hE
        exact pr R 9999 [.call false [] (.o (.c (.v (.int .i64 v1)))) [] [], .as 17 false, .call false [] (.o (.c (.sl 0))) [] [(0, .row 49 6 (v4.map Thing.enc))], .call false [] (.o (.c (.sl 1))) [] [(1, .row 3 1 (v6.map encI))], .call false [] (.o (.c (.sl 2))) [] [(2, .row 49 6 (v8.map Thing.enc))], .call false [] (.o (.c (.sl 3))) [] [(3, .row 3 1 (v10.map encI))], .call false [] (.o (.c (.v (.bool v12)))) [] [], .as 30 false, .call false [] (.o (.c (.sl 4))) [] [(4, .row 49 6 (v15.map Thing.enc))], .call false [] (.o (.c (.v (.bool v17)))) [] [], .as 35 true] [] [] [] (And.intro (laws_szThingS_ok a0 1048576 v1 h2) (And.intro h3 (And.intro (And.intro (con_sw 1000 0 (laws_toThingS_ok a0 v4 h5)) (rfl : ([] : List Nat) = [])) (And.intro (And.intro (con_sw 1000 1 (spec_InsideOf_ok v4 a1 v6 h7)) (rfl : ([] : List Nat) = [])) (And.intro (And.intro (con_sw 1000 2 (laws_toThingS_ok a0 v8 h9)) (rfl : ([] : List Nat) = [])) (And.intro (And.intro (con_sw 1000 3 (impl_InsideOf_ok v8 a1 v10 h11)) (rfl : ([] : List Nat) = [])) (And.intro (laws_eqIntS_ok v10 v6 v12 h13) (And.intro h14 (And.intro (And.intro (con_sw 1000 4 (laws_toThingS_ok a0 v15 h16)) (rfl : ([] : List Nat) = [])) (And.intro (laws_eqThingS_ok v8 v15 v17 h18) (And.intro h19 True.intro))))))))))) (by kernel_rfl)
      · obtain ⟨v20, h21, hM⟩ := bind_some hM
        rcases cond_cases hM with ⟨h22, hM⟩ | ⟨h22, hM⟩
        · have hE : some false = some r := hM
          have hE := Option.some.inj hE
          subst hE
          exact pr R 9999 [.call false [] (.o (.c (.v (.int .i64 v1)))) [] [], .as 17 false, .call false [] (.o (.c (.sl 0))) [] [(0, .row 49 6 (v4.map Thing.enc))], .call false [] (.o (.c (.sl 1))) [] [(1, .row 3 1 (v6.map encI))], .call false [] (.o (.c (.sl 2))) [] [(2, .row 49 6 (v8.map Thing.enc))], .call false [] (.o (.c (.sl 3))) [] [(3, .row 3 1 (v10.map encI))], .call false [] (.o (.c (.v (.bool v12)))) [] [], .as 30 false, .call false [] (.o (.c (.sl 4))) [] [(4, .row 49 6 (v15.map Thing.enc))], .call false [] (.o (.c (.v (.bool v17)))) [] [], .as 35 false, .call false [2] (.o (.c (.v (.int .i64 v20.1)))) [(2, .row 49 6 (v20.2.map Thing.enc))] [], .as 41 true] [] [] [] (And.intro (laws_szThingS_ok a0 1048576 v1 h2) (And.intro h3 (And.intro (And.intro (con_sw 1000 0 (laws_toThingS_ok a0 v4 h5)) (rfl : ([] : List Nat) = [])) (And.intro (And.intro (con_sw 1000 1 (spec_InsideOf_ok v4 a1 v6 h7)) (rfl : ([] : List Nat) = [])) (And.intro (And.intro (con_sw 1000 2 (laws_toThingS_ok a0 v8 h9)) (rfl : ([] : List Nat) = [])) (And.intro (And.intro (con_sw 1000 3 (impl_InsideOf_ok v8 a1 v10 h11)) (rfl : ([] : List Nat) = [])) (And.intro (laws_eqIntS_ok v10 v6 v12 h13) (And.intro h14 (And.intro (And.intro (con_sw 1000 4 (laws_toThingS_ok a0 v15 h16)) (rfl : ([] : List Nat) = [])) (And.intro (laws_eqThingS_ok v8 v15 v17 h18) (And.intro h19 (And.intro (And.intro (con_sw 900 2 (laws_markThingS_ok v8 1 v20 h21)) (rfl : ([2] : List Nat) = [2])) (And.intro h22 True.intro))))))))))))) (by kernel_rfl)
        · obtain ⟨v23, h24, hM⟩ := bind_some hM
          rcases cond_cases hM with ⟨h25, hM⟩ | ⟨h25, hM⟩
          · have hE : some false = some r := hM
            have hE := Option.some.inj hE
            subst hE
            exact pr R 9999 [.call false [] (.o (.c (.v (.int .i64 v1)))) [] [], .as 17 false, .call false [] (.o (.c (.sl 0))) [] [(0, .row 49 6 (v4.map Thing.enc))], .call false [] (.o (.c (.sl 1))) [] [(1, .row 3 1 (v6.map encI))], .call false [] (.o (.c (.sl 2))) [] [(2, .row 49 6 (v8.map Thing.enc))], .call false [] (.o (.c (.sl 3))) [] [(3, .row 3 1 (v10.map encI))], .call false [] (.o (.c (.v (.bool v12)))) [] [], .as 30 false, .call false [] (.o (.c (.sl 4))) [] [(4, .row 49 6 (v15.map Thing.enc))], .call false [] (.o (.c (.v (.bool v17)))) [] [], .as 35 false, .call false [2] (.o (.c (.v (.int .i64 v20.1)))) [(2, .row 49 6 (v20.2.map Thing.enc))] [], .as 41 false, .call false [] (.o (.c (.v (.bool v23)))) [] [], .as 46 true] [] [] [] (And.intro (laws_szThingS_ok a0 1048576 v1 h2) (And.intro h3 (And.intro (And.intro (con_sw 1000 0 (laws_toThingS_ok a0 v4 h5)) (rfl : ([] : List Nat) = [])) (And.intro (And.intro (con_sw 1000 1 (spec_InsideOf_ok v4 a1 v6 h7)) (rfl : ([] : List Nat) = [])) (And.intro (And.intro (con_sw 1000 2 (laws_toThingS_ok a0 v8 h9)) (rfl : ([] : List Nat) = [])) (And.intro (And.intro (con_sw 1000 3 (impl_InsideOf_ok v8 a1 v10 h11)) (rfl : ([] : List Nat) = [])) (And.intro (laws_eqIntS_ok v10 v6 v12 h13) (And.intro h14 (And.intro (And.intro (con_sw 1000 4 (laws_toThingS_ok a0 v15 h16)) (rfl : ([] : List Nat) = [])) (And.intro (laws_eqThingS_ok v8 v15 v17 h18) (And.intro h19 (And.intro (And.intro (con_sw 900 2 (laws_markThingS_ok v8 1 v20 h21)) (rfl : ([2] : List Nat) = [2])) (And.intro h22 (And.intro (laws_eqIntS_ok v10 v6 v23 h24) (And.intro h25 True.intro))))))))))))))) (by kernel_rfl)
          · obtain ⟨v26, h27, hM⟩ := bind_some hM
            obtain ⟨v28, h29, hM⟩ := bind_some hM
            rcases cond_cases hM with ⟨h30, hM⟩ | ⟨h30, hM⟩
            · have hE : some false = some r := hM
              have hE := Option.some.inj hE
              subst hE
              exact pr R 9999 [.call false [] (.o (.c (.v (.int .i64 v1)))) [] [], .as 17 false, .call false [] (.o (.c (.sl 0))) [] [(0, .row 49 6 (v4.map Thing.enc))], .call false [] (.o (.c (.sl 1))) [] [(1, .row 3 1 (v6.map encI))], .call false [] (.o (.c (.sl 2))) [] [(2, .row 49 6 (v8.map Thing.enc))], .call false [] (.o (.c (.sl 3))) [] [(3, .row 3 1 (v10.map encI))], .call false [] (.o (.c (.v (.bool v12)))) [] [], .as 30 false, .call false [] (.o (.c (.sl 4))) [] [(4, .row 49 6 (v15.map Thing.enc))], .call false [] (.o (.c (.v (.bool v17)))) [] [], .as 35 false, .call false [2] (.o (.c (.v (.int .i64 v20.1)))) [(2, .row 49 6 (v20.2.map Thing.enc))] [], .as 41 false, .call false [] (.o (.c (.v (.bool v23)))) [] [], .as 46 false, .call false [3] (.o (.c (.v (.int .i64 v26.1)))) [(3, .row 3 1 (v26.2.map encI))] [], .call false [] (.o (.c (.v (.int .i64 v28)))) [] [], .as 54 true] [] [] [] (And.intro (laws_szThingS_ok a0 1048576 v1 h2) (And.intro h3 (And.intro (And.intro (con_sw 1000 0 (laws_toThingS_ok a0 v4 h5)) (rfl : ([] : List Nat) = [])) (And.intro (And.intro (con_sw 1000 1 (spec_InsideOf_ok v4 a1 v6 h7)) (rfl : ([] : List Nat) = [])) (And.intro (And.intro (con_sw 1000 2 (laws_toThingS_ok a0 v8 h9)) (rfl : ([] : List Nat) = [])) (And.intro (And.intro (con_sw 1000 3 (impl_InsideOf_ok v8 a1 v10 h11)) (rfl : ([] : List Nat) = [])) (And.intro (laws_eqIntS_ok v10 v6 v12 h13) (And.intro h14 (And.intro (And.intro (con_sw 1000 4 (laws_toThingS_ok a0 v15 h16)) (rfl : ([] : List Nat) = [])) (And.intro (laws_eqThingS_ok v8 v15 v17 h18) (And.intro h19 (And.intro (And.intro (con_sw 900 2 (laws_markThingS_ok v8 1 v20 h21)) (rfl : ([2] : List Nat) = [2])) (And.intro h22 (And.intro (laws_eqIntS_ok v10 v6 v23 h24) (And.intro h25 (And.intro (And.intro (con_sw 900 3 (laws_markIntS_ok v10 1 v26 h27)) (rfl : ([3] : List Nat) = [3])) (And.intro (laws_heldIntS_ok v26.2 1 v28 h29) (And.intro h30 True.intro)))))))))))))))))) (by kernel_rfl)
            · rcases cond_cases hM with ⟨h31, hM⟩ | ⟨h31, hM⟩
              · have hE : some false = some r := hM
                have hE := Option.some.inj hE
                subst hE
                exact pr R 9999 [.call false [] (.o (.c (.v (.int .i64 v1)))) [] [], .as 17 false, .call false [] (.o (.c (.sl 0))) [] [(0, .row 49 6 (v4.map Thing.enc))], .call false [] (.o (.c (.sl 1))) [] [(1, .row 3 1 (v6.map encI))], .call false [] (.o (.c (.sl 2))) [] [(2, .row 49 6 (v8.map Thing.enc))], .call false [] (.o (.c (.sl 3))) [] [(3, .row 3 1 (v10.map encI))], .call false [] (.o (.c (.v (.bool v12)))) [] [], .as 30 false, .call false [] (.o (.c (.sl 4))) [] [(4, .row 49 6 (v15.map Thing.enc))], .call false [] (.o (.c (.v (.bool v17)))) [] [], .as 35 false, .call false [2] (.o (.c (.v (.int .i64 v20.1)))) [(2, .row 49 6 (v20.2.map Thing.enc))] [], .as 41 false, .call false [] (.o (.c (.v (.bool v23)))) [] [], .as 46 false, .call false [3] (.o (.c (.v (.int .i64 v26.1)))) [(3, .row 3 1 (v26.2.map encI))] [], .call false [] (.o (.c (.v (.int .i64 v28)))) [] [], .as 54 false, .as 57 true] [] [] [] (And.intro (laws_szThingS_ok a0 1048576 v1 h2) (And.intro h3 (And.intro (And.intro (con_sw 1000 0 (laws_toThingS_ok a0 v4 h5)) (rfl : ([] : List Nat) = [])) (And.intro (And.intro (con_sw 1000 1 (spec_InsideOf_ok v4 a1 v6 h7)) (rfl : ([] : List Nat) = [])) (And.intro (And.intro (con_sw 1000 2 (laws_toThingS_ok a0 v8 h9)) (rfl : ([] : List Nat) = [])) (And.intro (And.intro (con_sw 1000 3 (impl_InsideOf_ok v8 a1 v10 h11)) (rfl : ([] : List Nat) = [])) (And.intro (laws_eqIntS_ok v10 v6 v12 h13) (And.intro h14 (And.intro (And.intro (con_sw 1000 4 (laws_toThingS_ok a0 v15 h16)) (rfl : ([] : List Nat) = [])) (And.intro (laws_eqThingS_ok v8 v15 v17 h18) (And.intro h19 (And.intro (And.intro (con_sw 900 2 (laws_markThingS_ok v8 1 v20 h21)) (rfl : ([2] : List Nat) = [2])) (And.intro h22 (And.intro (laws_eqIntS_ok v10 v6 v23 h24) (And.intro h25 (And.intro (And.intro (con_sw 900 3 (laws_markIntS_ok v10 1 v26 h27)) (rfl : ([3] : List Nat) = [3])) (And.intro (laws_heldIntS_ok v26.2 1 v28 h29) (And.intro h30 (And.intro h31 True.intro))))))))))))))))))) (by kernel_rfl)
              · obtain ⟨v32, h33, hM⟩ := bind_some hM
                obtain ⟨v34, h35, hM⟩ := bind_some hM
                obtain ⟨v36, h37, hM⟩ := bind_some hM
                rcases cond_cases hM with ⟨h38, hM⟩ | ⟨h38, hM⟩
                · have hE : some false = some r := hM
                  have hE := Option.some.inj hE
                  subst hE
                  exact pr R 9999 [.call false [] (.o (.c (.v (.int .i64 v1)))) [] [], .as 17 false, .call false [] (.o (.c (.sl 0))) [] [(0, .row 49 6 (v4.map Thing.enc))], .call false [] (.o (.c (.sl 1))) [] [(1, .row 3 1 (v6.map encI))], .call false [] (.o (.c (.sl 2))) [] [(2, .row 49 6 (v8.map Thing.enc))], .call false [] (.o (.c (.sl 3))) [] [(3, .row 3 1 (v10.map encI))], .call false [] (.o (.c (.v (.bool v12)))) [] [], .as 30 false, .call false [] (.o (.c (.sl 4))) [] [(4, .row 49 6 (v15.map Thing.enc))], .call false [] (.o (.c (.v (.bool v17)))) [] [], .as 35 false, .call false [2] (.o (.c (.v (.int .i64 v20.1)))) [(2, .row 49 6 (v20.2.map Thing.enc))] [], .as 41 false, .call false [] (.o (.c (.v (.bool v23)))) [] [], .as 46 false, .call false [3] (.o (.c (.v (.int .i64 v26.1)))) [(3, .row 3 1 (v26.2.map encI))] [], .call false [] (.o (.c (.v (.int .i64 v28)))) [] [], .as 54 false, .as 57 false, .call false [] (.o (.c (.sl 5))) [] [(5, .row 49 6 (v32.map Thing.enc))], .call false [] (.o (.c (.sl 6))) [] [(6, .row 3 1 (v34.map encI))], .call false [] (.o (.c (.v (.bool v36)))) [] [], .as 65 true] [] [] [] (And.intro (laws_szThingS_ok a0 1048576 v1 h2) (And.intro h3 (And.intro (And.intro (con_sw 1000 0 (laws_toThingS_ok a0 v4 h5)) (rfl : ([] : List Nat) = [])) (And.intro (And.intro (con_sw 1000 1 (spec_InsideOf_ok v4 a1 v6 h7)) (rfl : ([] : List Nat) = [])) (And.intro (And.intro (con_sw 1000 2 (laws_toThingS_ok a0 v8 h9)) (rfl : ([] : List Nat) = [])) (And.intro (And.intro (con_sw 1000 3 (impl_InsideOf_ok v8 a1 v10 h11)) (rfl : ([] : List Nat) = [])) (And.intro (laws_eqIntS_ok v10 v6 v12 h13) (And.intro h14 (And.intro (And.intro (con_sw 1000 4 (laws_toThingS_ok a0 v15 h16)) (rfl : ([] : List Nat) = [])) (And.intro (laws_eqThingS_ok v8 v15 v17 h18) (And.intro h19 (And.intro (And.intro (con_sw 900 2 (laws_markThingS_ok v8 1 v20 h21)) (rfl : ([2] : List Nat) = [2])) (And.intro h22 (And.intro (laws_eqIntS_ok v10 v6 v23 h24) (And.intro h25 (And.intro (And.intro (con_sw 900 3 (laws_markIntS_ok v10 1 v26 h27)) (rfl : ([3] : List Nat) = [3])) (And.intro (laws_heldIntS_ok v26.2 1 v28 h29) (And.intro h30 (And.intro h31 (And.intro (And.intro (con_sw 1000 5 (laws_toThingS_ok a0 v32 h33)) (rfl : ([] : List Nat) = [])) (And.intro (And.intro (con_sw 1000 6 (impl_InsideOf_ok v32 a1 v34 h35)) (rfl : ([] : List Nat) = [])) (And.intro (laws_eqIntS_ok v34 v6 v36 h37) (And.intro h38 True.intro))))))))))))))))))))))) (by kernel_rfl)
                · obtain ⟨v39, h40, hM⟩ := bind_some hM
                  rcases cond_cases hM with ⟨h41, hM⟩ | ⟨h41, hM⟩
                  · have hE : some false = some r := hM
                    have hE := Option.some.inj hE
                    subst hE
                    exact pr R 9999 [.call false [] (.o (.c (.v (.int .i64 v1)))) [] [], .as 17 false, .call false [] (.o (.c (.sl 0))) [] [(0, .row 49 6 (v4.map Thing.enc))], .call false [] (.o (.c (.sl 1))) [] [(1, .row 3 1 (v6.map encI))], .call false [] (.o (.c (.sl 2))) [] [(2, .row 49 6 (v8.map Thing.enc))], .call false [] (.o (.c (.sl 3))) [] [(3, .row 3 1 (v10.map encI))], .call false [] (.o (.c (.v (.bool v12)))) [] [], .as 30 false, .call false [] (.o (.c (.sl 4))) [] [(4, .row 49 6 (v15.map Thing.enc))], .call false [] (.o (.c (.v (.bool v17)))) [] [], .as 35 false, .call false [2] (.o (.c (.v (.int .i64 v20.1)))) [(2, .row 49 6 (v20.2.map Thing.enc))] [], .as 41 false, .call false [] (.o (.c (.v (.bool v23)))) [] [], .as 46 false, .call false [3] (.o (.c (.v (.int .i64 v26.1)))) [(3, .row 3 1 (v26.2.map encI))] [], .call false [] (.o (.c (.v (.int .i64 v28)))) [] [], .as 54 false, .as 57 false, .call false [] (.o (.c (.sl 5))) [] [(5, .row 49 6 (v32.map Thing.enc))], .call false [] (.o (.c (.sl 6))) [] [(6, .row 3 1 (v34.map encI))], .call false [] (.o (.c (.v (.bool v36)))) [] [], .as 65 false, .call false [] (.o (.c (.v (.int .i64 v39)))) [] [], .as 70 true] [] [] [] (And.intro (laws_szThingS_ok a0 1048576 v1 h2) (And.intro h3 (And.intro (And.intro (con_sw 1000 0 (laws_toThingS_ok a0 v4 h5)) (rfl : ([] : List Nat) = [])) (And.intro (And.intro (con_sw 1000 1 (spec_InsideOf_ok v4 a1 v6 h7)) (rfl : ([] : List Nat) = [])) (And.intro (And.intro (con_sw 1000 2 (laws_toThingS_ok a0 v8 h9)) (rfl : ([] : List Nat) = [])) (And.intro (And.intro (con_sw 1000 3 (impl_InsideOf_ok v8 a1 v10 h11)) (rfl : ([] : List Nat) = [])) (And.intro (laws_eqIntS_ok v10 v6 v12 h13) (And.intro h14 (And.intro (And.intro (con_sw 1000 4 (laws_toThingS_ok a0 v15 h16)) (rfl : ([] : List Nat) = [])) (And.intro (laws_eqThingS_ok v8 v15 v17 h18) (And.intro h19 (And.intro (And.intro (con_sw 900 2 (laws_markThingS_ok v8 1 v20 h21)) (rfl : ([2] : List Nat) = [2])) (And.intro h22 (And.intro (laws_eqIntS_ok v10 v6 v23 h24) (And.intro h25 (And.intro (And.intro (con_sw 900 3 (laws_markIntS_ok v10 1 v26 h27)) (rfl : ([3] : List Nat) = [3])) (And.intro (laws_heldIntS_ok v26.2 1 v28 h29) (And.intro h30 (And.intro h31 (And.intro (And.intro (con_sw 1000 5 (laws_toThingS_ok a0 v32 h33)) (rfl : ([] : List Nat) = [])) (And.intro (And.intro (con_sw 1000 6 (impl_InsideOf_ok v32 a1 v34 h35)) (rfl : ([] : List Nat) = [])) (And.intro (laws_eqIntS_ok v34 v6 v36 h37) (And.intro h38 (And.intro (laws_heldIntS_ok v26.2 1 v39 h40) (And.intro h41 True.intro))))))))))))))))))))))))) (by kernel_rfl)
                  · rcases cond_cases hM with ⟨h42, hM⟩ | ⟨h42, hM⟩
                    · have hE : some false = some r := hM
                      have hE := Option.some.inj hE
                      subst hE
                      exact pr R 9999 [.call false [] (.o (.c (.v (.int .i64 v1)))) [] [], .as 17 false, .call false [] (.o (.c (.sl 0))) [] [(0, .row 49 6 (v4.map Thing.enc))], .call false [] (.o (.c (.sl 1))) [] [(1, .row 3 1 (v6.map encI))], .call false [] (.o (.c (.sl 2))) [] [(2, .row 49 6 (v8.map Thing.enc))], .call false [] (.o (.c (.sl 3))) [] [(3, .row 3 1 (v10.map encI))], .call false [] (.o (.c (.v (.bool v12)))) [] [], .as 30 false, .call false [] (.o (.c (.sl 4))) [] [(4, .row 49 6 (v15.map Thing.enc))], .call false [] (.o (.c (.v (.bool v17)))) [] [], .as 35 false, .call false [2] (.o (.c (.v (.int .i64 v20.1)))) [(2, .row 49 6 (v20.2.map Thing.enc))] [], .as 41 false, .call false [] (.o (.c (.v (.bool v23)))) [] [], .as 46 false, .call false [3] (.o (.c (.v (.int .i64 v26.1)))) [(3, .row 3 1 (v26.2.map encI))] [], .call false [] (.o (.c (.v (.int .i64 v28)))) [] [], .as 54 false, .as 57 false, .call false [] (.o (.c (.sl 5))) [] [(5, .row 49 6 (v32.map Thing.enc))], .call false [] (.o (.c (.sl 6))) [] [(6, .row 3 1 (v34.map encI))], .call false [] (.o (.c (.v (.bool v36)))) [] [], .as 65 false, .call false [] (.o (.c (.v (.int .i64 v39)))) [] [], .as 70 false, .as 73 true] [] [] [] (And.intro (laws_szThingS_ok a0 1048576 v1 h2) (And.intro h3 (And.intro (And.intro (con_sw 1000 0 (laws_toThingS_ok a0 v4 h5)) (rfl : ([] : List Nat) = [])) (And.intro (And.intro (con_sw 1000 1 (spec_InsideOf_ok v4 a1 v6 h7)) (rfl : ([] : List Nat) = [])) (And.intro (And.intro (con_sw 1000 2 (laws_toThingS_ok a0 v8 h9)) (rfl : ([] : List Nat) = [])) (And.intro (And.intro (con_sw 1000 3 (impl_InsideOf_ok v8 a1 v10 h11)) (rfl : ([] : List Nat) = [])) (And.intro (laws_eqIntS_ok v10 v6 v12 h13) (And.intro h14 (And.intro (And.intro (con_sw 1000 4 (laws_toThingS_ok a0 v15 h16)) (rfl : ([] : List Nat) = [])) (And.intro (laws_eqThingS_ok v8 v15 v17 h18) (And.intro h19 (And.intro (And.intro (con_sw 900 2 (laws_markThingS_ok v8 1 v20 h21)) (rfl : ([2] : List Nat) = [2])) (And.intro h22 (And.intro (laws_eqIntS_ok v10 v6 v23 h24) (And.intro h25 (And.intro (And.intro (con_sw 900 3 (laws_markIntS_ok v10 1 v26 h27)) (rfl : ([3] : List Nat) = [3])) (And.intro (laws_heldIntS_ok v26.2 1 v28 h29) (And.intro h30 (And.intro h31 (And.intro (And.intro (con_sw 1000 5 (laws_toThingS_ok a0 v32 h33)) (rfl : ([] : List Nat) = [])) (And.intro (And.intro (con_sw 1000 6 (impl_InsideOf_ok v32 a1 v34 h35)) (rfl : ([] : List Nat) = [])) (And.intro (laws_eqIntS_ok v34 v6 v36 h37) (And.intro h38 (And.intro (laws_heldIntS_ok v26.2 1 v39 h40) (And.intro h41 (And.intro h42 True.intro)))))))))))))))))))))))))) (by kernel_rfl)
                    · have hE : some true = some r := hM
                      have hE := Option.some.inj hE
                      subst hE
                      exact pr R 9999 [.call false [] (.o (.c (.v (.int .i64 v1)))) [] [], .as 17 false, .call false [] (.o (.c (.sl 0))) [] [(0, .row 49 6 (v4.map Thing.enc))], .call false [] (.o (.c (.sl 1))) [] [(1, .row 3 1 (v6.map encI))], .call false [] (.o (.c (.sl 2))) [] [(2, .row 49 6 (v8.map Thing.enc))], .call false [] (.o (.c (.sl 3))) [] [(3, .row 3 1 (v10.map encI))], .call false [] (.o (.c (.v (.bool v12)))) [] [], .as 30 false, .call false [] (.o (.c (.sl 4))) [] [(4, .row 49 6 (v15.map Thing.enc))], .call false [] (.o (.c (.v (.bool v17)))) [] [], .as 35 false, .call false [2] (.o (.c (.v (.int .i64 v20.1)))) [(2, .row 49 6 (v20.2.map Thing.enc))] [], .as 41 false, .call false [] (.o (.c (.v (.bool v23)))) [] [], .as 46 false, .call false [3] (.o (.c (.v (.int .i64 v26.1)))) [(3, .row 3 1 (v26.2.map encI))] [], .call false [] (.o (.c (.v (.int .i64 v28)))) [] [], .as 54 false, .as 57 false, .call false [] (.o (.c (.sl 5))) [] [(5, .row 49 6 (v32.map Thing.enc))], .call false [] (.o (.c (.sl 6))) [] [(6, .row 3 1 (v34.map encI))], .call false [] (.o (.c (.v (.bool v36)))) [] [], .as 65 false, .call false [] (.o (.c (.v (.int .i64 v39)))) [] [], .as 70 false, .as 73 false] [] [] [] (And.intro (laws_szThingS_ok a0 1048576 v1 h2) (And.intro h3 (And.intro (And.intro (con_sw 1000 0 (laws_toThingS_ok a0 v4 h5)) (rfl : ([] : List Nat) = [])) (And.intro (And.intro (con_sw 1000 1 (spec_InsideOf_ok v4 a1 v6 h7)) (rfl : ([] : List Nat) = [])) (And.intro (And.intro (con_sw 1000 2 (laws_toThingS_ok a0 v8 h9)) (rfl : ([] : List Nat) = [])) (And.intro (And.intro (con_sw 1000 3 (impl_InsideOf_ok v8 a1 v10 h11)) (rfl : ([] : List Nat) = [])) (And.intro (laws_eqIntS_ok v10 v6 v12 h13) (And.intro h14 (And.intro (And.intro (con_sw 1000 4 (laws_toThingS_ok a0 v15 h16)) (rfl : ([] : List Nat) = [])) (And.intro (laws_eqThingS_ok v8 v15 v17 h18) (And.intro h19 (And.intro (And.intro (con_sw 900 2 (laws_markThingS_ok v8 1 v20 h21)) (rfl : ([2] : List Nat) = [2])) (And.intro h22 (And.intro (laws_eqIntS_ok v10 v6 v23 h24) (And.intro h25 (And.intro (And.intro (con_sw 900 3 (laws_markIntS_ok v10 1 v26 h27)) (rfl : ([3] : List Nat) = [3])) (And.intro (laws_heldIntS_ok v26.2 1 v28 h29) (And.intro h30 (And.intro h31 (And.intro (And.intro (con_sw 1000 5 (laws_toThingS_ok a0 v32 h33)) (rfl : ([] : List Nat) = [])) (And.intro (And.intro (con_sw 1000 6 (impl_InsideOf_ok v32 a1 v34 h35)) (rfl : ([] : List Nat) = [])) (And.intro (laws_eqIntS_ok v34 v6 v36 h37) (And.intro h38 (And.intro (laws_heldIntS_ok v26.2 1 v39 h40) (And.intro h41 (And.intro h42 True.intro)))))))))))))))))))))))))) (by kernel_rfl)

-- loop.example/g03014/spec.AllInside
def spec_AllInside_L1_b (a0 : (List Thing)) (a1 : Int) (s7 : (List Int)) (s8 : Int) : Option (Ctl ((List Int) × Int) (List Int) (List Int)) :=
  bif (decide (s8 < (a0.length : Int))) then
  (gi a0 s8).bind fun v11 =>
  (spec_l5Around a0 v11.Id a1).bind fun v13 =>
  bif v13 then
  (gi a0 s8).bind fun v16 =>
  (ap 8 s7 ([v16.Id] : List Int)).bind fun v18 =>
  some (.next (v18, w64 (s8 + 1)))
  else
  some (.next (s7, w64 (s8 + 1)))
  else
  some (.brk s7)
def spec_AllInside_L1 (a0 : (List Thing)) (a1 : Int) (s : (List Int) × Int) : Option (Ctl ((List Int) × Int) (List Int) (List Int)) := spec_AllInside_L1_b a0 a1 s.1 s.2
def spec_AllInside_L1_s (a0 : (List Thing)) (a1 : Int) (s7 : (List Int)) (s8 : Int) : St := ⟨[(0, .o (.c (.rs 6 (a0.map Thing.enc)))), (1, .o (.c (.v (.int .i64 a1)))), (5, .o (.c (.sl 0))), (6, .o (.c (.v (.int .i64 s8))))], [(0, .row 3 1 (s7.map encI))]⟩
def spec_AllInside_L1_S (a0 : (List Thing)) (a1 : Int) (s : (List Int) × Int) : St := spec_AllInside_L1_s a0 a1 s.1 s.2
def spec_AllInside_L1_a (s9 : (List Int)) : Option (List Int) :=
  some s9
def spec_AllInside_L1_k (x : ((List Int)) ⊕ ((List Int))) : Option (List Int) := match x with
  | .inl t => spec_AllInside_L1_a t
  | .inr y => some y
def spec_AllInside (a0 : (List Thing)) (a1 : Int) : Option (List Int) :=
  (spec_AreThings a0).bind fun v1 =>
  bif (!v1) then
  some ([] : List Int)
  else
  (spec_FindThing a0 a1).bind fun v4 =>
  bif (decide (v4 < 0)) then
  some ([] : List Int)
  else
  (loopM (spec_AllInside_L1 a0 a1) big (([] : List Int), 0)).bind (spec_AllInside_L1_k)
theorem spec_AllInside_ok (a0 : (List Thing)) (a1 : Int) (r : (List Int)) (hM : spec_AllInside a0 a1 = some r) :
    Con Try.prog 43 [.c (.rs 6 (a0.map Thing.enc)), .c (.v (.int .i64 a1))] [] (.o (.c (.sl 1000))) [] [(1000, .row 3 1 (r.map encI))] := by
  unfold spec_AllInside at hM
  refine cn (N := 41) (pids := []) Try_mixed Try.func43 (by kernel_rfl) (by kernel_rfl) (by kernel_rfl) rfl fun ρ g w R => ?_
  obtain ⟨v1, h2, hM⟩ := bind_some hM
  rcases cond_cases hM with ⟨h3, hM⟩ | ⟨h3, hM⟩
  · have hE : some ([] : List Int) = some r := hM
    have hE := Option.some.inj hE
    subst hE
    exact pr R 9999 [.new 0, .call false [] (.o (.c (.v (.bool v1)))) [] [], .as 11 true] [.sw 0 1000] [] [1000] (And.intro (spec_AreThings_ok a0 v1 h2) (And.intro h3 True.intro)) (by kernel_rfl)
  · obtain ⟨v4, h5, hM⟩ := bind_some hM
    rcases cond_cases hM with ⟨h6, hM⟩ | ⟨h6, hM⟩
    · have hE : some ([] : List Int) = some r := hM
      have hE := Option.some.inj hE
      subst hE
      exact pr R 9999 [.new 0, .call false [] (.o (.c (.v (.bool v1)))) [] [], .as 11 false, .call false [] (.o (.c (.v (.int .i64 v4)))) [] [], .as 16 true] [.sw 0 1000] [] [1000] (And.intro (spec_AreThings_ok a0 v1 h2) (And.intro h3 (And.intro (spec_FindThing_ok a0 a1 v4 h5) (And.intro h6 True.intro)))) (by kernel_rfl)
    · have K1 : ∀ (s9 : (List Int)), spec_AllInside_L1_a s9 = some r → Gr R [.code (cAt Try.f43 [1, 1, 1, 1])] (⟨[(5, .o (.c (.sl 0)))], [(0, .row 3 1 (s9.map encI))]⟩) := by
        intro s9 hM
        unfold spec_AllInside_L1_a at hM
        have hE : some s9 = some r := hM
        have hE := Option.some.inj hE
        subst hE
        exact pr R 9999 [] [.sw 0 1000] [] [1000] True.intro (by kernel_rfl)
      refine pc R 9999 [.new 0, .call false [] (.o (.c (.v (.bool v1)))) [] [], .as 11 false, .call false [] (.o (.c (.v (.int .i64 v4)))) [] [], .as 16 false] [.keep [0, 1, 5, 6] [0]] (k' := [.code (.loop (cAt Try.f43 [1, 1, 1, 0, 1, 0, 0])), .blk 0, .code (cAt Try.f43 [1, 1, 1, 1])]) (S' := spec_AllInside_L1_S a0 a1 (([] : List Int), 0)) (And.intro (spec_AreThings_ok a0 v1 h2) (And.intro h3 (And.intro (spec_FindThing_ok a0 a1 v4 h5) (And.intro h6 True.intro)))) (by kernel_rfl) ?_
      refine lq (spec_AllInside_L1_S a0 a1) (body := spec_AllInside_L1 a0 a1) (k := spec_AllInside_L1_k) hM fun m1 s c1 hM hK1 => ?_
      obtain ⟨s7, s8⟩ := s
      have hM : spec_AllInside_L1_b a0 a1 s7 s8 = some c1 := hM
      unfold spec_AllInside_L1_b at hM
      rcases cond_cases hM with ⟨h10, hM⟩ | ⟨h10, hM⟩
      · obtain ⟨v11, h12, hM⟩ := bind_some hM
        obtain ⟨v13, h14, hM⟩ := bind_some hM
        rcases cond_cases hM with ⟨h15, hM⟩ | ⟨h15, hM⟩
        · obtain ⟨v16, h17, hM⟩ := bind_some hM
          obtain ⟨v18, h19, hM⟩ := bind_some hM
          have hE : some (Ctl.next (v18, w64 (s8 + 1))) = some c1 := hM
          have hE := Option.some.inj hE
          subst hE
          exact pc R 9999 [.ln (a0.length), .as 21 true, .ix (Thing.enc v11), .call false [] (.o (.c (.v (.bool v13)))) [] [], .as 31 true, .ix (Thing.enc v16), .new 1, .new 2, .nm (v18.map encI)] [.sw 2 0, .keep [0, 1, 5, 6] [0]] (And.intro (lenm Thing.enc a0) (And.intro h10 (And.intro (gi_map Thing.enc h12) (And.intro (spec_l5Around_ok a0 v11.Id a1 v13 h14) (And.intro h15 (And.intro (gi_map Thing.enc h17) (And.intro (ap_ok encI h19) True.intro))))))) (by kernel_rfl) (li (Sf := spec_AllInside_L1_S a0 a1) (M := Mk (spec_AllInside_L1 a0 a1) (spec_AllInside_L1_k) r) (k := [.blk 0, .code (cAt Try.f43 [1, 1, 1, 1])]) (Nat.lt_succ_self m1) hK1)
        · have hE : some (Ctl.next (s7, w64 (s8 + 1))) = some c1 := hM
          have hE := Option.some.inj hE
          subst hE
          exact pc R 9999 [.ln (a0.length), .as 21 true, .ix (Thing.enc v11), .call false [] (.o (.c (.v (.bool v13)))) [] [], .as 31 false] [.keep [0, 1, 5, 6] [0]] (And.intro (lenm Thing.enc a0) (And.intro h10 (And.intro (gi_map Thing.enc h12) (And.intro (spec_l5Around_ok a0 v11.Id a1 v13 h14) (And.intro h15 True.intro))))) (by kernel_rfl) (li (Sf := spec_AllInside_L1_S a0 a1) (M := Mk (spec_AllInside_L1 a0 a1) (spec_AllInside_L1_k) r) (k := [.blk 0, .code (cAt Try.f43 [1, 1, 1, 1])]) (Nat.lt_succ_self m1) hK1)
      · have hE : some (Ctl.brk s7) = some c1 := hM
        have hE := Option.some.inj hE
        subst hE
        exact pc R 5 [.ln (a0.length), .as 21 false] [.keep [5] [0]] (And.intro (lenm Thing.enc a0) (And.intro h10 True.intro)) (by kernel_rfl) (K1 s7 hK1)

-- loop.example/g03014/impl.hasInt
def impl_hasInt_L1_b (a0 : (List Int)) (a1 : Int) (s1 : Int) : Option (Ctl Int Unit Bool) :=
  bif (decide (s1 < (a0.length : Int))) then
  (gi a0 s1).bind fun v3 =>
  bif (v3 == a1) then
  some (.ret true)
  else
  some (.next (w64 (s1 + 1)))
  else
  some (.brk ())
def impl_hasInt_L1 (a0 : (List Int)) (a1 : Int) (s : Int) : Option (Ctl Int Unit Bool) := impl_hasInt_L1_b a0 a1 s
def impl_hasInt_L1_s (a0 : (List Int)) (a1 : Int) (s1 : Int) : St := ⟨[(1, .o (.c (.v (.int .i64 a1)))), (7, .o (.c (.rs 1 (a0.map encI)))), (8, .o (.c (.v (.int .i64 (a0.length : Int))))), (9, .o (.c (.v (.int .i64 s1))))], []⟩
def impl_hasInt_L1_S (a0 : (List Int)) (a1 : Int) (s : Int) : St := impl_hasInt_L1_s a0 a1 s
def impl_hasInt_L1_a : Option Bool :=
  some false
def impl_hasInt_L1_k (x : (Unit) ⊕ (Bool)) : Option Bool := match x with
  | .inl t => impl_hasInt_L1_a
  | .inr y => some y
def impl_hasInt (a0 : (List Int)) (a1 : Int) : Option Bool :=
  (loopM (impl_hasInt_L1 a0 a1) big 0).bind (impl_hasInt_L1_k)
theorem impl_hasInt_ok (a0 : (List Int)) (a1 : Int) (r : Bool) (hM : impl_hasInt a0 a1 = some r) :
    Con Try.prog 77 [.c (.rs 1 (a0.map encI)), .c (.v (.int .i64 a1))] [] (.o (.c (.v (.bool r)))) [] [] := by
  unfold impl_hasInt at hM
  refine cn (N := 17) (pids := []) Try_mixed Try.func77 (by kernel_rfl) (by kernel_rfl) (by kernel_rfl) rfl fun ρ g w R => ?_
  have K1 : ∀ (_ : Unit), impl_hasInt_L1_a = some r → Gr R [.code (cAt Try.f77 [1, 1])] (⟨[], []⟩) := by
    intro _ hM
    unfold impl_hasInt_L1_a at hM
    have hE : some false = some r := hM
    have hE := Option.some.inj hE
    subst hE
    exact pr R 9999 [] [] [] [] True.intro (by kernel_rfl)
  refine pc R 9999 [.ln (a0.length)] [.keep [1, 7, 8, 9] []] (k' := [.code (.loop (cAt Try.f77 [1, 0, 1, 0, 0])), .blk 0, .code (cAt Try.f77 [1, 1])]) (S' := impl_hasInt_L1_S a0 a1 0) (And.intro (lenm encI a0) True.intro) (by kernel_rfl) ?_
  refine lq (impl_hasInt_L1_S a0 a1) (body := impl_hasInt_L1 a0 a1) (k := impl_hasInt_L1_k) hM fun m1 s c1 hM hK1 => ?_
  obtain ⟨s1, hs⟩ : ∃ z, z = s := ⟨_, rfl⟩
  subst hs
  have hM : impl_hasInt_L1_b a0 a1 s1 = some c1 := hM
  unfold impl_hasInt_L1_b at hM
  rcases cond_cases hM with ⟨h2, hM⟩ | ⟨h2, hM⟩
  · obtain ⟨v3, h4, hM⟩ := bind_some hM
    rcases cond_cases hM with ⟨h5, hM⟩ | ⟨h5, hM⟩
    · have hE : some (Ctl.ret true) = some c1 := hM
      have hE := Option.some.inj hE
      subst hE
      have hE : some true = some r := hK1
      have hE := Option.some.inj hE
      subst hE
      exact pr R 9999 [.as 10 true, .ix (encI v3), .as 15 true] [] [] [] (And.intro h2 (And.intro (gi_map encI h4) (And.intro h5 True.intro))) (by kernel_rfl)
    · have hE : some (Ctl.next (w64 (s1 + 1))) = some c1 := hM
      have hE := Option.some.inj hE
      subst hE
      exact pc R 9999 [.as 10 true, .ix (encI v3), .as 15 false] [.keep [1, 7, 8, 9] []] (And.intro h2 (And.intro (gi_map encI h4) (And.intro h5 True.intro))) (by kernel_rfl) (li (Sf := impl_hasInt_L1_S a0 a1) (M := Mk (impl_hasInt_L1 a0 a1) (impl_hasInt_L1_k) r) (k := [.blk 0, .code (cAt Try.f77 [1, 1])]) (Nat.lt_succ_self m1) hK1)
  · have hE : some (Ctl.brk ()) = some c1 := hM
    have hE := Option.some.inj hE
    subst hE
    exact pc R 5 [.as 10 false] [.keep [] []] (And.intro h2 True.intro) (by kernel_rfl) (K1 () hK1)

-- loop.example/g03014/impl.AllInside
def impl_AllInside_L1_b (a0 : (List Thing)) (a1 : Int) (s4 : (List Int)) (s5 : Int) : Option (Ctl ((List Int) × Int) (List Int) (List Int)) :=
  bif (decide (s5 < (a0.length : Int))) then
  (gi a0 s5).bind fun v8 =>
  (impl_around a0 v8.Id).bind fun v10 =>
  (impl_hasInt v10 a1).bind fun v12 =>
  bif v12 then
  (ap 8 s4 ([v8.Id] : List Int)).bind fun v15 =>
  some (.next (v15, w64 (s5 + 1)))
  else
  some (.next (s4, w64 (s5 + 1)))
  else
  some (.brk s4)
def impl_AllInside_L1 (a0 : (List Thing)) (a1 : Int) (s : (List Int) × Int) : Option (Ctl ((List Int) × Int) (List Int) (List Int)) := impl_AllInside_L1_b a0 a1 s.1 s.2
def impl_AllInside_L1_s (a0 : (List Thing)) (a1 : Int) (s4 : (List Int)) (s5 : Int) : St := ⟨[(0, .o (.c (.rs 6 (a0.map Thing.enc)))), (1, .o (.c (.v (.int .i64 a1)))), (5, .o (.c (.sl 0))), (14, .o (.c (.rs 6 (a0.map Thing.enc)))), (15, .o (.c (.v (.int .i64 (a0.length : Int))))), (16, .o (.c (.v (.int .i64 s5))))], [(0, .row 3 1 (s4.map encI))]⟩
def impl_AllInside_L1_S (a0 : (List Thing)) (a1 : Int) (s : (List Int) × Int) : St := impl_AllInside_L1_s a0 a1 s.1 s.2
def impl_AllInside_L1_a (s6 : (List Int)) : Option (List Int) :=
  some s6
def impl_AllInside_L1_k (x : ((List Int)) ⊕ ((List Int))) : Option (List Int) := match x with
  | .inl t => impl_AllInside_L1_a t
  | .inr y => some y
def impl_AllInside (a0 : (List Thing)) (a1 : Int) : Option (List Int) :=
  (impl_isThing a0 a1).bind fun v1 =>
  bif (!v1) then
  some ([] : List Int)
  else
  (loopM (impl_AllInside_L1 a0 a1) big (([] : List Int), 0)).bind (impl_AllInside_L1_k)
theorem impl_AllInside_ok (a0 : (List Thing)) (a1 : Int) (r : (List Int)) (hM : impl_AllInside a0 a1 = some r) :
    Con Try.prog 44 [.c (.rs 6 (a0.map Thing.enc)), .c (.v (.int .i64 a1))] [] (.o (.c (.sl 1000))) [] [(1000, .row 3 1 (r.map encI))] := by
  unfold impl_AllInside at hM
  refine cn (N := 33) (pids := []) Try_mixed Try.func44 (by kernel_rfl) (by kernel_rfl) (by kernel_rfl) rfl fun ρ g w R => ?_
  obtain ⟨v1, h2, hM⟩ := bind_some hM
  rcases cond_cases hM with ⟨h3, hM⟩ | ⟨h3, hM⟩
  · have hE : some ([] : List Int) = some r := hM
    have hE := Option.some.inj hE
    subst hE
    exact pr R 9999 [.new 0, .call false [] (.o (.c (.v (.bool v1)))) [] [], .as 12 true] [.sw 0 1000] [] [1000] (And.intro (impl_isThing_ok a0 a1 v1 h2) (And.intro h3 True.intro)) (by kernel_rfl)
  · have K1 : ∀ (s6 : (List Int)), impl_AllInside_L1_a s6 = some r → Gr R [.code (cAt Try.f44 [1, 1, 1, 1])] (⟨[(5, .o (.c (.sl 0)))], [(0, .row 3 1 (s6.map encI))]⟩) := by
      intro s6 hM
      unfold impl_AllInside_L1_a at hM
      have hE : some s6 = some r := hM
      have hE := Option.some.inj hE
      subst hE
      exact pr R 9999 [] [.sw 0 1000] [] [1000] True.intro (by kernel_rfl)
    refine pc R 9999 [.new 0, .call false [] (.o (.c (.v (.bool v1)))) [] [], .as 12 false, .ln (a0.length)] [.keep [0, 1, 5, 14, 15, 16] [0]] (k' := [.code (.loop (cAt Try.f44 [1, 1, 1, 0, 1, 0, 0])), .blk 0, .code (cAt Try.f44 [1, 1, 1, 1])]) (S' := impl_AllInside_L1_S a0 a1 (([] : List Int), 0)) (And.intro (impl_isThing_ok a0 a1 v1 h2) (And.intro h3 (And.intro (lenm Thing.enc a0) True.intro))) (by kernel_rfl) ?_
    refine lq (impl_AllInside_L1_S a0 a1) (body := impl_AllInside_L1 a0 a1) (k := impl_AllInside_L1_k) hM fun m1 s c1 hM hK1 => ?_
    obtain ⟨s4, s5⟩ := s
    have hM : impl_AllInside_L1_b a0 a1 s4 s5 = some c1 := hM
    unfold impl_AllInside_L1_b at hM
    rcases cond_cases hM with ⟨h7, hM⟩ | ⟨h7, hM⟩
    · obtain ⟨v8, h9, hM⟩ := bind_some hM
      obtain ⟨v10, h11, hM⟩ := bind_some hM
      obtain ⟨v12, h13, hM⟩ := bind_some hM
      rcases cond_cases hM with ⟨h14, hM⟩ | ⟨h14, hM⟩
      · obtain ⟨v15, h16, hM⟩ := bind_some hM
        have hE : some (Ctl.next (v15, w64 (s5 + 1))) = some c1 := hM
        have hE := Option.some.inj hE
        subst hE
        exact pc R 9999 [.as 17 true, .ix (Thing.enc v8), .new 1, .call false [] (.o (.c (.sl 2))) [] [(2, .row 3 1 (v10.map encI))], .call false [] (.o (.c (.v (.bool v12)))) [] [], .as 25 true, .new 3, .new 4, .nm (v15.map encI)] [.sw 4 0, .keep [0, 1, 5, 14, 15, 16] [0]] (And.intro h7 (And.intro (gi_map Thing.enc h9) (And.intro (And.intro (con_sw 1000 2 (impl_around_ok a0 v8.Id v10 h11)) (rfl : ([] : List Nat) = [])) (And.intro (impl_hasInt_ok v10 a1 v12 h13) (And.intro h14 (And.intro (ap_ok encI h16) True.intro)))))) (by kernel_rfl) (li (Sf := impl_AllInside_L1_S a0 a1) (M := Mk (impl_AllInside_L1 a0 a1) (impl_AllInside_L1_k) r) (k := [.blk 0, .code (cAt Try.f44 [1, 1, 1, 1])]) (Nat.lt_succ_self m1) hK1)
      · have hE : some (Ctl.next (s4, w64 (s5 + 1))) = some c1 := hM
        have hE := Option.some.inj hE
        subst hE
        exact pc R 9999 [.as 17 true, .ix (Thing.enc v8), .new 1, .call false [] (.o (.c (.sl 2))) [] [(2, .row 3 1 (v10.map encI))], .call false [] (.o (.c (.v (.bool v12)))) [] [], .as 25 false] [.keep [0, 1, 5, 14, 15, 16] [0]] (And.intro h7 (And.intro (gi_map Thing.enc h9) (And.intro (And.intro (con_sw 1000 2 (impl_around_ok a0 v8.Id v10 h11)) (rfl : ([] : List Nat) = [])) (And.intro (impl_hasInt_ok v10 a1 v12 h13) (And.intro h14 True.intro))))) (by kernel_rfl) (li (Sf := impl_AllInside_L1_S a0 a1) (M := Mk (impl_AllInside_L1 a0 a1) (impl_AllInside_L1_k) r) (k := [.blk 0, .code (cAt Try.f44 [1, 1, 1, 1])]) (Nat.lt_succ_self m1) hK1)
    · have hE : some (Ctl.brk s4) = some c1 := hM
      have hE := Option.some.inj hE
      subst hE
      exact pc R 5 [.as 17 false] [.keep [5] [0]] (And.intro h7 True.intro) (by kernel_rfl) (K1 s4 hK1)

-- loop.example/g03014/laws.FnExactAllInside
def laws_FnExactAllInside (a0 : (List Thing)) (a1 : Int) : Option Bool :=
  (laws_szThingS a0 1048576).bind fun v1 =>
  bif (decide (v1 < 0)) then
  some true
  else
  (laws_toThingS a0).bind fun v4 =>
  (spec_AllInside v4 a1).bind fun v6 =>
  (laws_toThingS a0).bind fun v8 =>
  (impl_AllInside v8 a1).bind fun v10 =>
  (laws_eqIntS v10 v6).bind fun v12 =>
  bif (!v12) then
  some false
  else
  (laws_toThingS a0).bind fun v15 =>
  (laws_eqThingS v8 v15).bind fun v17 =>
  bif (!v17) then
  some false
  else
  (laws_markThingS v8 1).bind fun v20 =>
  bif (decide (v20.1 < 0)) then
  some false
  else
  (laws_eqIntS v10 v6).bind fun v23 =>
  bif (!v23) then
  some false
  else
  (laws_markIntS v10 1).bind fun v26 =>
  (laws_heldIntS v26.2 1).bind fun v28 =>
  bif (decide (v28 < 0)) then
  some false
  else
  bif (v28 != v26.1) then
  some false
  else
  (laws_toThingS a0).bind fun v32 =>
  (impl_AllInside v32 a1).bind fun v34 =>
  (laws_eqIntS v34 v6).bind fun v36 =>
  bif (!v36) then
  some false
  else
  (laws_heldIntS v26.2 1).bind fun v39 =>
  bif (decide (v39 < 0)) then
  some false
  else
  bif (v39 != v26.1) then
  some false
  else
  some true
theorem laws_FnExactAllInside_ok (a0 : (List Thing)) (a1 : Int) (r : Bool) (hM : laws_FnExactAllInside a0 a1 = some r) :
    Con Try.prog 10 [.c (.rs 6 (a0.map Thing.enc)), .c (.v (.int .i64 a1))] [] (.o (.c (.v (.bool r)))) [] [] := by
  unfold laws_FnExactAllInside at hM
  refine cn (N := 74) (pids := []) Try_mixed Try.func10 (by kernel_rfl) (by kernel_rfl) (by kernel_rfl) rfl fun ρ g w R => ?_
  obtain ⟨v1, h2, hM⟩ := bind_some hM
  rcases cond_cases hM with ⟨h3, hM⟩ | ⟨h3, hM⟩
  · have hE : some true = some r := hM
    have hE := Option.some.inj hE
    subst hE
    exact pr R 9999 [.call false [] (.o (.c (.v (.int .i64 v1)))) [] [], .as 17 true] [] [] [] (And.intro (laws_szThingS_ok a0 1048576 v1 h2) (And.intro h3 True.intro)) (by kernel_rfl)
  · obtain ⟨v4, h5, hM⟩ := bind_some hM
    obtain ⟨v6, h7, hM⟩ := bind_some hM
    obtain ⟨v8, h9, hM⟩ := bind_some hM
    obtain ⟨v10, h11, hM⟩ := bind_some hM
    obtain ⟨v12, h13, hM⟩ := bind_some hM
    rcases cond_cases hM with ⟨h14, hM⟩ | ⟨h14, hM⟩
    · have hE : some false = some r := hM
      have hE := Option.some.inj hE
      subst hE
      exact pr R 9999 [.call false [] (.o (.c (.v (.int .i64 v1)))) [] [], .as 17 false, .call false [] (.o (.c (.sl 0))) [] [(0, .row 49 6 (v4.map Thing.enc))], .call false [] (.o (.c (.sl 1))) [] [(1, .row 3 1 (v6.map encI))], .call false [] (.o (.c (.sl 2))) [] [(2, .row 49 6 (v8.map Thing.enc))], .call false [] (.o (.c (.sl 3))) [] [(3, .row 3 1 (v10.map encI))], .call false [] (.o (.c (.v (.bool v12)))) [] [], .as 30 true] [] [] [] (And.intro (laws_szThingS_ok a0 1048576 v1 h2) (And.intro h3 (And.intro (And.intro (con_sw 1000 0 (laws_toThingS_ok a0 v4 h5)) (rfl : ([] : List Nat) = [])) (And.intro (And.intro (con_sw 1000 1 (spec_AllInside_ok v4 a1 v6 h7)) (rfl : ([] : List Nat) = [])) (And.intro (And.intro (con_sw 1000 2 (laws_toThingS_ok a0 v8 h9)) (rfl : ([] : List Nat) = [])) (And.intro (And.intro (con_sw 1000 3 (impl_AllInside_ok v8 a1 v10 h11)) (rfl : ([] : List Nat) = [])) (And.intro (laws_eqIntS_ok v10 v6 v12 h13) (And.intro h14 True.intro)))))))) (by kernel_rfl)
    · obtain ⟨v15, h16, hM⟩ := bind_some hM
      obtain ⟨v17, h18, hM⟩ := bind_some hM
      rcases cond_cases hM with ⟨h19, hM⟩ | ⟨h19, hM⟩
      · have hE : some false = some r := hM
        have hE := Option.some.inj hE
        subst hE
        exact pr R 9999 [.call false [] (.o (.c (.v (.int .i64 v1)))) [] [], .as 17 false, .call false [] (.o (.c (.sl 0))) [] [(0, .row 49 6 (v4.map Thing.enc))], .call false [] (.o (.c (.sl 1))) [] [(1, .row 3 1 (v6.map encI))], .call false [] (.o (.c (.sl 2))) [] [(2, .row 49 6 (v8.map Thing.enc))], .call false [] (.o (.c (.sl 3))) [] [(3, .row 3 1 (v10.map encI))], .call false [] (.o (.c (.v (.bool v12)))) [] [], .as 30 false, .call false [] (.o (.c (.sl 4))) [] [(4, .row 49 6 (v15.map Thing.enc))], .call false [] (.o (.c (.v (.bool v17)))) [] [], .as 35 true] [] [] [] (And.intro (laws_szThingS_ok a0 1048576 v1 h2) (And.intro h3 (And.intro (And.intro (con_sw 1000 0 (laws_toThingS_ok a0 v4 h5)) (rfl : ([] : List Nat) = [])) (And.intro (And.intro (con_sw 1000 1 (spec_AllInside_ok v4 a1 v6 h7)) (rfl : ([] : List Nat) = [])) (And.intro (And.intro (con_sw 1000 2 (laws_toThingS_ok a0 v8 h9)) (rfl : ([] : List Nat) = [])) (And.intro (And.intro (con_sw 1000 3 (impl_AllInside_ok v8 a1 v10 h11)) (rfl : ([] : List Nat) = [])) (And.intro (laws_eqIntS_ok v10 v6 v12 h13) (And.intro h14 (And.intro (And.intro (con_sw 1000 4 (laws_toThingS_ok a0 v15 h16)) (rfl : ([] : List Nat) = [])) (And.intro (laws_eqThingS_ok v8 v15 v17 h18) (And.intro h19 True.intro))))))))))) (by kernel_rfl)
      · obtain ⟨v20, h21, hM⟩ := bind_some hM
        rcases cond_cases hM with ⟨h22, hM⟩ | ⟨h22, hM⟩
        · have hE : some false = some r := hM
          have hE := Option.some.inj hE
          subst hE
          exact pr R 9999 [.call false [] (.o (.c (.v (.int .i64 v1)))) [] [], .as 17 false, .call false [] (.o (.c (.sl 0))) [] [(0, .row 49 6 (v4.map Thing.enc))], .call false [] (.o (.c (.sl 1))) [] [(1, .row 3 1 (v6.map encI))], .call false [] (.o (.c (.sl 2))) [] [(2, .row 49 6 (v8.map Thing.enc))], .call false [] (.o (.c (.sl 3))) [] [(3, .row 3 1 (v10.map encI))], .call false [] (.o (.c (.v (.bool v12)))) [] [], .as 30 false, .call false [] (.o (.c (.sl 4))) [] [(4, .row 49 6 (v15.map Thing.enc))], .call false [] (.o (.c (.v (.bool v17)))) [] [], .as 35 false, .call false [2] (.o (.c (.v (.int .i64 v20.1)))) [(2, .row 49 6 (v20.2.map Thing.enc))] [], .as 41 true] [] [] [] (And.intro (laws_szThingS_ok a0 1048576 v1 h2) (And.intro h3 (And.intro (And.intro (con_sw 1000 0 (laws_toThingS_ok a0 v4 h5)) (rfl : ([] : List Nat) = [])) (And.intro (And.intro (con_sw 1000 1 (spec_AllInside_ok v4 a1 v6 h7)) (rfl : ([] : List Nat) = [])) (And.intro (And.intro (con_sw 1000 2 (laws_toThingS_ok a0 v8 h9)) (rfl : ([] : List Nat) = [])) (And.intro (And.intro (con_sw 1000 3 (impl_AllInside_ok v8 a1 v10 h11)) (rfl : ([] : List Nat) = [])) (And.intro (laws_eqIntS_ok v10 v6 v12 h13) (And.intro h14 (And.intro (And.intro (con_sw 1000 4 (laws_toThingS_ok a0 v15 h16)) (rfl : ([] : List Nat) = [])) (And.intro (laws_eqThingS_ok v8 v15 v17 h18) (And.intro h19 (And.intro (And.intro (con_sw 900 2 (laws_markThingS_ok v8 1 v20 h21)) (rfl : ([2] : List Nat) = [2])) (And.intro h22 True.intro))))))))))))) (by kernel_rfl)
        · obtain ⟨v23, h24, hM⟩ := bind_some hM
          rcases cond_cases hM with ⟨h25, hM⟩ | ⟨h25, hM⟩
          · have hE : some false = some r := hM
            have hE := Option.some.inj hE
            subst hE
            exact pr R 9999 [.call false [] (.o (.c (.v (.int .i64 v1)))) [] [], .as 17 false, .call false [] (.o (.c (.sl 0))) [] [(0, .row 49 6 (v4.map Thing.enc))], .call false [] (.o (.c (.sl 1))) [] [(1, .row 3 1 (v6.map encI))], .call false [] (.o (.c (.sl 2))) [] [(2, .row 49 6 (v8.map Thing.enc))], .call false [] (.o (.c (.sl 3))) [] [(3, .row 3 1 (v10.map encI))], .call false [] (.o (.c (.v (.bool v12)))) [] [], .as 30 false, .call false [] (.o (.c (.sl 4))) [] [(4, .row 49 6 (v15.map Thing.enc))], .call false [] (.o (.c (.v (.bool v17)))) [] [], .as 35 false, .call false [2] (.o (.c (.v (.int .i64 v20.1)))) [(2, .row 49 6 (v20.2.map Thing.enc))] [], .as 41 false, .call false [] (.o (.c (.v (.bool v23)))) [] [], .as 46 true] [] [] [] (And.intro (laws_szThingS_ok a0 1048576 v1 h2) (And.intro h3 (And.intro (And.intro (con_sw 1000 0 (laws_toThingS_ok a0 v4 h5)) (rfl : ([] : List Nat) = [])) (And.intro (And.intro (con_sw 1000 1 (spec_AllInside_ok v4 a1 v6 h7)) (rfl : ([] : List Nat) = [])) (And.intro (And.intro (con_sw 1000 2 (laws_toThingS_ok a0 v8 h9)) (rfl : ([] : List Nat) = [])) (And.intro (And.intro (con_sw 1000 3 (impl_AllInside_ok v8 a1 v10 h11)) (rfl : ([] : List Nat) = [])) (And.intro (laws_eqIntS_ok v10 v6 v12 h13) (And.intro h14 (And.intro (And.intro (con_sw 1000 4 (laws_toThingS_ok a0 v15 h16)) (rfl : ([] : List Nat) = [])) (And.intro (laws_eqThingS_ok v8 v15 v17 h18) (And.intro h19 (And.intro (And.intro (con_sw 900 2 (laws_markThingS_ok v8 1 v20 h21)) (rfl : ([2] : List Nat) = [2])) (And.intro h22 (And.intro (laws_eqIntS_ok v10 v6 v23 h24) (And.intro h25 True.intro))))))))))))))) (by kernel_rfl)
          · obtain ⟨v26, h27, hM⟩ := bind_some hM
            obtain ⟨v28, h29, hM⟩ := bind_some hM
            rcases cond_cases hM with ⟨h30, hM⟩ | ⟨h30, hM⟩
            · have hE : some false = some r := hM
              have hE := Option.some.inj hE
              subst hE
              exact pr R 9999 [.call false [] (.o (.c (.v (.int .i64 v1)))) [] [], .as 17 false, .call false [] (.o (.c (.sl 0))) [] [(0, .row 49 6 (v4.map Thing.enc))], .call false [] (.o (.c (.sl 1))) [] [(1, .row 3 1 (v6.map encI))], .call false [] (.o (.c (.sl 2))) [] [(2, .row 49 6 (v8.map Thing.enc))], .call false [] (.o (.c (.sl 3))) [] [(3, .row 3 1 (v10.map encI))], .call false [] (.o (.c (.v (.bool v12)))) [] [], .as 30 false, .call false [] (.o (.c (.sl 4))) [] [(4, .row 49 6 (v15.map Thing.enc))], .call false [] (.o (.c (.v (.bool v17)))) [] [], .as 35 false, .call false [2] (.o (.c (.v (.int .i64 v20.1)))) [(2, .row 49 6 (v20.2.map Thing.enc))] [], .as 41 false, .call false [] (.o (.c (.v (.bool v23)))) [] [], .as 46 false, .call false [3] (.o (.c (.v (.int .i64 v26.1)))) [(3, .row 3 1 (v26.2.map encI))] [], .call false [] (.o (.c (.v (.int .i64 v28)))) [] [], .as 54 true] [] [] [] (And.intro (laws_szThingS_ok a0 1048576 v1 h2) (And.intro h3 (And.intro (And.intro (con_sw 1000 0 (laws_toThingS_ok a0 v4 h5)) (rfl : ([] : List Nat) = [])) (And.intro (And.intro (con_sw 1000 1 (spec_AllInside_ok v4 a1 v6 h7)) (rfl : ([] : List Nat) = [])) (And.intro (And.intro (con_sw 1000 2 (laws_toThingS_ok a0 v8 h9)) (rfl : ([] : List Nat) = [])) (And.intro (And.intro (con_sw 1000 3 (impl_AllInside_ok v8 a1 v10 h11)) (rfl : ([] : List Nat) = [])) (And.intro (laws_eqIntS_ok v10 v6 v12 h13) (And.intro h14 (And.intro (And.intro (con_sw 1000 4 (laws_toThingS_ok a0 v15 h16)) (rfl : ([] : List Nat) = [])) (And.intro (laws_eqThingS_ok v8 v15 v17 h18) (And.intro h19 (And.intro (And.intro (con_sw 900 2 (laws_markThingS_ok v8 1 v20 h21)) (rfl : ([2] : List Nat) = [2])) (And.intro h22 (And.intro (laws_eqIntS_ok v10 v6 v23 h24) (And.intro h25 (And.intro (And.intro (con_sw 900 3 (laws_markIntS_ok v10 1 v26 h27)) (rfl : ([3] : List Nat) = [3])) (And.intro (laws_heldIntS_ok v26.2 1 v28 h29) (And.intro h30 True.intro)))))))))))))))))) (by kernel_rfl)
            · rcases cond_cases hM with ⟨h31, hM⟩ | ⟨h31, hM⟩
              · have hE : some false = some r := hM
                have hE := Option.some.inj hE
                subst hE
                exact pr R 9999 [.call false [] (.o (.c (.v (.int .i64 v1)))) [] [], .as 17 false, .call false [] (.o (.c (.sl 0))) [] [(0, .row 49 6 (v4.map Thing.enc))], .call false [] (.o (.c (.sl 1))) [] [(1, .row 3 1 (v6.map encI))], .call false [] (.o (.c (.sl 2))) [] [(2, .row 49 6 (v8.map Thing.enc))], .call false [] (.o (.c (.sl 3))) [] [(3, .row 3 1 (v10.map encI))], .call false [] (.o (.c (.v (.bool v12)))) [] [], .as 30 false, .call false [] (.o (.c (.sl 4))) [] [(4, .row 49 6 (v15.map Thing.enc))], .call false [] (.o (.c (.v (.bool v17)))) [] [], .as 35 false, .call false [2] (.o (.c (.v (.int .i64 v20.1)))) [(2, .row 49 6 (v20.2.map Thing.enc))] [], .as 41 false, .call false [] (.o (.c (.v (.bool v23)))) [] [], .as 46 false, .call false [3] (.o (.c (.v (.int .i64 v26.1)))) [(3, .row 3 1 (v26.2.map encI))] [], .call false [] (.o (.c (.v (.int .i64 v28)))) [] [], .as 54 false, .as 57 true] [] [] [] (And.intro (laws_szThingS_ok a0 1048576 v1 h2) (And.intro h3 (And.intro (And.intro (con_sw 1000 0 (laws_toThingS_ok a0 v4 h5)) (rfl : ([] : List Nat) = [])) (And.intro (And.intro (con_sw 1000 1 (spec_AllInside_ok v4 a1 v6 h7)) (rfl : ([] : List Nat) = [])) (And.intro (And.intro (con_sw 1000 2 (laws_toThingS_ok a0 v8 h9)) (rfl : ([] : List Nat) = [])) (And.intro (And.intro (con_sw 1000 3 (impl_AllInside_ok v8 a1 v10 h11)) (rfl : ([] : List Nat) = [])) (And.intro (laws_eqIntS_ok v10 v6 v12 h13) (And.intro h14 (And.intro (And.intro (con_sw 1000 4 (laws_toThingS_ok a0 v15 h16)) (rfl : ([] : List Nat) = [])) (And.intro (laws_eqThingS_ok v8 v15 v17 h18) (And.intro h19 (And.intro (And.intro (con_sw 900 2 (laws_markThingS_ok v8 1 v20 h21)) (rfl : ([2] : List Nat) = [2])) (And.intro h22 (And.intro (laws_eqIntS_ok v10 v6 v23 h24) (And.intro h25 (And.intro (And.intro (con_sw 900 3 (laws_markIntS_ok v10 1 v26 h27)) (rfl : ([3] : List Nat) = [3])) (And.intro (laws_heldIntS_ok v26.2 1 v28 h29) (And.intro h30 (And.intro h31 True.intro))))))))))))))))))) (by kernel_rfl)
              · obtain ⟨v32, h33, hM⟩ := bind_some hM
                obtain ⟨v34, h35, hM⟩ := bind_some hM
                obtain ⟨v36, h37, hM⟩ := bind_some hM
                rcases cond_cases hM with ⟨h38, hM⟩ | ⟨h38, hM⟩
                · have hE : some false = some r := hM
                  have hE := Option.some.inj hE
                  subst hE
                  exact pr R 9999 [.call false [] (.o (.c (.v (.int .i64 v1)))) [] [], .as 17 false, .call false [] (.o (.c (.sl 0))) [] [(0, .row 49 6 (v4.map Thing.enc))], .call false [] (.o (.c (.sl 1))) [] [(1, .row 3 1 (v6.map encI))], .call false [] (.o (.c (.sl 2))) [] [(2, .row 49 6 (v8.map Thing.enc))], .call false [] (.o (.c (.sl 3))) [] [(3, .row 3 1 (v10.map encI))], .call false [] (.o (.c (.v (.bool v12)))) [] [], .as 30 false, .call false [] (.o (.c (.sl 4))) [] [(4, .row 49 6 (v15.map Thing.enc))], .call false [] (.o (.c (.v (.bool v17)))) [] [], .as 35 false, .call false [2] (.o (.c (.v (.int .i64 v20.1)))) [(2, .row 49 6 (v20.2.map Thing.enc))] [], .as 41 false, .call false [] (.o (.c (.v (.bool v23)))) [] [], .as 46 false, .call false [3] (.o (.c (.v (.int .i64 v26.1)))) [(3, .row 3 1 (v26.2.map encI))] [], .call false [] (.o (.c (.v (.int .i64 v28)))) [] [], .as 54 false, .as 57 false, .call false [] (.o (.c (.sl 5))) [] [(5, .row 49 6 (v32.map Thing.enc))], .call false [] (.o (.c (.sl 6))) [] [(6, .row 3 1 (v34.map encI))], .call false [] (.o (.c (.v (.bool v36)))) [] [], .as 65 true] [] [] [] (And.intro (laws_szThingS_ok a0 1048576 v1 h2) (And.intro h3 (And.intro (And.intro (con_sw 1000 0 (laws_toThingS_ok a0 v4 h5)) (rfl : ([] : List Nat) = [])) (And.intro (And.intro (con_sw 1000 1 (spec_AllInside_ok v4 a1 v6 h7)) (rfl : ([] : List Nat) = [])) (And.intro (And.intro (con_sw 1000 2 (laws_toThingS_ok a0 v8 h9)) (rfl : ([] : List Nat) = [])) (And.intro (And.intro (con_sw 1000 3 (impl_AllInside_ok v8 a1 v10 h11)) (rfl : ([] : List Nat) = [])) (And.intro (laws_eqIntS_ok v10 v6 v12 h13) (And.intro h14 (And.intro (And.intro (con_sw 1000 4 (laws_toThingS_ok a0 v15 h16)) (rfl : ([] : List Nat) = [])) (And.intro (laws_eqThingS_ok v8 v15 v17 h18) (And.intro h19 (And.intro (And.intro (con_sw 900 2 (laws_markThingS_ok v8 1 v20 h21)) (rfl : ([2] : List Nat) = [2])) (And.intro h22 (And.intro (laws_eqIntS_ok v10 v6 v23 h24) (And.intro h25 (And.intro (And.intro (con_sw 900 3 (laws_markIntS_ok v10 1 v26 h27)) (rfl : ([3] : List Nat) = [3])) (And.intro (laws_heldIntS_ok v26.2 1 v28 h29) (And.intro h30 (And.intro h31 (And.intro (And.intro (con_sw 1000 5 (laws_toThingS_ok a0 v32 h33)) (rfl : ([] : List Nat) = [])) (And.intro (And.intro (con_sw 1000 6 (impl_AllInside_ok v32 a1 v34 h35)) (rfl : ([] : List Nat) = [])) (And.intro (laws_eqIntS_ok v34 v6 v36 h37) (And.intro h38 True.intro))))))))))))))))))))))) (by kernel_rfl)
                · obtain ⟨v39, h40, hM⟩ := bind_some hM
                  rcases cond_cases hM with ⟨h41, hM⟩ | ⟨h41, hM⟩
                  · have hE : some false = some r := hM
                    have hE := Option.some.inj hE
                    subst hE
                    exact pr R 9999 [.call false [] (.o (.c (.v (.int .i64 v1)))) [] [], .as 17 false, .call false [] (.o (.c (.sl 0))) [] [(0, .row 49 6 (v4.map Thing.enc))], .call false [] (.o (.c (.sl 1))) [] [(1, .row 3 1 (v6.map encI))], .call false [] (.o (.c (.sl 2))) [] [(2, .row 49 6 (v8.map Thing.enc))], .call false [] (.o (.c (.sl 3))) [] [(3, .row 3 1 (v10.map encI))], .call false [] (.o (.c (.v (.bool v12)))) [] [], .as 30 false, .call false [] (.o (.c (.sl 4))) [] [(4, .row 49 6 (v15.map Thing.enc))], .call false [] (.o (.c (.v (.bool v17)))) [] [], .as 35 false, .call false [2] (.o (.c (.v (.int .i64 v20.1)))) [(2, .row 49 6 (v20.2.map Thing.enc))] [], .as 41 false, .call false [] (.o (.c (.v (.bool v23)))) [] [], .as 46 false, .call false [3] (.o (.c (.v (.int .i64 v26.1)))) [(3, .row 3 1 (v26.2.map encI))] [], .call false [] (.o (.c (.v (.int .i64 v28)))) [] [], .as 54 false, .as 57 false, .call false [] (.o (.c (.sl 5))) [] [(5, .row 49 6 (v32.map Thing.enc))], .call false [] (.o (.c (.sl 6))) [] [(6, .row 3 1 (v34.map encI))], .call false [] (.o (.c (.v (.bool v36)))) [] [], .as 65 false, .call false [] (.o (.c (.v (.int .i64 v39)))) [] [], .as 70 true] [] [] [] (And.intro (laws_szThingS_ok a0 1048576 v1 h2) (And.intro h3 (And.intro (And.intro (con_sw 1000 0 (laws_toThingS_ok a0 v4 h5)) (rfl : ([] : List Nat) = [])) (And.intro (And.intro (con_sw 1000 1 (spec_AllInside_ok v4 a1 v6 h7)) (rfl : ([] : List Nat) = [])) (And.intro (And.intro (con_sw 1000 2 (laws_toThingS_ok a0 v8 h9)) (rfl : ([] : List Nat) = [])) (And.intro (And.intro (con_sw 1000 3 (impl_AllInside_ok v8 a1 v10 h11)) (rfl : ([] : List Nat) = [])) (And.intro (laws_eqIntS_ok v10 v6 v12 h13) (And.intro h14 (And.intro (And.intro (con_sw 1000 4 (laws_toThingS_ok a0 v15 h16)) (rfl : ([] : List Nat) = [])) (And.intro (laws_eqThingS_ok v8 v15 v17 h18) (And.intro h19 (And.intro (And.intro (con_sw 900 2 (laws_markThingS_ok v8 1 v20 h21)) (rfl : ([2] : List Nat) = [2])) (And.intro h22 (And.intro (laws_eqIntS_ok v10 v6 v23 h24) (And.intro h25 (And.intro (And.intro (con_sw 900 3 (laws_markIntS_ok v10 1 v26 h27)) (rfl : ([3] : List Nat) = [3])) (And.intro (laws_heldIntS_ok v26.2 1 v28 h29) (And.intro h30 (And.intro h31 (And.intro (And.intro (con_sw 1000 5 (laws_toThingS_ok a0 v32 h33)) (rfl : ([] : List Nat) = [])) (And.intro (And.intro (con_sw 1000 6 (impl_AllInside_ok v32 a1 v34 h35)) (rfl : ([] : List Nat) = [])) (And.intro (laws_eqIntS_ok v34 v6 v36 h37) (And.intro h38 (And.intro (laws_heldIntS_ok v26.2 1 v39 h40) (And.intro h41 True.intro))))))))))))))))))))))))) (by kernel_rfl)
                  · rcases cond_cases hM with ⟨h42, hM⟩ | ⟨h42, hM⟩
                    · have hE : some false = some r := hM
                      have hE := Option.some.inj hE
                      subst hE
                      exact pr R 9999 [.call false [] (.o (.c (.v (.int .i64 v1)))) [] [], .as 17 false, .call false [] (.o (.c (.sl 0))) [] [(0, .row 49 6 (v4.map Thing.enc))], .call false [] (.o (.c (.sl 1))) [] [(1, .row 3 1 (v6.map encI))], .call false [] (.o (.c (.sl 2))) [] [(2, .row 49 6 (v8.map Thing.enc))], .call false [] (.o (.c (.sl 3))) [] [(3, .row 3 1 (v10.map encI))], .call false [] (.o (.c (.v (.bool v12)))) [] [], .as 30 false, .call false [] (.o (.c (.sl 4))) [] [(4, .row 49 6 (v15.map Thing.enc))], .call false [] (.o (.c (.v (.bool v17)))) [] [], .as 35 false, .call false [2] (.o (.c (.v (.int .i64 v20.1)))) [(2, .row 49 6 (v20.2.map Thing.enc))] [], .as 41 false, .call false [] (.o (.c (.v (.bool v23)))) [] [], .as 46 false, .call false [3] (.o (.c (.v (.int .i64 v26.1)))) [(3, .row 3 1 (v26.2.map encI))] [], .call false [] (.o (.c (.v (.int .i64 v28)))) [] [], .as 54 false, .as 57 false, .call false [] (.o (.c (.sl 5))) [] [(5, .row 49 6 (v32.map Thing.enc))], .call false [] (.o (.c (.sl 6))) [] [(6, .row 3 1 (v34.map encI))], .call false [] (.o (.c (.v (.bool v36)))) [] [], .as 65 false, .call false [] (.o (.c (.v (.int .i64 v39)))) [] [], .as 70 false, .as 73 true] [] [] [] (And.intro (laws_szThingS_ok a0 1048576 v1 h2) (And.intro h3 (And.intro (And.intro (con_sw 1000 0 (laws_toThingS_ok a0 v4 h5)) (rfl : ([] : List Nat) = [])) (And.intro (And.intro (con_sw 1000 1 (spec_AllInside_ok v4 a1 v6 h7)) (rfl : ([] : List Nat) = [])) (And.intro (And.intro (con_sw 1000 2 (laws_toThingS_ok a0 v8 h9)) (rfl : ([] : List Nat) = [])) (And.intro (And.intro (con_sw 1000 3 (impl_AllInside_ok v8 a1 v10 h11)) (rfl : ([] : List Nat) = [])) (And.intro (laws_eqIntS_ok v10 v6 v12 h13) (And.intro h14 (And.intro (And.intro (con_sw 1000 4 (laws_toThingS_ok a0 v15 h16)) (rfl : ([] : List Nat) = [])) (And.intro (laws_eqThingS_ok v8 v15 v17 h18) (And.intro h19 (And.intro (And.intro (con_sw 900 2 (laws_markThingS_ok v8 1 v20 h21)) (rfl : ([2] : List Nat) = [2])) (And.intro h22 (And.intro (laws_eqIntS_ok v10 v6 v23 h24) (And.intro h25 (And.intro (And.intro (con_sw 900 3 (laws_markIntS_ok v10 1 v26 h27)) (rfl : ([3] : List Nat) = [3])) (And.intro (laws_heldIntS_ok v26.2 1 v28 h29) (And.intro h30 (And.intro h31 (And.intro (And.intro (con_sw 1000 5 (laws_toThingS_ok a0 v32 h33)) (rfl : ([] : List Nat) = [])) (And.intro (And.intro (con_sw 1000 6 (impl_AllInside_ok v32 a1 v34 h35)) (rfl : ([] : List Nat) = [])) (And.intro (laws_eqIntS_ok v34 v6 v36 h37) (And.intro h38 (And.intro (laws_heldIntS_ok v26.2 1 v39 h40) (And.intro h41 (And.intro h42 True.intro)))))))))))))))))))))))))) (by kernel_rfl)
                    · have hE : some true = some r := hM
                      have hE := Option.some.inj hE
                      subst hE
                      exact pr R 9999 [.call false [] (.o (.c (.v (.int .i64 v1)))) [] [], .as 17 false, .call false [] (.o (.c (.sl 0))) [] [(0, .row 49 6 (v4.map Thing.enc))], .call false [] (.o (.c (.sl 1))) [] [(1, .row 3 1 (v6.map encI))], .call false [] (.o (.c (.sl 2))) [] [(2, .row 49 6 (v8.map Thing.enc))], .call false [] (.o (.c (.sl 3))) [] [(3, .row 3 1 (v10.map encI))], .call false [] (.o (.c (.v (.bool v12)))) [] [], .as 30 false, .call false [] (.o (.c (.sl 4))) [] [(4, .row 49 6 (v15.map Thing.enc))], .call false [] (.o (.c (.v (.bool v17)))) [] [], .as 35 false, .call false [2] (.o (.c (.v (.int .i64 v20.1)))) [(2, .row 49 6 (v20.2.map Thing.enc))] [], .as 41 false, .call false [] (.o (.c (.v (.bool v23)))) [] [], .as 46 false, .call false [3] (.o (.c (.v (.int .i64 v26.1)))) [(3, .row 3 1 (v26.2.map encI))] [], .call false [] (.o (.c (.v (.int .i64 v28)))) [] [], .as 54 false, .as 57 false, .call false [] (.o (.c (.sl 5))) [] [(5, .row 49 6 (v32.map Thing.enc))], .call false [] (.o (.c (.sl 6))) [] [(6, .row 3 1 (v34.map encI))], .call false [] (.o (.c (.v (.bool v36)))) [] [], .as 65 false, .call false [] (.o (.c (.v (.int .i64 v39)))) [] [], .as 70 false, .as 73 false] [] [] [] (And.intro (laws_szThingS_ok a0 1048576 v1 h2) (And.intro h3 (And.intro (And.intro (con_sw 1000 0 (laws_toThingS_ok a0 v4 h5)) (rfl : ([] : List Nat) = [])) (And.intro (And.intro (con_sw 1000 1 (spec_AllInside_ok v4 a1 v6 h7)) (rfl : ([] : List Nat) = [])) (And.intro (And.intro (con_sw 1000 2 (laws_toThingS_ok a0 v8 h9)) (rfl : ([] : List Nat) = [])) (And.intro (And.intro (con_sw 1000 3 (impl_AllInside_ok v8 a1 v10 h11)) (rfl : ([] : List Nat) = [])) (And.intro (laws_eqIntS_ok v10 v6 v12 h13) (And.intro h14 (And.intro (And.intro (con_sw 1000 4 (laws_toThingS_ok a0 v15 h16)) (rfl : ([] : List Nat) = [])) (And.intro (laws_eqThingS_ok v8 v15 v17 h18) (And.intro h19 (And.intro (And.intro (con_sw 900 2 (laws_markThingS_ok v8 1 v20 h21)) (rfl : ([2] : List Nat) = [2])) (And.intro h22 (And.intro (laws_eqIntS_ok v10 v6 v23 h24) (And.intro h25 (And.intro (And.intro (con_sw 900 3 (laws_markIntS_ok v10 1 v26 h27)) (rfl : ([3] : List Nat) = [3])) (And.intro (laws_heldIntS_ok v26.2 1 v28 h29) (And.intro h30 (And.intro h31 (And.intro (And.intro (con_sw 1000 5 (laws_toThingS_ok a0 v32 h33)) (rfl : ([] : List Nat) = [])) (And.intro (And.intro (con_sw 1000 6 (impl_AllInside_ok v32 a1 v34 h35)) (rfl : ([] : List Nat) = [])) (And.intro (laws_eqIntS_ok v34 v6 v36 h37) (And.intro h38 (And.intro (laws_heldIntS_ok v26.2 1 v39 h40) (And.intro h41 (And.intro h42 True.intro)))))))))))))))))))))))))) (by kernel_rfl)

-- loop.example/g03014/spec.l5Copy
def spec_l5Copy (a0 : (List Thing)) : Option (List Thing) :=
  (ap 40 ([] : List Thing) a0).bind fun v1 =>
  some v1
theorem spec_l5Copy_ok (a0 : (List Thing)) (r : (List Thing)) (hM : spec_l5Copy a0 = some r) :
    Con Try.prog 78 [.c (.rs 6 (a0.map Thing.enc))] [] (.o (.c (.sl 1000))) [] [(1000, .row 49 6 (r.map Thing.enc))] := by
  unfold spec_l5Copy at hM
  refine cn (N := 6) (pids := []) Try_mixed Try.func78 (by kernel_rfl) (by kernel_rfl) (by kernel_rfl) rfl fun ρ g w R => ?_
  obtain ⟨v1, h2, hM⟩ := bind_some hM
  have hE : some v1 = some r := hM
  have hE := Option.some.inj hE
  subst hE
  exact pr R 9999 [.new 0, .new 1, .nm (v1.map Thing.enc)] [.sw 1 1000] [] [1000] (And.intro (ap_ok Thing.enc h2) True.intro) (by kernel_rfl)

-- loop.example/g03014/spec.SealBox
def spec_SealBox (a0 : (List Thing)) (a1 : Int) (a2 : Bool) : Option ((List Thing) × Int) :=
  (spec_l5Copy a0).bind fun v1 =>
  (spec_FindThing a0 a1).bind fun v3 =>
  (spec_AreThings a0).bind fun v5 =>
  bif (!v5) then
  some (v1, 1)
  else
  bif (decide (v3 < 0)) then
  some (v1, 1)
  else
  (gi a0 v3).bind fun v9 =>
  bif (!v9.Box) then
  some (v1, 1)
  else
  (spec_l5Locked a0 a1).bind fun v12 =>
  bif v12 then
  some (v1, 2)
  else
  (gi v1 v3).bind fun v15 =>
  some (List.set v1 (Int.toNat v3) (Thing.mk v15.Id v15.Own v15.Room v15.In v15.Box a2), 0)
theorem spec_SealBox_ok (a0 : (List Thing)) (a1 : Int) (a2 : Bool) (r : (List Thing) × Int) (hM : spec_SealBox a0 a1 a2 = some r) :
    Con Try.prog 45 [.c (.rs 6 (a0.map Thing.enc)), .c (.v (.int .i64 a1)), .c (.v (.bool a2))] [] (.tup [.c (.sl 1000), .c (.v (.int .i64 r.2))]) [] [(1000, .row 49 6 (r.1.map Thing.enc))] := by
  unfold spec_SealBox at hM
  refine cn (N := 43) (pids := []) Try_mixed Try.func45 (by kernel_rfl) (by kernel_rfl) (by kernel_rfl) rfl fun ρ g w R => ?_
  obtain ⟨v1, h2, hM⟩ := bind_some hM
  obtain ⟨v3, h4, hM⟩ := bind_some hM
  obtain ⟨v5, h6, hM⟩ := bind_some hM
  rcases cond_cases hM with ⟨h7, hM⟩ | ⟨h7, hM⟩
  · have hE : some (v1, 1) = some r := hM
    have hE := Option.some.inj hE
    subst hE
    exact pr R 9999 [.call false [] (.o (.c (.sl 0))) [] [(0, .row 49 6 (v1.map Thing.enc))], .call false [] (.o (.c (.v (.int .i64 v3)))) [] [], .call false [] (.o (.c (.v (.bool v5)))) [] [], .as 19 true] [.sw 0 1000] [] [1000] (And.intro (And.intro (con_sw 1000 0 (spec_l5Copy_ok a0 v1 h2)) (rfl : ([] : List Nat) = [])) (And.intro (spec_FindThing_ok a0 a1 v3 h4) (And.intro (spec_AreThings_ok a0 v5 h6) (And.intro h7 True.intro)))) (by kernel_rfl)
  · rcases cond_cases hM with ⟨h8, hM⟩ | ⟨h8, hM⟩
    · have hE : some (v1, 1) = some r := hM
      have hE := Option.some.inj hE
      subst hE
      exact pr R 9999 [.call false [] (.o (.c (.sl 0))) [] [(0, .row 49 6 (v1.map Thing.enc))], .call false [] (.o (.c (.v (.int .i64 v3)))) [] [], .call false [] (.o (.c (.v (.bool v5)))) [] [], .as 19 false, .as 23 true] [.sw 0 1000] [] [1000] (And.intro (And.intro (con_sw 1000 0 (spec_l5Copy_ok a0 v1 h2)) (rfl : ([] : List Nat) = [])) (And.intro (spec_FindThing_ok a0 a1 v3 h4) (And.intro (spec_AreThings_ok a0 v5 h6) (And.intro h7 (And.intro h8 True.intro))))) (by kernel_rfl)
    · obtain ⟨v9, h10, hM⟩ := bind_some hM
      rcases cond_cases hM with ⟨h11, hM⟩ | ⟨h11, hM⟩
      · have hE : some (v1, 1) = some r := hM
        have hE := Option.some.inj hE
        subst hE
        exact pr R 9999 [.call false [] (.o (.c (.sl 0))) [] [(0, .row 49 6 (v1.map Thing.enc))], .call false [] (.o (.c (.v (.int .i64 v3)))) [] [], .call false [] (.o (.c (.v (.bool v5)))) [] [], .as 19 false, .as 23 false, .ix (Thing.enc v9), .as 15 true] [.sw 0 1000] [] [1000] (And.intro (And.intro (con_sw 1000 0 (spec_l5Copy_ok a0 v1 h2)) (rfl : ([] : List Nat) = [])) (And.intro (spec_FindThing_ok a0 a1 v3 h4) (And.intro (spec_AreThings_ok a0 v5 h6) (And.intro h7 (And.intro h8 (And.intro (gi_map Thing.enc h10) (And.intro h11 True.intro))))))) (by kernel_rfl)
      · obtain ⟨v12, h13, hM⟩ := bind_some hM
        rcases cond_cases hM with ⟨h14, hM⟩ | ⟨h14, hM⟩
        · have hE : some (v1, 2) = some r := hM
          have hE := Option.some.inj hE
          subst hE
          exact pr R 9999 [.call false [] (.o (.c (.sl 0))) [] [(0, .row 49 6 (v1.map Thing.enc))], .call false [] (.o (.c (.v (.int .i64 v3)))) [] [], .call false [] (.o (.c (.v (.bool v5)))) [] [], .as 19 false, .as 23 false, .ix (Thing.enc v9), .as 15 false, .call false [] (.o (.c (.v (.bool v12)))) [] [], .as 32 true] [.sw 0 1000] [] [1000] (And.intro (And.intro (con_sw 1000 0 (spec_l5Copy_ok a0 v1 h2)) (rfl : ([] : List Nat) = [])) (And.intro (spec_FindThing_ok a0 a1 v3 h4) (And.intro (spec_AreThings_ok a0 v5 h6) (And.intro h7 (And.intro h8 (And.intro (gi_map Thing.enc h10) (And.intro h11 (And.intro (spec_l5Locked_ok a0 a1 v12 h13) (And.intro h14 True.intro))))))))) (by kernel_rfl)
        · obtain ⟨v15, h16, hM⟩ := bind_some hM
          have hE : some (List.set v1 (Int.toNat v3) (Thing.mk v15.Id v15.Own v15.Room v15.In v15.Box a2), 0) = some r := hM
          have hE := Option.some.inj hE
          subst hE
          exact pr R 9999 [.call false [] (.o (.c (.sl 0))) [] [(0, .row 49 6 (v1.map Thing.enc))], .call false [] (.o (.c (.v (.int .i64 v3)))) [] [], .call false [] (.o (.c (.v (.bool v5)))) [] [], .as 19 false, .as 23 false, .ix (Thing.enc v9), .as 15 false, .call false [] (.o (.c (.v (.bool v12)))) [] [], .as 32 false, .ix (Thing.enc v15), .nm ((List.set v1 (Int.toNat v3) (Thing.mk v15.Id v15.Own v15.Room v15.In v15.Box a2)).map Thing.enc)] [.sw 0 1000] [] [1000] (And.intro (And.intro (con_sw 1000 0 (spec_l5Copy_ok a0 v1 h2)) (rfl : ([] : List Nat) = [])) (And.intro (spec_FindThing_ok a0 a1 v3 h4) (And.intro (spec_AreThings_ok a0 v5 h6) (And.intro h7 (And.intro h8 (And.intro (gi_map Thing.enc h10) (And.intro h11 (And.intro (spec_l5Locked_ok a0 a1 v12 h13) (And.intro h14 (And.intro (gi_lt Thing.enc h16) (And.intro (And.intro (gi_map Thing.enc h16).2 (set_map Thing.enc v1 (Int.toNat v3) (Thing.mk v15.Id v15.Own v15.Room v15.In v15.Box a2))) True.intro))))))))))) (by kernel_rfl)

-- loop.example/g03014/impl.copyThings
def impl_copyThings (a0 : (List Thing)) : Option (List Thing) :=
  (ap 40 ([] : List Thing) a0).bind fun v1 =>
  some v1
theorem impl_copyThings_ok (a0 : (List Thing)) (r : (List Thing)) (hM : impl_copyThings a0 = some r) :
    Con Try.prog 79 [.c (.rs 6 (a0.map Thing.enc))] [] (.o (.c (.sl 1000))) [] [(1000, .row 49 6 (r.map Thing.enc))] := by
  unfold impl_copyThings at hM
  refine cn (N := 6) (pids := []) Try_mixed Try.func79 (by kernel_rfl) (by kernel_rfl) (by kernel_rfl) rfl fun ρ g w R => ?_
  obtain ⟨v1, h2, hM⟩ := bind_some hM
  have hE : some v1 = some r := hM
  have hE := Option.some.inj hE
  subst hE
  exact pr R 9999 [.new 0, .new 1, .nm (v1.map Thing.enc)] [.sw 1 1000] [] [1000] (And.intro (ap_ok Thing.enc h2) True.intro) (by kernel_rfl)

-- loop.example/g03014/impl.SealBox
def impl_SealBox (a0 : (List Thing)) (a1 : Int) (a2 : Bool) : Option ((List Thing) × Int) :=
  (impl_copyThings a0).bind fun v1 =>
  (impl_isThing a0 a1).bind fun v3 =>
  bif (!v3) then
  some (v1, 1)
  else
  (impl_isBox a0 a1).bind fun v6 =>
  bif (!v6) then
  some (v1, 1)
  else
  (impl_IsLocked a0 a1).bind fun v9 =>
  bif v9 then
  some (v1, 2)
  else
  (impl_FindThing a0 a1).bind fun v12 =>
  (gi v1 v12).bind fun v14 =>
  some (List.set v1 (Int.toNat v12) (Thing.mk v14.Id v14.Own v14.Room v14.In v14.Box a2), 0)
theorem impl_SealBox_ok (a0 : (List Thing)) (a1 : Int) (a2 : Bool) (r : (List Thing) × Int) (hM : impl_SealBox a0 a1 a2 = some r) :
    Con Try.prog 46 [.c (.rs 6 (a0.map Thing.enc)), .c (.v (.int .i64 a1)), .c (.v (.bool a2))] [] (.tup [.c (.sl 1000), .c (.v (.int .i64 r.2))]) [] [(1000, .row 49 6 (r.1.map Thing.enc))] := by
  unfold impl_SealBox at hM
  refine cn (N := 34) (pids := []) Try_mixed Try.func46 (by kernel_rfl) (by kernel_rfl) (by kernel_rfl) rfl fun ρ g w R => ?_
  obtain ⟨v1, h2, hM⟩ := bind_some hM
  obtain ⟨v3, h4, hM⟩ := bind_some hM
  rcases cond_cases hM with ⟨h5, hM⟩ | ⟨h5, hM⟩
  · have hE : some (v1, 1) = some r := hM
    have hE := Option.some.inj hE
    subst hE
    exact pr R 9999 [.call false [] (.o (.c (.sl 0))) [] [(0, .row 49 6 (v1.map Thing.enc))], .call false [] (.o (.c (.v (.bool v3)))) [] [], .as 15 true] [.sw 0 1000] [] [1000] (And.intro (And.intro (con_sw 1000 0 (impl_copyThings_ok a0 v1 h2)) (rfl : ([] : List Nat) = [])) (And.intro (impl_isThing_ok a0 a1 v3 h4) (And.intro h5 True.intro))) (by kernel_rfl)
  · obtain ⟨v6, h7, hM⟩ := bind_some hM
    rcases cond_cases hM with ⟨h8, hM⟩ | ⟨h8, hM⟩
    · have hE : some (v1, 1) = some r := hM
      have hE := Option.some.inj hE
      subst hE
      exact pr R 9999 [.call false [] (.o (.c (.sl 0))) [] [(0, .row 49 6 (v1.map Thing.enc))], .call false [] (.o (.c (.v (.bool v3)))) [] [], .as 15 false, .call false [] (.o (.c (.v (.bool v6)))) [] [], .as 20 true] [.sw 0 1000] [] [1000] (And.intro (And.intro (con_sw 1000 0 (impl_copyThings_ok a0 v1 h2)) (rfl : ([] : List Nat) = [])) (And.intro (impl_isThing_ok a0 a1 v3 h4) (And.intro h5 (And.intro (impl_isBox_ok a0 a1 v6 h7) (And.intro h8 True.intro))))) (by kernel_rfl)
    · obtain ⟨v9, h10, hM⟩ := bind_some hM
      rcases cond_cases hM with ⟨h11, hM⟩ | ⟨h11, hM⟩
      · have hE : some (v1, 2) = some r := hM
        have hE := Option.some.inj hE
        subst hE
        exact pr R 9999 [.call false [] (.o (.c (.sl 0))) [] [(0, .row 49 6 (v1.map Thing.enc))], .call false [] (.o (.c (.v (.bool v3)))) [] [], .as 15 false, .call false [] (.o (.c (.v (.bool v6)))) [] [], .as 20 false, .call false [] (.o (.c (.v (.bool v9)))) [] [], .as 24 true] [.sw 0 1000] [] [1000] (And.intro (And.intro (con_sw 1000 0 (impl_copyThings_ok a0 v1 h2)) (rfl : ([] : List Nat) = [])) (And.intro (impl_isThing_ok a0 a1 v3 h4) (And.intro h5 (And.intro (impl_isBox_ok a0 a1 v6 h7) (And.intro h8 (And.intro (impl_IsLocked_ok a0 a1 v9 h10) (And.intro h11 True.intro))))))) (by kernel_rfl)
      · obtain ⟨v12, h13, hM⟩ := bind_some hM
        obtain ⟨v14, h15, hM⟩ := bind_some hM
        have hE : some (List.set v1 (Int.toNat v12) (Thing.mk v14.Id v14.Own v14.Room v14.In v14.Box a2), 0) = some r := hM
        have hE := Option.some.inj hE
        subst hE
        exact pr R 9999 [.call false [] (.o (.c (.sl 0))) [] [(0, .row 49 6 (v1.map Thing.enc))], .call false [] (.o (.c (.v (.bool v3)))) [] [], .as 15 false, .call false [] (.o (.c (.v (.bool v6)))) [] [], .as 20 false, .call false [] (.o (.c (.v (.bool v9)))) [] [], .as 24 false, .call false [] (.o (.c (.v (.int .i64 v12)))) [] [], .ix (Thing.enc v14), .nm ((List.set v1 (Int.toNat v12) (Thing.mk v14.Id v14.Own v14.Room v14.In v14.Box a2)).map Thing.enc)] [.sw 0 1000] [] [1000] (And.intro (And.intro (con_sw 1000 0 (impl_copyThings_ok a0 v1 h2)) (rfl : ([] : List Nat) = [])) (And.intro (impl_isThing_ok a0 a1 v3 h4) (And.intro h5 (And.intro (impl_isBox_ok a0 a1 v6 h7) (And.intro h8 (And.intro (impl_IsLocked_ok a0 a1 v9 h10) (And.intro h11 (And.intro (impl_FindThing_ok a0 a1 v12 h13) (And.intro (gi_lt Thing.enc h15) (And.intro (And.intro (gi_map Thing.enc h15).2 (set_map Thing.enc v1 (Int.toNat v12) (Thing.mk v14.Id v14.Own v14.Room v14.In v14.Box a2))) True.intro)))))))))) (by kernel_rfl)

-- loop.example/g03014/laws.heldThingS
def laws_heldThingS_L1_b (a0 : (List Thing)) (s1 : Int) (s2 : Int) : Option (Ctl (Int × Int) Int Int) :=
  bif (decide (s2 < (a0.length : Int))) then
  (gi a0 s2).bind fun v5 =>
  bif (v5.Id != s1) then
  some (.ret (-1))
  else
  (gi a0 s2).bind fun v8 =>
  bif (v8.Own != (w64 (s1 + 1))) then
  some (.ret (-1))
  else
  (gi a0 s2).bind fun v11 =>
  bif (v11.Room != (w64 ((w64 (s1 + 1)) + 1))) then
  some (.ret (-1))
  else
  (gi a0 s2).bind fun v14 =>
  bif (v14.In != (w64 ((w64 ((w64 (s1 + 1)) + 1)) + 1))) then
  some (.ret (-1))
  else
  (gi a0 s2).bind fun v17 =>
  bif (!(v17.Box == ((Int.tmod (w64 ((w64 ((w64 ((w64 (s1 + 1)) + 1)) + 1)) + 1)) 3) == 0))) then
  some (.ret (-1))
  else
  (gi a0 s2).bind fun v20 =>
  bif (!(v20.Sealed == ((Int.tmod (w64 ((w64 ((w64 ((w64 ((w64 (s1 + 1)) + 1)) + 1)) + 1)) + 1)) 3) == 0))) then
  some (.ret (-1))
  else
  some (.next (w64 ((w64 ((w64 ((w64 ((w64 ((w64 (s1 + 1)) + 1)) + 1)) + 1)) + 1)) + 1), w64 (s2 + 1)))
  else
  some (.brk s1)
def laws_heldThingS_L1 (a0 : (List Thing)) (s : Int × Int) : Option (Ctl (Int × Int) Int Int) := laws_heldThingS_L1_b a0 s.1 s.2
def laws_heldThingS_L1_s (a0 : (List Thing)) (s1 : Int) (s2 : Int) : St := ⟨[(0, .o (.c (.rs 6 (a0.map Thing.enc)))), (1, .o (.c (.v (.int .i64 s1)))), (5, .o (.c (.v (.int .i64 s2))))], []⟩
def laws_heldThingS_L1_S (a0 : (List Thing)) (s : Int × Int) : St := laws_heldThingS_L1_s a0 s.1 s.2
def laws_heldThingS_L1_a (s3 : Int) : Option Int :=
  some s3
def laws_heldThingS_L1_k (x : (Int) ⊕ (Int)) : Option Int := match x with
  | .inl t => laws_heldThingS_L1_a t
  | .inr y => some y
def laws_heldThingS (a0 : (List Thing)) (a1 : Int) : Option Int :=
  (loopM (laws_heldThingS_L1 a0) big (a1, 0)).bind (laws_heldThingS_L1_k)
theorem laws_heldThingS_ok (a0 : (List Thing)) (a1 : Int) (r : Int) (hM : laws_heldThingS a0 a1 = some r) :
    Con Try.prog 47 [.c (.rs 6 (a0.map Thing.enc)), .c (.v (.int .i64 a1))] [] (.o (.c (.v (.int .i64 r)))) [] [] := by
  unfold laws_heldThingS at hM
  refine cn (N := 71) (pids := []) Try_mixed Try.func47 (by kernel_rfl) (by kernel_rfl) (by kernel_rfl) rfl fun ρ g w R => ?_
  have K1 : ∀ (s3 : Int), laws_heldThingS_L1_a s3 = some r → Gr R [.code (cAt Try.f47 [1, 1])] (⟨[(1, .o (.c (.v (.int .i64 s3))))], []⟩) := by
    intro s3 hM
    unfold laws_heldThingS_L1_a at hM
    have hE : some s3 = some r := hM
    have hE := Option.some.inj hE
    subst hE
    exact pr R 9999 [] [] [] [] True.intro (by kernel_rfl)
  refine pc R 9999 [] [.keep [0, 1, 5] []] (k' := [.code (.loop (cAt Try.f47 [1, 0, 1, 0, 0])), .blk 0, .code (cAt Try.f47 [1, 1])]) (S' := laws_heldThingS_L1_S a0 (a1, 0)) True.intro (by kernel_rfl) ?_
  refine lq (laws_heldThingS_L1_S a0) (body := laws_heldThingS_L1 a0) (k := laws_heldThingS_L1_k) hM fun m1 s c1 hM hK1 => ?_
  obtain ⟨s1, s2⟩ := s
  have hM : laws_heldThingS_L1_b a0 s1 s2 = some c1 := hM
  unfold laws_heldThingS_L1_b at hM
  rcases cond_cases hM with ⟨h4, hM⟩ | ⟨h4, hM⟩
  · obtain ⟨v5, h6, hM⟩ := bind_some hM
    rcases cond_cases hM with ⟨h7, hM⟩ | ⟨h7, hM⟩
    · have hE : some (Ctl.ret (-1)) = some c1 := hM
      have hE := Option.some.inj hE
      subst hE
      have hE : some (-1) = some r := hK1
      have hE := Option.some.inj hE
      subst hE
      exact pr R 9999 [.ln (a0.length), .as 9 true, .ix (Thing.enc v5), .as 18 true] [] [] [] (And.intro (lenm Thing.enc a0) (And.intro h4 (And.intro (gi_map Thing.enc h6) (And.intro h7 True.intro)))) (by kernel_rfl)
    · obtain ⟨v8, h9, hM⟩ := bind_some hM
      rcases cond_cases hM with ⟨h10, hM⟩ | ⟨h10, hM⟩
      · have hE : some (Ctl.ret (-1)) = some c1 := hM
        have hE := Option.some.inj hE
        subst hE
        have hE : some (-1) = some r := hK1
        have hE := Option.some.inj hE
        subst hE
        exact pr R 9999 [.ln (a0.length), .as 9 true, .ix (Thing.enc v5), .as 18 false, .ix (Thing.enc v8), .as 27 true] [] [] [] (And.intro (lenm Thing.enc a0) (And.intro h4 (And.intro (gi_map Thing.enc h6) (And.intro h7 (And.intro (gi_map Thing.enc h9) (And.intro h10 True.intro)))))) (by kernel_rfl)
      · obtain ⟨v11, h12, hM⟩ := bind_some hM
        rcases cond_cases hM with ⟨h13, hM⟩ | ⟨h13, hM⟩
        · have hE : some (Ctl.ret (-1)) = some c1 := hM
          have hE := Option.some.inj hE
          subst hE
          have hE : some (-1) = some r := hK1
          have hE := Option.some.inj hE
          subst hE
          exact pr R 9999 [.ln (a0.length), .as 9 true, .ix (Thing.enc v5), .as 18 false, .ix (Thing.enc v8), .as 27 false, .ix (Thing.enc v11), .as 36 true] [] [] [] (And.intro (lenm Thing.enc a0) (And.intro h4 (And.intro (gi_map Thing.enc h6) (And.intro h7 (And.intro (gi_map Thing.enc h9) (And.intro h10 (And.intro (gi_map Thing.enc h12) (And.intro h13 True.intro)))))))) (by kernel_rfl)
        · obtain ⟨v14, h15, hM⟩ := bind_some hM
          rcases cond_cases hM with ⟨h16, hM⟩ | ⟨h16, hM⟩
          · have hE : some (Ctl.ret (-1)) = some c1 := hM
            have hE := Option.some.inj hE
            subst hE
            have hE : some (-1) = some r := hK1
            have hE := Option.some.inj hE
            subst hE
            exact pr R 9999 [.ln (a0.length), .as 9 true, .ix (Thing.enc v5), .as 18 false, .ix (Thing.enc v8), .as 27 false, .ix (Thing.enc v11), .as 36 false, .ix (Thing.enc v14), .as 45 true] [] [] [] (And.intro (lenm Thing.enc a0) (And.intro h4 (And.intro (gi_map Thing.enc h6) (And.intro h7 (And.intro (gi_map Thing.enc h9) (And.intro h10 (And.intro (gi_map Thing.enc h12) (And.intro h13 (And.intro (gi_map Thing.enc h15) (And.intro h16 True.intro)))))))))) (by kernel_rfl)
          · obtain ⟨v17, h18, hM⟩ := bind_some hM
            rcases cond_cases hM with ⟨h19, hM⟩ | ⟨h19, hM⟩
            · have hE : some (Ctl.ret (-1)) = some c1 := hM
              have hE := Option.some.inj hE
              subst hE
              have hE : some (-1) = some r := hK1
              have hE := Option.some.inj hE
              subst hE
              exact pr R 9999 [.ln (a0.length), .as 9 true, .ix (Thing.enc v5), .as 18 false, .ix (Thing.enc v8), .as 27 false, .ix (Thing.enc v11), .as 36 false, .ix (Thing.enc v14), .as 45 false, .ix (Thing.enc v17), .as 56 true] [] [] [] (And.intro (lenm Thing.enc a0) (And.intro h4 (And.intro (gi_map Thing.enc h6) (And.intro h7 (And.intro (gi_map Thing.enc h9) (And.intro h10 (And.intro (gi_map Thing.enc h12) (And.intro h13 (And.intro (gi_map Thing.enc h15) (And.intro h16 (And.intro (gi_map Thing.enc h18) (And.intro h19 True.intro)))))))))))) (by kernel_rfl)
            · obtain ⟨v20, h21, hM⟩ := bind_some hM
              rcases cond_cases hM with ⟨h22, hM⟩ | ⟨h22, hM⟩
              · have hE : some (Ctl.ret (-1)) = some c1 := hM
                have hE := Option.some.inj hE
                subst hE
                have hE : some (-1) = some r := hK1
                have hE := Option.some.inj hE
                subst hE
                exact pr R 9999 [.ln (a0.length), .as 9 true, .ix (Thing.enc v5), .as 18 false, .ix (Thing.enc v8), .as 27 false, .ix (Thing.enc v11), .as 36 false, .ix (Thing.enc v14), .as 45 false, .ix (Thing.enc v17), .as 56 false, .ix (Thing.enc v20), .as 67 true] [] [] [] (And.intro (lenm Thing.enc a0) (And.intro h4 (And.intro (gi_map Thing.enc h6) (And.intro h7 (And.intro (gi_map Thing.enc h9) (And.intro h10 (And.intro (gi_map Thing.enc h12) (And.intro h13 (And.intro (gi_map Thing.enc h15) (And.intro h16 (And.intro (gi_map Thing.enc h18) (And.intro h19 (And.intro (gi_map Thing.enc h21) (And.intro h22 True.intro)))))))))))))) (by kernel_rfl)
              · have hE : some (Ctl.next (w64 ((w64 ((w64 ((w64 ((w64 ((w64 (s1 + 1)) + 1)) + 1)) + 1)) + 1)) + 1), w64 (s2 + 1))) = some c1 := hM
                have hE := Option.some.inj hE
                subst hE
                exact pc R 9999 [.ln (a0.length), .as 9 true, .ix (Thing.enc v5), .as 18 false, .ix (Thing.enc v8), .as 27 false, .ix (Thing.enc v11), .as 36 false, .ix (Thing.enc v14), .as 45 false, .ix (Thing.enc v17), .as 56 false, .ix (Thing.enc v20), .as 67 false] [.keep [0, 1, 5] []] (And.intro (lenm Thing.enc a0) (And.intro h4 (And.intro (gi_map Thing.enc h6) (And.intro h7 (And.intro (gi_map Thing.enc h9) (And.intro h10 (And.intro (gi_map Thing.enc h12) (And.intro h13 (And.intro (gi_map Thing.enc h15) (And.intro h16 (And.intro (gi_map Thing.enc h18) (And.intro h19 (And.intro (gi_map Thing.enc h21) (And.intro h22 True.intro)))))))))))))) (by kernel_rfl) (li (Sf := laws_heldThingS_L1_S a0) (M := Mk (laws_heldThingS_L1 a0) (laws_heldThingS_L1_k) r) (k := [.blk 0, .code (cAt Try.f47 [1, 1])]) (Nat.lt_succ_self m1) hK1)
  · have hE : some (Ctl.brk s1) = some c1 := hM
    have hE := Option.some.inj hE
    subst hE
    exact pc R 5 [.ln (a0.length), .as 9 false] [.keep [1] []] (And.intro (lenm Thing.enc a0) (And.intro h4 True.intro)) (by kernel_rfl) (K1 s1 hK1)

-- loop.example/g03014/laws.FnExactSealBox
def laws_FnExactSealBox (a0 : (List Thing)) (a1 : Int) (a2 : Bool) : Option Bool :=
  (laws_szThingS a0 1048576).bind fun v1 =>
  bif (decide (v1 < 0)) then
  some true
  else
  (laws_toThingS a0).bind fun v4 =>
  (spec_SealBox v4 a1 a2).bind fun v6 =>
  (laws_toThingS a0).bind fun v8 =>
  (impl_SealBox v8 a1 a2).bind fun v10 =>
  (laws_eqThingS v10.1 v6.1).bind fun v12 =>
  bif (!v12) then
  some false
  else
  bif (v10.2 != v6.2) then
  some false
  else
  (laws_toThingS a0).bind fun v16 =>
  (laws_eqThingS v8 v16).bind fun v18 =>
  bif (!v18) then
  some false
  else
  (laws_markThingS v8 1).bind fun v21 =>
  bif (decide (v21.1 < 0)) then
  some false
  else
  (laws_eqThingS v10.1 v6.1).bind fun v24 =>
  bif (!v24) then
  some false
  else
  bif (v10.2 != v6.2) then
  some false
  else
  (laws_markThingS v10.1 1).bind fun v28 =>
  (laws_heldThingS v28.2 1).bind fun v30 =>
  bif (decide (v30 < 0)) then
  some false
  else
  bif (v30 != v28.1) then
  some false
  else
  (laws_toThingS a0).bind fun v34 =>
  (impl_SealBox v34 a1 a2).bind fun v36 =>
  (laws_eqThingS v36.1 v6.1).bind fun v38 =>
  bif (!v38) then
  some false
  else
  bif (v36.2 != v6.2) then
  some false
  else
  (laws_heldThingS v28.2 1).bind fun v42 =>
  bif (decide (v42 < 0)) then
  some false
  else
  bif (v42 != v28.1) then
  some false
  else
  some true
theorem laws_FnExactSealBox_ok (a0 : (List Thing)) (a1 : Int) (a2 : Bool) (r : Bool) (hM : laws_FnExactSealBox a0 a1 a2 = some r) :
    Con Try.prog 11 [.c (.rs 6 (a0.map Thing.enc)), .c (.v (.int .i64 a1)), .c (.v (.bool a2))] [] (.o (.c (.v (.bool r)))) [] [] := by
  unfold laws_FnExactSealBox at hM
  refine cn (N := 106) (pids := []) Try_mixed Try.func11 (by kernel_rfl) (by kernel_rfl) (by kernel_rfl) rfl fun ρ g w R => ?_
  obtain ⟨v1, h2, hM⟩ := bind_some hM
  rcases cond_cases hM with ⟨h3, hM⟩ | ⟨h3, hM⟩
  · have hE : some true = some r := hM
    have hE := Option.some.inj hE
    subst hE
    exact pr R 9999 [.call false [] (.o (.c (.v (.int .i64 v1)))) [] [], .as 22 true] [] [] [] (And.intro (laws_szThingS_ok a0 1048576 v1 h2) (And.intro h3 True.intro)) (by kernel_rfl)
  · obtain ⟨v4, h5, hM⟩ := bind_some hM
    obtain ⟨v6, h7, hM⟩ := bind_some hM
    obtain ⟨v8, h9, hM⟩ := bind_some hM
    obtain ⟨v10, h11, hM⟩ := bind_some hM
    obtain ⟨v12, h13, hM⟩ := bind_some hM
    rcases cond_cases hM with ⟨h14, hM⟩ | ⟨h14, hM⟩
    · have hE : some false = some r := hM
      have hE := Option.some.inj hE
      subst hE
      exact pr R 9999 [.call false [] (.o (.c (.v (.int .i64 v1)))) [] [], .as 22 false, .call false [] (.o (.c (.sl 0))) [] [(0, .row 49 6 (v4.map Thing.enc))], .call false [] (.tup [.c (.sl 1), .c (.v (.int .i64 v6.2))]) [] [(1, .row 49 6 (v6.1.map Thing.enc))], .call false [] (.o (.c (.sl 2))) [] [(2, .row 49 6 (v8.map Thing.enc))], .call false [] (.tup [.c (.sl 3), .c (.v (.int .i64 v10.2))]) [] [(3, .row 49 6 (v10.1.map Thing.enc))], .call false [] (.o (.c (.v (.bool v12)))) [] [], .as 44 true] [] [] [] (And.intro (laws_szThingS_ok a0 1048576 v1 h2) (And.intro h3 (And.intro (And.intro (con_sw 1000 0 (laws_toThingS_ok a0 v4 h5)) (rfl : ([] : List Nat) = [])) (And.intro (And.intro (con_sw 1000 1 (spec_SealBox_ok v4 a1 a2 v6 h7)) (rfl : ([] : List Nat) = [])) (And.intro (And.intro (con_sw 1000 2 (laws_toThingS_ok a0 v8 h9)) (rfl : ([] : List Nat) = [])) (And.intro (And.intro (con_sw 1000 3 (impl_SealBox_ok v8 a1 a2 v10 h11)) (rfl : ([] : List Nat) = [])) (And.intro (laws_eqThingS_ok v10.1 v6.1 v12 h13) (And.intro h14 True.intro)))))))) (by kernel_rfl)
    · rcases cond_cases hM with ⟨h15, hM⟩ | ⟨h15, hM⟩
      · have hE : some false = some r := hM
        have hE := Option.some.inj hE
        subst hE
        exact pr R 9999 [.call false [] (.o (.c (.v (.int .i64 v1)))) [] [], .as 22 false, .call false [] (.o (.c (.sl 0))) [] [(0, .row 49 6 (v4.map Thing.enc))], .call false [] (.tup [.c (.sl 1), .c (.v (.int .i64 v6.2))]) [] [(1, .row 49 6 (v6.1.map Thing.enc))], .call false [] (.o (.c (.sl 2))) [] [(2, .row 49 6 (v8.map Thing.enc))], .call false [] (.tup [.c (.sl 3), .c (.v (.int .i64 v10.2))]) [] [(3, .row 49 6 (v10.1.map Thing.enc))], .call false [] (.o (.c (.v (.bool v12)))) [] [], .as 44 false, .as 48 true] [] [] [] (And.intro (laws_szThingS_ok a0 1048576 v1 h2) (And.intro h3 (And.intro (And.intro (con_sw 1000 0 (laws_toThingS_ok a0 v4 h5)) (rfl : ([] : List Nat) = [])) (And.intro (And.intro (con_sw 1000 1 (spec_SealBox_ok v4 a1 a2 v6 h7)) (rfl : ([] : List Nat) = [])) (And.intro (And.intro (con_sw 1000 2 (laws_toThingS_ok a0 v8 h9)) (rfl : ([] : List Nat) = [])) (And.intro (And.intro (con_sw 1000 3 (impl_SealBox_ok v8 a1 a2 v10 h11)) (rfl : ([] : List Nat) = [])) (And.intro (laws_eqThingS_ok v10.1 v6.1 v12 h13) (And.intro h14 (And.intro h15 True.intro))))))))) (by kernel_rfl)
      · obtain ⟨v16, h17, hM⟩ := bind_some hM
        obtain ⟨v18, h19, hM⟩ := bind_some hM
        rcases cond_cases hM with ⟨h20, hM⟩ | ⟨h20, hM⟩
        · have hE : some false = some r := hM
          have hE := Option.some.inj hE
          subst hE
          exact pr R 9999 [.call false [] (.o (.c (.v (.int .i64 v1)))) [] [], .as 22 false, .call false [] (.o (.c (.sl 0))) [] [(0, .row 49 6 (v4.map Thing.enc))], .call false [] (.tup [.c (.sl 1), .c (.v (.int .i64 v6.2))]) [] [(1, .row 49 6 (v6.1.map Thing.enc))], .call false [] (.o (.c (.sl 2))) [] [(2, .row 49 6 (v8.map Thing.enc))], .call false [] (.tup [.c (.sl 3), .c (.v (.int .i64 v10.2))]) [] [(3, .row 49 6 (v10.1.map Thing.enc))], .call false [] (.o (.c (.v (.bool v12)))) [] [], .as 44 false, .as 48 false, .call false [] (.o (.c (.sl 4))) [] [(4, .row 49 6 (v16.map Thing.enc))], .call false [] (.o (.c (.v (.bool v18)))) [] [], .as 53 true] [] [] [] (And.intro (laws_szThingS_ok a0 1048576 v1 h2) (And.intro h3 (And.intro (And.intro (con_sw 1000 0 (laws_toThingS_ok a0 v4 h5)) (rfl : ([] : List Nat) = [])) (And.intro (And.intro (con_sw 1000 1 (spec_SealBox_ok v4 a1 a2 v6 h7)) (rfl : ([] : List Nat) = [])) (And.intro (And.intro (con_sw 1000 2 (laws_toThingS_ok a0 v8 h9)) (rfl : ([] : List Nat) = [])) (And.intro (And.intro (con_sw 1000 3 (impl_SealBox_ok v8 a1 a2 v10 h11)) (rfl : ([] : List Nat) = [])) (And.intro (laws_eqThingS_ok v10.1 v6.1 v12 h13) (And.intro h14 (And.intro h15 (And.intro (And.intro (con_sw 1000 4 (laws_toThingS_ok a0 v16 h17)) (rfl : ([] : List Nat) = [])) (And.intro (laws_eqThingS_ok v8 v16 v18 h19) (And.intro h20 True.intro)))))))))))) (by kernel_rfl)
        · obtain ⟨v21, h22, hM⟩ := bind_some hM
          rcases cond_cases hM with ⟨h23, hM⟩ | ⟨h23, hM⟩
          · have hE : some false = some r := hM
            have hE := Option.some.inj hE
            subst hE
            exact pr R 9999 [.call false [] (.o (.c (.v (.int .i64 v1)))) [] [], .as 22 false, .call false [] (.o (.c (.sl 0))) [] [(0, .row 49 6 (v4.map Thing.enc))], .call false [] (.tup [.c (.sl 1), .c (.v (.int .i64 v6.2))]) [] [(1, .row 49 6 (v6.1.map Thing.enc))], .call false [] (.o (.c (.sl 2))) [] [(2, .row 49 6 (v8.map Thing.enc))], .call false [] (.tup [.c (.sl 3), .c (.v (.int .i64 v10.2))]) [] [(3, .row 49 6 (v10.1.map Thing.enc))], .call false [] (.o (.c (.v (.bool v12)))) [] [], .as 44 false, .as 48 false, .call false [] (.o (.c (.sl 4))) [] [(4, .row 49 6 (v16.map Thing.enc))], .call false [] (.o (.c (.v (.bool v18)))) [] [], .as 53 false, .call false [2] (.o (.c (.v (.int .i64 v21.1)))) [(2, .row 49 6 (v21.2.map Thing.enc))] [], .as 59 true] [] [] [] (And.intro (laws_szThingS_ok a0 1048576 v1 h2) (And.intro h3 (And.intro (And.intro (con_sw 1000 0 (laws_toThingS_ok a0 v4 h5)) (rfl : ([] : List Nat) = [])) (And.intro (And.intro (con_sw 1000 1 (spec_SealBox_ok v4 a1 a2 v6 h7)) (rfl : ([] : List Nat) = [])) (And.intro (And.intro (con_sw 1000 2 (laws_toThingS_ok a0 v8 h9)) (rfl : ([] : List Nat) = [])) (And.intro (And.intro (con_sw 1000 3 (impl_SealBox_ok v8 a1 a2 v10 h11)) (rfl : ([] : List Nat) = [])) (And.intro (laws_eqThingS_ok v10.1 v6.1 v12 h13) (And.intro h14 (And.intro h15 (And.intro (And.intro (con_sw 1000 4 (laws_toThingS_ok a0 v16 h17)) (rfl : ([] : List Nat) = [])) (And.intro (laws_eqThingS_ok v8 v16 v18 h19) (And.intro h20 (And.intro (And.intro (con_sw 900 2 (laws_markThingS_ok v8 1 v21 h22)) (rfl : ([2] : List Nat) = [2])) (And.intro h23 True.intro)))))))))))))) (by kernel_rfl)
          · obtain ⟨v24, h25, hM⟩ := bind_some hM
            rcases cond_cases hM with ⟨h26, hM⟩ | ⟨h26, hM⟩
            · have hE : some false = some r := hM
              have hE := Option.some.inj hE
              subst hE
              exact pr R 9999 [.call false [] (.o (.c (.v (.int .i64 v1)))) [] [], .as 22 false, .call false [] (.o (.c (.sl 0))) [] [(0, .row 49 6 (v4.map Thing.enc))], .call false [] (.tup [.c (.sl 1), .c (.v (.int .i64 v6.2))]) [] [(1, .row 49 6 (v6.1.map Thing.enc))], .call false [] (.o (.c (.sl 2))) [] [(2, .row 49 6 (v8.map Thing.enc))], .call false [] (.tup [.c (.sl 3), .c (.v (.int .i64 v10.2))]) [] [(3, .row 49 6 (v10.1.map Thing.enc))], .call false [] (.o (.c (.v (.bool v12)))) [] [], .as 44 false, .as 48 false, .call false [] (.o (.c (.sl 4))) [] [(4, .row 49 6 (v16.map Thing.enc))], .call false [] (.o (.c (.v (.bool v18)))) [] [], .as 53 false, .call false [2] (.o (.c (.v (.int .i64 v21.1)))) [(2, .row 49 6 (v21.2.map Thing.enc))] [], .as 59 false, .call false [] (.o (.c (.v (.bool v24)))) [] [], .as 65 true] [] [] [] (And.intro (laws_szThingS_ok a0 1048576 v1 h2) (And.intro h3 (And.intro (And.intro (con_sw 1000 0 (laws_toThingS_ok a0 v4 h5)) (rfl : ([] : List Nat) = [])) (And.intro (And.intro (con_sw 1000 1 (spec_SealBox_ok v4 a1 a2 v6 h7)) (rfl : ([] : List Nat) = [])) (And.intro (And.intro (con_sw 1000 2 (laws_toThingS_ok a0 v8 h9)) (rfl : ([] : List Nat) = [])) (And.intro (And.intro (con_sw 1000 3 (impl_SealBox_ok v8 a1 a2 v10 h11)) (rfl : ([] : List Nat) = [])) (And.intro (laws_eqThingS_ok v10.1 v6.1 v12 h13) (And.intro h14 (And.intro h15 (And.intro (And.intro (con_sw 1000 4 (laws_toThingS_ok a0 v16 h17)) (rfl : ([] : List Nat) = [])) (And.intro (laws_eqThingS_ok v8 v16 v18 h19) (And.intro h20 (And.intro (And.intro (con_sw 900 2 (laws_markThingS_ok v8 1 v21 h22)) (rfl : ([2] : List Nat) = [2])) (And.intro h23 (And.intro (laws_eqThingS_ok v10.1 v6.1 v24 h25) (And.intro h26 True.intro)))))))))))))))) (by kernel_rfl)
            · rcases cond_cases hM with ⟨h27, hM⟩ | ⟨h27, hM⟩
              · have hE : some false = some r := hM
                have hE := Option.some.inj hE
                subst hE
                exact pr R 9999 [.call false [] (.o (.c (.v (.int .i64 v1)))) [] [], .as 22 false, .call false [] (.o (.c (.sl 0))) [] [(0, .row 49 6 (v4.map Thing.enc))], .call false [] (.tup [.c (.sl 1), .c (.v (.int .i64 v6.2))]) [] [(1, .row 49 6 (v6.1.map Thing.enc))], .call false [] (.o (.c (.sl 2))) [] [(2, .row 49 6 (v8.map Thing.enc))], .call false [] (.tup [.c (.sl 3), .c (.v (.int .i64 v10.2))]) [] [(3, .row 49 6 (v10.1.map Thing.enc))], .call false [] (.o (.c (.v (.bool v12)))) [] [], .as 44 false, .as 48 false, .call false [] (.o (.c (.sl 4))) [] [(4, .row 49 6 (v16.map Thing.enc))], .call false [] (.o (.c (.v (.bool v18)))) [] [], .as 53 false, .call false [2] (.o (.c (.v (.int .i64 v21.1)))) [(2, .row 49 6 (v21.2.map Thing.enc))] [], .as 59 false, .call false [] (.o (.c (.v (.bool v24)))) [] [], .as 65 false, .as 69 true] [] [] [] (And.intro (laws_szThingS_ok a0 1048576 v1 h2) (And.intro h3 (And.intro (And.intro (con_sw 1000 0 (laws_toThingS_ok a0 v4 h5)) (rfl : ([] : List Nat) = [])) (And.intro (And.intro (con_sw 1000 1 (spec_SealBox_ok v4 a1 a2 v6 h7)) (rfl : ([] : List Nat) = [])) (And.intro (And.intro (con_sw 1000 2 (laws_toThingS_ok a0 v8 h9)) (rfl : ([] : List Nat) = [])) (And.intro (And.intro (con_sw 1000 3 (impl_SealBox_ok v8 a1 a2 v10 h11)) (rfl : ([] : List Nat) = [])) (And.intro (laws_eqThingS_ok v10.1 v6.1 v12 h13) (And.intro h14 (And.intro h15 (And.intro (And.intro (con_sw 1000 4 (laws_toThingS_ok a0 v16 h17)) (rfl : ([] : List Nat) = [])) (And.intro (laws_eqThingS_ok v8 v16 v18 h19) (And.intro h20 (And.intro (And.intro (con_sw 900 2 (laws_markThingS_ok v8 1 v21 h22)) (rfl : ([2] : List Nat) = [2])) (And.intro h23 (And.intro (laws_eqThingS_ok v10.1 v6.1 v24 h25) (And.intro h26 (And.intro h27 True.intro))))))))))))))))) (by kernel_rfl)
              · obtain ⟨v28, h29, hM⟩ := bind_some hM
                obtain ⟨v30, h31, hM⟩ := bind_some hM
                rcases cond_cases hM with ⟨h32, hM⟩ | ⟨h32, hM⟩
                · have hE : some false = some r := hM
                  have hE := Option.some.inj hE
                  subst hE
                  exact pr R 9999 [.call false [] (.o (.c (.v (.int .i64 v1)))) [] [], .as 22 false, .call false [] (.o (.c (.sl 0))) [] [(0, .row 49 6 (v4.map Thing.enc))], .call false [] (.tup [.c (.sl 1), .c (.v (.int .i64 v6.2))]) [] [(1, .row 49 6 (v6.1.map Thing.enc))], .call false [] (.o (.c (.sl 2))) [] [(2, .row 49 6 (v8.map Thing.enc))], .call false [] (.tup [.c (.sl 3), .c (.v (.int .i64 v10.2))]) [] [(3, .row 49 6 (v10.1.map Thing.enc))], .call false [] (.o (.c (.v (.bool v12)))) [] [], .as 44 false, .as 48 false, .call false [] (.o (.c (.sl 4))) [] [(4, .row 49 6 (v16.map Thing.enc))], .call false [] (.o (.c (.v (.bool v18)))) [] [], .as 53 false, .call false [2] (.o (.c (.v (.int .i64 v21.1)))) [(2, .row 49 6 (v21.2.map Thing.enc))] [], .as 59 false, .call false [] (.o (.c (.v (.bool v24)))) [] [], .as 65 false, .as 69 false, .call false [3] (.o (.c (.v (.int .i64 v28.1)))) [(3, .row 49 6 (v28.2.map Thing.enc))] [], .call false [] (.o (.c (.v (.int .i64 v30)))) [] [], .as 77 true] [] [] [] (And.intro (laws_szThingS_ok a0 1048576 v1 h2) (And.intro h3 (And.intro (And.intro (con_sw 1000 0 (laws_toThingS_ok a0 v4 h5)) (rfl : ([] : List Nat) = [])) (And.intro (And.intro (con_sw 1000 1 (spec_SealBox_ok v4 a1 a2 v6 h7)) (rfl : ([] : List Nat) = [])) (And.intro (And.intro (con_sw 1000 2 (laws_toThingS_ok a0 v8 h9)) (rfl : ([] : List Nat) = [])) (And.intro (And.intro (con_sw 1000 3 (impl_SealBox_ok v8 a1 a2 v10 h11)) (rfl : ([] : List Nat) = [])) (And.intro (laws_eqThingS_ok v10.1 v6.1 v12 h13) (And.intro h14 (And.intro h15 (And.intro (And.intro (con_sw 1000 4 (laws_toThingS_ok a0 v16 h17)) (rfl : ([] : List Nat) = [])) (And.intro (laws_eqThingS_ok v8 v16 v18 h19) (And.intro h20 (And.intro (And.intro (con_sw 900 2 (laws_markThingS_ok v8 1 v21 h22)) (rfl : ([2] : List Nat) = [2])) (And.intro h23 (And.intro (laws_eqThingS_ok v10.1 v6.1 v24 h25) (And.intro h26 (And.intro h27 (And.intro (And.intro (con_sw 900 3 (laws_markThingS_ok v10.1 1 v28 h29)) (rfl : ([3] : List Nat) = [3])) (And.intro (laws_heldThingS_ok v28.2 1 v30 h31) (And.intro h32 True.intro)))))))))))))))))))) (by kernel_rfl)
                · rcases cond_cases hM with ⟨h33, hM⟩ | ⟨h33, hM⟩
                  · have hE : some false = some r := hM
                    have hE := Option.some.inj hE
                    subst hE
                    exact pr R 9999 [.call false [] (.o (.c (.v (.int .i64 v1)))) [] [], .as 22 false, .call false [] (.o (.c (.sl 0))) [] [(0, .row 49 6 (v4.map Thing.enc))], .call false [] (.tup [.c (.sl 1), .c (.v (.int .i64 v6.2))]) [] [(1, .row 49 6 (v6.1.map Thing.enc))], .call false [] (.o (.c (.sl 2))) [] [(2, .row 49 6 (v8.map Thing.enc))], .call false [] (.tup [.c (.sl 3), .c (.v (.int .i64 v10.2))]) [] [(3, .row 49 6 (v10.1.map Thing.enc))], .call false [] (.o (.c (.v (.bool v12)))) [] [], .as 44 false, .as 48 false, .call false [] (.o (.c (.sl 4))) [] [(4, .row 49 6 (v16.map Thing.enc))], .call false [] (.o (.c (.v (.bool v18)))) [] [], .as 53 false, .call false [2] (.o (.c (.v (.int .i64 v21.1)))) [(2, .row 49 6 (v21.2.map Thing.enc))] [], .as 59 false, .call false [] (.o (.c (.v (.bool v24)))) [] [], .as 65 false, .as 69 false, .call false [3] (.o (.c (.v (.int .i64 v28.1)))) [(3, .row 49 6 (v28.2.map Thing.enc))] [], .call false [] (.o (.c (.v (.int .i64 v30)))) [] [], .as 77 false, .as 80 true] [] [] [] (And.intro (laws_szThingS_ok a0 1048576 v1 h2) (And.intro h3 (And.intro (And.intro (con_sw 1000 0 (laws_toThingS_ok a0 v4 h5)) (rfl : ([] : List Nat) = [])) (And.intro (And.intro (con_sw 1000 1 (spec_SealBox_ok v4 a1 a2 v6 h7)) (rfl : ([] : List Nat) = [])) (And.intro (And.intro (con_sw 1000 2 (laws_toThingS_ok a0 v8 h9)) (rfl : ([] : List Nat) = [])) (And.intro (And.intro (con_sw 1000 3 (impl_SealBox_ok v8 a1 a2 v10 h11)) (rfl : ([] : List Nat) = [])) (And.intro (laws_eqThingS_ok v10.1 v6.1 v12 h13) (And.intro h14 (And.intro h15 (And.intro (And.intro (con_sw 1000 4 (laws_toThingS_ok a0 v16 h17)) (rfl : ([] : List Nat) = [])) (And.intro (laws_eqThingS_ok v8 v16 v18 h19) (And.intro h20 (And.intro (And.intro (con_sw 900 2 (laws_markThingS_ok v8 1 v21 h22)) (rfl : ([2] : List Nat) = [2])) (And.intro h23 (And.intro (laws_eqThingS_ok v10.1 v6.1 v24 h25) (And.intro h26 (And.intro h27 (And.intro (And.intro (con_sw 900 3 (laws_markThingS_ok v10.1 1 v28 h29)) (rfl : ([3] : List Nat) = [3])) (And.intro (laws_heldThingS_ok v28.2 1 v30 h31) (And.intro h32 (And.intro h33 True.intro))))))))))))))))))))) (by kernel_rfl)
                  · obtain ⟨v34, h35, hM⟩ := bind_some hM
                    obtain ⟨v36, h37, hM⟩ := bind_some hM
                    obtain ⟨v38, h39, hM⟩ := bind_some hM
                    rcases cond_cases hM with ⟨h40, hM⟩ | ⟨h40, hM⟩
                    · have hE : some false = some r := hM
                      have hE := Option.some.inj hE
                      subst hE
                      exact pr R 9999 [.call false [] (.o (.c (.v (.int .i64 v1)))) [] [], .as 22 false, .call false [] (.o (.c (.sl 0))) [] [(0, .row 49 6 (v4.map Thing.enc))], .call false [] (.tup [.c (.sl 1), .c (.v (.int .i64 v6.2))]) [] [(1, .row 49 6 (v6.1.map Thing.enc))], .call false [] (.o (.c (.sl 2))) [] [(2, .row 49 6 (v8.map Thing.enc))], .call false [] (.tup [.c (.sl 3), .c (.v (.int .i64 v10.2))]) [] [(3, .row 49 6 (v10.1.map Thing.enc))], .call false [] (.o (.c (.v (.bool v12)))) [] [], .as 44 false, .as 48 false, .call false [] (.o (.c (.sl 4))) [] [(4, .row 49 6 (v16.map Thing.enc))], .call false [] (.o (.c (.v (.bool v18)))) [] [], .as 53 false, .call false [2] (.o (.c (.v (.int .i64 v21.1)))) [(2, .row 49 6 (v21.2.map Thing.enc))] [], .as 59 false, .call false [] (.o (.c (.v (.bool v24)))) [] [], .as 65 false, .as 69 false, .call false [3] (.o (.c (.v (.int .i64 v28.1)))) [(3, .row 49 6 (v28.2.map Thing.enc))] [], .call false [] (.o (.c (.v (.int .i64 v30)))) [] [], .as 77 false, .as 80 false, .call false [] (.o (.c (.sl 5))) [] [(5, .row 49 6 (v34.map Thing.enc))], .call false [] (.tup [.c (.sl 6), .c (.v (.int .i64 v36.2))]) [] [(6, .row 49 6 (v36.1.map Thing.enc))], .call false [] (.o (.c (.v (.bool v38)))) [] [], .as 93 true] [] [] [] (And.intro (laws_szThingS_ok a0 1048576 v1 h2) (And.intro h3 (And.intro (And.intro (con_sw 1000 0 (laws_toThingS_ok a0 v4 h5)) (rfl : ([] : List Nat) = [])) (And.intro (And.intro (con_sw 1000 1 (spec_SealBox_ok v4 a1 a2 v6 h7)) (rfl : ([] : List Nat) = [])) (And.intro (And.intro (con_sw 1000 2 (laws_toThingS_ok a0 v8 h9)) (rfl : ([] : List Nat) = [])) (And.intro (And.intro (con_sw 1000 3 (impl_SealBox_ok v8 a1 a2 v10 h11)) (rfl : ([] : List Nat) = [])) (And.intro (laws_eqThingS_ok v10.1 v6.1 v12 h13) (And.intro h14 (And.intro h15 (And.intro (And.intro (con_sw 1000 4 (laws_toThingS_ok a0 v16 h17)) (rfl : ([] : List Nat) = [])) (And.intro (laws_eqThingS_ok v8 v16 v18 h19) (And.intro h20 (And.intro (And.intro (con_sw 900 2 (laws_markThingS_ok v8 1 v21 h22)) (rfl : ([2] : List Nat) = [2])) (And.intro h23 (And.intro (laws_eqThingS_ok v10.1 v6.1 v24 h25) (And.intro h26 (And.intro h27 (And.intro (And.intro (con_sw 900 3 (laws_markThingS_ok v10.1 1 v28 h29)) (rfl : ([3] : List Nat) = [3])) (And.intro (laws_heldThingS_ok v28.2 1 v30 h31) (And.intro h32 (And.intro h33 (And.intro (And.intro (con_sw 1000 5 (laws_toThingS_ok a0 v34 h35)) (rfl : ([] : List Nat) = [])) (And.intro (And.intro (con_sw 1000 6 (impl_SealBox_ok v34 a1 a2 v36 h37)) (rfl : ([] : List Nat) = [])) (And.intro (laws_eqThingS_ok v36.1 v6.1 v38 h39) (And.intro h40 True.intro))))))))))))))))))))))))) (by kernel_rfl)
                    · rcases cond_cases hM with ⟨h41, hM⟩ | ⟨h41, hM⟩
                      · have hE : some false = some r := hM
                        have hE := Option.some.inj hE
                        subst hE
                        exact pr R 9999 [.call false [] (.o (.c (.v (.int .i64 v1)))) [] [], .as 22 false, .call false [] (.o (.c (.sl 0))) [] [(0, .row 49 6 (v4.map Thing.enc))], .call false [] (.tup [.c (.sl 1), .c (.v (.int .i64 v6.2))]) [] [(1, .row 49 6 (v6.1.map Thing.enc))], .call false [] (.o (.c (.sl 2))) [] [(2, .row 49 6 (v8.map Thing.enc))], .call false [] (.tup [.c (.sl 3), .c (.v (.int .i64 v10.2))]) [] [(3, .row 49 6 (v10.1.map Thing.enc))], .call false [] (.o (.c (.v (.bool v12)))) [] [], .as 44 false, .as 48 false, .call false [] (.o (.c (.sl 4))) [] [(4, .row 49 6 (v16.map Thing.enc))], .call false [] (.o (.c (.v (.bool v18)))) [] [], .as 53 false, .call false [2] (.o (.c (.v (.int .i64 v21.1)))) [(2, .row 49 6 (v21.2.map Thing.enc))] [], .as 59 false, .call false [] (.o (.c (.v (.bool v24)))) [] [], .as 65 false, .as 69 false, .call false [3] (.o (.c (.v (.int .i64 v28.1)))) [(3, .row 49 6 (v28.2.map Thing.enc))] [], .call false [] (.o (.c (.v (.int .i64 v30)))) [] [], .as 77 false, .as 80 false, .call false [] (.o (.c (.sl 5))) [] [(5, .row 49 6 (v34.map Thing.enc))], .call false [] (.tup [.c (.sl 6), .c (.v (.int .i64 v36.2))]) [] [(6, .row 49 6 (v36.1.map Thing.enc))], .call false [] (.o (.c (.v (.bool v38)))) [] [], .as 93 false, .as 97 true] [] [] [] (And.intro (laws_szThingS_ok a0 1048576 v1 h2) (And.intro h3 (And.intro (And.intro (con_sw 1000 0 (laws_toThingS_ok a0 v4 h5)) (rfl : ([] : List Nat) = [])) (And.intro (And.intro (con_sw 1000 1 (spec_SealBox_ok v4 a1 a2 v6 h7)) (rfl : ([] : List Nat) = [])) (And.intro (And.intro (con_sw 1000 2 (laws_toThingS_ok a0 v8 h9)) (rfl : ([] : List Nat) = [])) (And.intro (And.intro (con_sw 1000 3 (impl_SealBox_ok v8 a1 a2 v10 h11)) (rfl : ([] : List Nat) = [])) (And.intro (laws_eqThingS_ok v10.1 v6.1 v12 h13) (And.intro h14 (And.intro h15 (And.intro (And.intro (con_sw 1000 4 (laws_toThingS_ok a0 v16 h17)) (rfl : ([] : List Nat) = [])) (And.intro (laws_eqThingS_ok v8 v16 v18 h19) (And.intro h20 (And.intro (And.intro (con_sw 900 2 (laws_markThingS_ok v8 1 v21 h22)) (rfl : ([2] : List Nat) = [2])) (And.intro h23 (And.intro (laws_eqThingS_ok v10.1 v6.1 v24 h25) (And.intro h26 (And.intro h27 (And.intro (And.intro (con_sw 900 3 (laws_markThingS_ok v10.1 1 v28 h29)) (rfl : ([3] : List Nat) = [3])) (And.intro (laws_heldThingS_ok v28.2 1 v30 h31) (And.intro h32 (And.intro h33 (And.intro (And.intro (con_sw 1000 5 (laws_toThingS_ok a0 v34 h35)) (rfl : ([] : List Nat) = [])) (And.intro (And.intro (con_sw 1000 6 (impl_SealBox_ok v34 a1 a2 v36 h37)) (rfl : ([] : List Nat) = [])) (And.intro (laws_eqThingS_ok v36.1 v6.1 v38 h39) (And.intro h40 (And.intro h41 True.intro)))))))))))))))))))))))))) (by kernel_rfl)
                      · obtain ⟨v42, h43, hM⟩ := bind_some hM
                        rcases cond_cases hM with ⟨h44, hM⟩ | ⟨h44, hM⟩
                        · have hE : some false = some r := hM
                          have hE := Option.some.inj hE
                          subst hE
                          exact pr R 9999 [.call false [] (.o (.c (.v (.int .i64 v1)))) [] [], .as 22 false, .call false [] (.o (.c (.sl 0))) [] [(0, .row 49 6 (v4.map Thing.enc))], .call false [] (.tup [.c (.sl 1), .c (.v (.int .i64 v6.2))]) [] [(1, .row 49 6 (v6.1.map Thing.enc))], .call false [] (.o (.c (.sl 2))) [] [(2, .row 49 6 (v8.map Thing.enc))], .call false [] (.tup [.c (.sl 3), .c (.v (.int .i64 v10.2))]) [] [(3, .row 49 6 (v10.1.map Thing.enc))], .call false [] (.o (.c (.v (.bool v12)))) [] [], .as 44 false, .as 48 false, .call false [] (.o (.c (.sl 4))) [] [(4, .row 49 6 (v16.map Thing.enc))], .call false [] (.o (.c (.v (.bool v18)))) [] [], .as 53 false, .call false [2] (.o (.c (.v (.int .i64 v21.1)))) [(2, .row 49 6 (v21.2.map Thing.enc))] [], .as 59 false, .call false [] (.o (.c (.v (.bool v24)))) [] [], .as 65 false, .as 69 false, .call false [3] (.o (.c (.v (.int .i64 v28.1)))) [(3, .row 49 6 (v28.2.map Thing.enc))] [], .call false [] (.o (.c (.v (.int .i64 v30)))) [] [], .as 77 false, .as 80 false, .call false [] (.o (.c (.sl 5))) [] [(5, .row 49 6 (v34.map Thing.enc))], .call false [] (.tup [.c (.sl 6), .c (.v (.int .i64 v36.2))]) [] [(6, .row 49 6 (v36.1.map Thing.enc))], .call false [] (.o (.c (.v (.bool v38)))) [] [], .as 93 false, .as 97 false, .call false [] (.o (.c (.v (.int .i64 v42)))) [] [], .as 102 true] [] [] [] (And.intro (laws_szThingS_ok a0 1048576 v1 h2) (And.intro h3 (And.intro (And.intro (con_sw 1000 0 (laws_toThingS_ok a0 v4 h5)) (rfl : ([] : List Nat) = [])) (And.intro (And.intro (con_sw 1000 1 (spec_SealBox_ok v4 a1 a2 v6 h7)) (rfl : ([] : List Nat) = [])) (And.intro (And.intro (con_sw 1000 2 (laws_toThingS_ok a0 v8 h9)) (rfl : ([] : List Nat) = [])) (And.intro (And.intro (con_sw 1000 3 (impl_SealBox_ok v8 a1 a2 v10 h11)) (rfl : ([] : List Nat) = [])) (And.intro (laws_eqThingS_ok v10.1 v6.1 v12 h13) (And.intro h14 (And.intro h15 (And.intro (And.intro (con_sw 1000 4 (laws_toThingS_ok a0 v16 h17)) (rfl : ([] : List Nat) = [])) (And.intro (laws_eqThingS_ok v8 v16 v18 h19) (And.intro h20 (And.intro (And.intro (con_sw 900 2 (laws_markThingS_ok v8 1 v21 h22)) (rfl : ([2] : List Nat) = [2])) (And.intro h23 (And.intro (laws_eqThingS_ok v10.1 v6.1 v24 h25) (And.intro h26 (And.intro h27 (And.intro (And.intro (con_sw 900 3 (laws_markThingS_ok v10.1 1 v28 h29)) (rfl : ([3] : List Nat) = [3])) (And.intro (laws_heldThingS_ok v28.2 1 v30 h31) (And.intro h32 (And.intro h33 (And.intro (And.intro (con_sw 1000 5 (laws_toThingS_ok a0 v34 h35)) (rfl : ([] : List Nat) = [])) (And.intro (And.intro (con_sw 1000 6 (impl_SealBox_ok v34 a1 a2 v36 h37)) (rfl : ([] : List Nat) = [])) (And.intro (laws_eqThingS_ok v36.1 v6.1 v38 h39) (And.intro h40 (And.intro h41 (And.intro (laws_heldThingS_ok v28.2 1 v42 h43) (And.intro h44 True.intro)))))))))))))))))))))))))))) (by kernel_rfl)
                        · rcases cond_cases hM with ⟨h45, hM⟩ | ⟨h45, hM⟩
                          · have hE : some false = some r := hM
                            have hE := Option.some.inj hE
                            subst hE
                            exact pr R 9999 [.call false [] (.o (.c (.v (.int .i64 v1)))) [] [], .as 22 false, .call false [] (.o (.c (.sl 0))) [] [(0, .row 49 6 (v4.map Thing.enc))], .call false [] (.tup [.c (.sl 1), .c (.v (.int .i64 v6.2))]) [] [(1, .row 49 6 (v6.1.map Thing.enc))], .call false [] (.o (.c (.sl 2))) [] [(2, .row 49 6 (v8.map Thing.enc))], .call false [] (.tup [.c (.sl 3), .c (.v (.int .i64 v10.2))]) [] [(3, .row 49 6 (v10.1.map Thing.enc))], .call false [] (.o (.c (.v (.bool v12)))) [] [], .as 44 false, .as 48 false, .call false [] (.o (.c (.sl 4))) [] [(4, .row 49 6 (v16.map Thing.enc))], .call false [] (.o (.c (.v (.bool v18)))) [] [], .as 53 false, .call false [2] (.o (.c (.v (.int .i64 v21.1)))) [(2, .row 49 6 (v21.2.map Thing.enc))] [], .as 59 false, .call false [] (.o (.c (.v (.bool v24)))) [] [], .as 65 false, .as 69 false, .call false [3] (.o (.c (.v (.int .i64 v28.1)))) [(3, .row 49 6 (v28.2.map Thing.enc))] [], .call false [] (.o (.c (.v (.int .i64 v30)))) [] [], .as 77 false, .as 80 false, .call false [] (.o (.c (.sl 5))) [] [(5, .row 49 6 (v34.map Thing.enc))], .call false [] (.tup [.c (.sl 6), .c (.v (.int .i64 v36.2))]) [] [(6, .row 49 6 (v36.1.map Thing.enc))], .call false [] (.o (.c (.v (.bool v38)))) [] [], .as 93 false, .as 97 false, .call false [] (.o (.c (.v (.int .i64 v42)))) [] [], .as 102 false, .as 105 true] [] [] [] (And.intro (laws_szThingS_ok a0 1048576 v1 h2) (And.intro h3 (And.intro (And.intro (con_sw 1000 0 (laws_toThingS_ok a0 v4 h5)) (rfl : ([] : List Nat) = [])) (And.intro (And.intro (con_sw 1000 1 (spec_SealBox_ok v4 a1 a2 v6 h7)) (rfl : ([] : List Nat) = [])) (And.intro (And.intro (con_sw 1000 2 (laws_toThingS_ok a0 v8 h9)) (rfl : ([] : List Nat) = [])) (And.intro (And.intro (con_sw 1000 3 (impl_SealBox_ok v8 a1 a2 v10 h11)) (rfl : ([] : List Nat) = [])) (And.intro (laws_eqThingS_ok v10.1 v6.1 v12 h13) (And.intro h14 (And.intro h15 (And.intro (And.intro (con_sw 1000 4 (laws_toThingS_ok a0 v16 h17)) (rfl : ([] : List Nat) = [])) (And.intro (laws_eqThingS_ok v8 v16 v18 h19) (And.intro h20 (And.intro (And.intro (con_sw 900 2 (laws_markThingS_ok v8 1 v21 h22)) (rfl : ([2] : List Nat) = [2])) (And.intro h23 (And.intro (laws_eqThingS_ok v10.1 v6.1 v24 h25) (And.intro h26 (And.intro h27 (And.intro (And.intro (con_sw 900 3 (laws_markThingS_ok v10.1 1 v28 h29)) (rfl : ([3] : List Nat) = [3])) (And.intro (laws_heldThingS_ok v28.2 1 v30 h31) (And.intro h32 (And.intro h33 (And.intro (And.intro (con_sw 1000 5 (laws_toThingS_ok a0 v34 h35)) (rfl : ([] : List Nat) = [])) (And.intro (And.intro (con_sw 1000 6 (impl_SealBox_ok v34 a1 a2 v36 h37)) (rfl : ([] : List Nat) = [])) (And.intro (laws_eqThingS_ok v36.1 v6.1 v38 h39) (And.intro h40 (And.intro h41 (And.intro (laws_heldThingS_ok v28.2 1 v42 h43) (And.intro h44 (And.intro h45 True.intro))))))))))))))))))))))))))))) (by kernel_rfl)
                          · have hE : some true = some r := hM
                            have hE := Option.some.inj hE
                            subst hE
                            exact pr R 9999 [.call false [] (.o (.c (.v (.int .i64 v1)))) [] [], .as 22 false, .call false [] (.o (.c (.sl 0))) [] [(0, .row 49 6 (v4.map Thing.enc))], .call false [] (.tup [.c (.sl 1), .c (.v (.int .i64 v6.2))]) [] [(1, .row 49 6 (v6.1.map Thing.enc))], .call false [] (.o (.c (.sl 2))) [] [(2, .row 49 6 (v8.map Thing.enc))], .call false [] (.tup [.c (.sl 3), .c (.v (.int .i64 v10.2))]) [] [(3, .row 49 6 (v10.1.map Thing.enc))], .call false [] (.o (.c (.v (.bool v12)))) [] [], .as 44 false, .as 48 false, .call false [] (.o (.c (.sl 4))) [] [(4, .row 49 6 (v16.map Thing.enc))], .call false [] (.o (.c (.v (.bool v18)))) [] [], .as 53 false, .call false [2] (.o (.c (.v (.int .i64 v21.1)))) [(2, .row 49 6 (v21.2.map Thing.enc))] [], .as 59 false, .call false [] (.o (.c (.v (.bool v24)))) [] [], .as 65 false, .as 69 false, .call false [3] (.o (.c (.v (.int .i64 v28.1)))) [(3, .row 49 6 (v28.2.map Thing.enc))] [], .call false [] (.o (.c (.v (.int .i64 v30)))) [] [], .as 77 false, .as 80 false, .call false [] (.o (.c (.sl 5))) [] [(5, .row 49 6 (v34.map Thing.enc))], .call false [] (.tup [.c (.sl 6), .c (.v (.int .i64 v36.2))]) [] [(6, .row 49 6 (v36.1.map Thing.enc))], .call false [] (.o (.c (.v (.bool v38)))) [] [], .as 93 false, .as 97 false, .call false [] (.o (.c (.v (.int .i64 v42)))) [] [], .as 102 false, .as 105 false] [] [] [] (And.intro (laws_szThingS_ok a0 1048576 v1 h2) (And.intro h3 (And.intro (And.intro (con_sw 1000 0 (laws_toThingS_ok a0 v4 h5)) (rfl : ([] : List Nat) = [])) (And.intro (And.intro (con_sw 1000 1 (spec_SealBox_ok v4 a1 a2 v6 h7)) (rfl : ([] : List Nat) = [])) (And.intro (And.intro (con_sw 1000 2 (laws_toThingS_ok a0 v8 h9)) (rfl : ([] : List Nat) = [])) (And.intro (And.intro (con_sw 1000 3 (impl_SealBox_ok v8 a1 a2 v10 h11)) (rfl : ([] : List Nat) = [])) (And.intro (laws_eqThingS_ok v10.1 v6.1 v12 h13) (And.intro h14 (And.intro h15 (And.intro (And.intro (con_sw 1000 4 (laws_toThingS_ok a0 v16 h17)) (rfl : ([] : List Nat) = [])) (And.intro (laws_eqThingS_ok v8 v16 v18 h19) (And.intro h20 (And.intro (And.intro (con_sw 900 2 (laws_markThingS_ok v8 1 v21 h22)) (rfl : ([2] : List Nat) = [2])) (And.intro h23 (And.intro (laws_eqThingS_ok v10.1 v6.1 v24 h25) (And.intro h26 (And.intro h27 (And.intro (And.intro (con_sw 900 3 (laws_markThingS_ok v10.1 1 v28 h29)) (rfl : ([3] : List Nat) = [3])) (And.intro (laws_heldThingS_ok v28.2 1 v30 h31) (And.intro h32 (And.intro h33 (And.intro (And.intro (con_sw 1000 5 (laws_toThingS_ok a0 v34 h35)) (rfl : ([] : List Nat) = [])) (And.intro (And.intro (con_sw 1000 6 (impl_SealBox_ok v34 a1 a2 v36 h37)) (rfl : ([] : List Nat) = [])) (And.intro (laws_eqThingS_ok v36.1 v6.1 v38 h39) (And.intro h40 (And.intro h41 (And.intro (laws_heldThingS_ok v28.2 1 v42 h43) (And.intro h44 (And.intro h45 True.intro))))))))))))))))))))))))))))) (by kernel_rfl)

-- loop.example/g03014/spec.TakeFrom
def spec_TakeFrom (a0 : (List Thing)) (a1 : Int) : Option ((List Thing) × Int) :=
  (spec_l5Copy a0).bind fun v1 =>
  (spec_FindThing a0 a1).bind fun v3 =>
  (spec_AreThings a0).bind fun v5 =>
  bif (!v5) then
  some (v1, 1)
  else
  bif (decide (v3 < 0)) then
  some (v1, 1)
  else
  (spec_l5Locked a0 a1).bind fun v9 =>
  bif v9 then
  some (v1, 2)
  else
  (gi a0 v3).bind fun v12 =>
  bif (v12.In == 0) then
  some (v1, 6)
  else
  (gi a0 v3).bind fun v15 =>
  (spec_FindThing a0 v15.In).bind fun v17 =>
  (gi a0 v17).bind fun v19 =>
  (gi v1 v3).bind fun v21 =>
  some (List.set v1 (Int.toNat v3) (Thing.mk v21.Id v21.Own v21.Room v19.In v21.Box v21.Sealed), 0)
theorem spec_TakeFrom_ok (a0 : (List Thing)) (a1 : Int) (r : (List Thing) × Int) (hM : spec_TakeFrom a0 a1 = some r) :
    Con Try.prog 48 [.c (.rs 6 (a0.map Thing.enc)), .c (.v (.int .i64 a1))] [] (.tup [.c (.sl 1000), .c (.v (.int .i64 r.2))]) [] [(1000, .row 49 6 (r.1.map Thing.enc))] := by
  unfold spec_TakeFrom at hM
  refine cn (N := 51) (pids := []) Try_mixed Try.func48 (by kernel_rfl) (by kernel_rfl) (by kernel_rfl) rfl fun ρ g w R => ?_
  obtain ⟨v1, h2, hM⟩ := bind_some hM
  obtain ⟨v3, h4, hM⟩ := bind_some hM
  obtain ⟨v5, h6, hM⟩ := bind_some hM
  rcases cond_cases hM with ⟨h7, hM⟩ | ⟨h7, hM⟩
  · have hE : some (v1, 1) = some r := hM
    have hE := Option.some.inj hE
    subst hE
    exact pr R 9999 [.call false [] (.o (.c (.sl 0))) [] [(0, .row 49 6 (v1.map Thing.enc))], .call false [] (.o (.c (.v (.int .i64 v3)))) [] [], .call false [] (.o (.c (.v (.bool v5)))) [] [], .as 17 true] [.sw 0 1000] [] [1000] (And.intro (And.intro (con_sw 1000 0 (spec_l5Copy_ok a0 v1 h2)) (rfl : ([] : List Nat) = [])) (And.intro (spec_FindThing_ok a0 a1 v3 h4) (And.intro (spec_AreThings_ok a0 v5 h6) (And.intro h7 True.intro)))) (by kernel_rfl)
  · rcases cond_cases hM with ⟨h8, hM⟩ | ⟨h8, hM⟩
    · have hE : some (v1, 1) = some r := hM
      have hE := Option.some.inj hE
      subst hE
      exact pr R 9999 [.call false [] (.o (.c (.sl 0))) [] [(0, .row 49 6 (v1.map Thing.enc))], .call false [] (.o (.c (.v (.int .i64 v3)))) [] [], .call false [] (.o (.c (.v (.bool v5)))) [] [], .as 17 false, .as 13 true] [.sw 0 1000] [] [1000] (And.intro (And.intro (con_sw 1000 0 (spec_l5Copy_ok a0 v1 h2)) (rfl : ([] : List Nat) = [])) (And.intro (spec_FindThing_ok a0 a1 v3 h4) (And.intro (spec_AreThings_ok a0 v5 h6) (And.intro h7 (And.intro h8 True.intro))))) (by kernel_rfl)
    · obtain ⟨v9, h10, hM⟩ := bind_some hM
      rcases cond_cases hM with ⟨h11, hM⟩ | ⟨h11, hM⟩
      · have hE : some (v1, 2) = some r := hM
        have hE := Option.some.inj hE
        subst hE
        exact pr R 9999 [.call false [] (.o (.c (.sl 0))) [] [(0, .row 49 6 (v1.map Thing.enc))], .call false [] (.o (.c (.v (.int .i64 v3)))) [] [], .call false [] (.o (.c (.v (.bool v5)))) [] [], .as 17 false, .as 13 false, .call false [] (.o (.c (.v (.bool v9)))) [] [], .as 22 true] [.sw 0 1000] [] [1000] (And.intro (And.intro (con_sw 1000 0 (spec_l5Copy_ok a0 v1 h2)) (rfl : ([] : List Nat) = [])) (And.intro (spec_FindThing_ok a0 a1 v3 h4) (And.intro (spec_AreThings_ok a0 v5 h6) (And.intro h7 (And.intro h8 (And.intro (spec_l5Locked_ok a0 a1 v9 h10) (And.intro h11 True.intro))))))) (by kernel_rfl)
      · obtain ⟨v12, h13, hM⟩ := bind_some hM
        rcases cond_cases hM with ⟨h14, hM⟩ | ⟨h14, hM⟩
        · have hE : some (v1, 6) = some r := hM
          have hE := Option.some.inj hE
          subst hE
          exact pr R 9999 [.call false [] (.o (.c (.sl 0))) [] [(0, .row 49 6 (v1.map Thing.enc))], .call false [] (.o (.c (.v (.int .i64 v3)))) [] [], .call false [] (.o (.c (.v (.bool v5)))) [] [], .as 17 false, .as 13 false, .call false [] (.o (.c (.v (.bool v9)))) [] [], .as 22 false, .ix (Thing.enc v12), .as 27 true] [.sw 0 1000] [] [1000] (And.intro (And.intro (con_sw 1000 0 (spec_l5Copy_ok a0 v1 h2)) (rfl : ([] : List Nat) = [])) (And.intro (spec_FindThing_ok a0 a1 v3 h4) (And.intro (spec_AreThings_ok a0 v5 h6) (And.intro h7 (And.intro h8 (And.intro (spec_l5Locked_ok a0 a1 v9 h10) (And.intro h11 (And.intro (gi_map Thing.enc h13) (And.intro h14 True.intro))))))))) (by kernel_rfl)
        · obtain ⟨v15, h16, hM⟩ := bind_some hM
          obtain ⟨v17, h18, hM⟩ := bind_some hM
          obtain ⟨v19, h20, hM⟩ := bind_some hM
          obtain ⟨v21, h22, hM⟩ := bind_some hM
          have hE : some (List.set v1 (Int.toNat v3) (Thing.mk v21.Id v21.Own v21.Room v19.In v21.Box v21.Sealed), 0) = some r := hM
          have hE := Option.some.inj hE
          subst hE
          exact pr R 9999 [.call false [] (.o (.c (.sl 0))) [] [(0, .row 49 6 (v1.map Thing.enc))], .call false [] (.o (.c (.v (.int .i64 v3)))) [] [], .call false [] (.o (.c (.v (.bool v5)))) [] [], .as 17 false, .as 13 false, .call false [] (.o (.c (.v (.bool v9)))) [] [], .as 22 false, .ix (Thing.enc v12), .as 27 false, .ix (Thing.enc v15), .call false [] (.o (.c (.v (.int .i64 v17)))) [] [], .ix (Thing.enc v19), .ix (Thing.enc v21), .nm ((List.set v1 (Int.toNat v3) (Thing.mk v21.Id v21.Own v21.Room v19.In v21.Box v21.Sealed)).map Thing.enc)] [.sw 0 1000] [] [1000] (And.intro (And.intro (con_sw 1000 0 (spec_l5Copy_ok a0 v1 h2)) (rfl : ([] : List Nat) = [])) (And.intro (spec_FindThing_ok a0 a1 v3 h4) (And.intro (spec_AreThings_ok a0 v5 h6) (And.intro h7 (And.intro h8 (And.intro (spec_l5Locked_ok a0 a1 v9 h10) (And.intro h11 (And.intro (gi_map Thing.enc h13) (And.intro h14 (And.intro (gi_map Thing.enc h16) (And.intro (spec_FindThing_ok a0 v15.In v17 h18) (And.intro (gi_map Thing.enc h20) (And.intro (gi_lt Thing.enc h22) (And.intro (And.intro (gi_map Thing.enc h22).2 (set_map Thing.enc v1 (Int.toNat v3) (Thing.mk v21.Id v21.Own v21.Room v19.In v21.Box v21.Sealed))) True.intro)))))))))))))) (by kernel_rfl)

-- loop.example/g03014/impl.TakeFrom
def impl_TakeFrom (a0 : (List Thing)) (a1 : Int) : Option ((List Thing) × Int) :=
  (impl_copyThings a0).bind fun v1 =>
  (impl_isThing a0 a1).bind fun v3 =>
  bif (!v3) then
  some (v1, 1)
  else
  (impl_IsLocked a0 a1).bind fun v6 =>
  bif v6 then
  some (v1, 2)
  else
  (impl_FindThing a0 a1).bind fun v9 =>
  (gi a0 v9).bind fun v11 =>
  bif (v11.In == 0) then
  some (v1, 6)
  else
  (gi a0 v9).bind fun v14 =>
  (impl_FindThing a0 v14.In).bind fun v16 =>
  (gi a0 v16).bind fun v18 =>
  (gi v1 v9).bind fun v20 =>
  some (List.set v1 (Int.toNat v9) (Thing.mk v20.Id v20.Own v20.Room v18.In v20.Box v20.Sealed), 0)
theorem impl_TakeFrom_ok (a0 : (List Thing)) (a1 : Int) (r : (List Thing) × Int) (hM : impl_TakeFrom a0 a1 = some r) :
    Con Try.prog 49 [.c (.rs 6 (a0.map Thing.enc)), .c (.v (.int .i64 a1))] [] (.tup [.c (.sl 1000), .c (.v (.int .i64 r.2))]) [] [(1000, .row 49 6 (r.1.map Thing.enc))] := by
  unfold impl_TakeFrom at hM
  refine cn (N := 45) (pids := []) Try_mixed Try.func49 (by kernel_rfl) (by kernel_rfl) (by kernel_rfl) rfl fun ρ g w R => ?_
  obtain ⟨v1, h2, hM⟩ := bind_some hM
  obtain ⟨v3, h4, hM⟩ := bind_some hM
  rcases cond_cases hM with ⟨h5, hM⟩ | ⟨h5, hM⟩
  · have hE : some (v1, 1) = some r := hM
    have hE := Option.some.inj hE
    subst hE
    exact pr R 9999 [.call false [] (.o (.c (.sl 0))) [] [(0, .row 49 6 (v1.map Thing.enc))], .call false [] (.o (.c (.v (.bool v3)))) [] [], .as 13 true] [.sw 0 1000] [] [1000] (And.intro (And.intro (con_sw 1000 0 (impl_copyThings_ok a0 v1 h2)) (rfl : ([] : List Nat) = [])) (And.intro (impl_isThing_ok a0 a1 v3 h4) (And.intro h5 True.intro))) (by kernel_rfl)
  · obtain ⟨v6, h7, hM⟩ := bind_some hM
    rcases cond_cases hM with ⟨h8, hM⟩ | ⟨h8, hM⟩
    · have hE : some (v1, 2) = some r := hM
      have hE := Option.some.inj hE
      subst hE
      exact pr R 9999 [.call false [] (.o (.c (.sl 0))) [] [(0, .row 49 6 (v1.map Thing.enc))], .call false [] (.o (.c (.v (.bool v3)))) [] [], .as 13 false, .call false [] (.o (.c (.v (.bool v6)))) [] [], .as 17 true] [.sw 0 1000] [] [1000] (And.intro (And.intro (con_sw 1000 0 (impl_copyThings_ok a0 v1 h2)) (rfl : ([] : List Nat) = [])) (And.intro (impl_isThing_ok a0 a1 v3 h4) (And.intro h5 (And.intro (impl_IsLocked_ok a0 a1 v6 h7) (And.intro h8 True.intro))))) (by kernel_rfl)
    · obtain ⟨v9, h10, hM⟩ := bind_some hM
      obtain ⟨v11, h12, hM⟩ := bind_some hM
      rcases cond_cases hM with ⟨h13, hM⟩ | ⟨h13, hM⟩
      · have hE : some (v1, 6) = some r := hM
        have hE := Option.some.inj hE
        subst hE
        exact pr R 9999 [.call false [] (.o (.c (.sl 0))) [] [(0, .row 49 6 (v1.map Thing.enc))], .call false [] (.o (.c (.v (.bool v3)))) [] [], .as 13 false, .call false [] (.o (.c (.v (.bool v6)))) [] [], .as 17 false, .call false [] (.o (.c (.v (.int .i64 v9)))) [] [], .ix (Thing.enc v11), .as 27 true] [.sw 0 1000] [] [1000] (And.intro (And.intro (con_sw 1000 0 (impl_copyThings_ok a0 v1 h2)) (rfl : ([] : List Nat) = [])) (And.intro (impl_isThing_ok a0 a1 v3 h4) (And.intro h5 (And.intro (impl_IsLocked_ok a0 a1 v6 h7) (And.intro h8 (And.intro (impl_FindThing_ok a0 a1 v9 h10) (And.intro (gi_map Thing.enc h12) (And.intro h13 True.intro)))))))) (by kernel_rfl)
      · obtain ⟨v14, h15, hM⟩ := bind_some hM
        obtain ⟨v16, h17, hM⟩ := bind_some hM
        obtain ⟨v18, h19, hM⟩ := bind_some hM
        obtain ⟨v20, h21, hM⟩ := bind_some hM
        have hE : some (List.set v1 (Int.toNat v9) (Thing.mk v20.Id v20.Own v20.Room v18.In v20.Box v20.Sealed), 0) = some r := hM
        have hE := Option.some.inj hE
        subst hE
        exact pr R 9999 [.call false [] (.o (.c (.sl 0))) [] [(0, .row 49 6 (v1.map Thing.enc))], .call false [] (.o (.c (.v (.bool v3)))) [] [], .as 13 false, .call false [] (.o (.c (.v (.bool v6)))) [] [], .as 17 false, .call false [] (.o (.c (.v (.int .i64 v9)))) [] [], .ix (Thing.enc v11), .as 27 false, .ix (Thing.enc v14), .call false [] (.o (.c (.v (.int .i64 v16)))) [] [], .ix (Thing.enc v18), .ix (Thing.enc v20), .nm ((List.set v1 (Int.toNat v9) (Thing.mk v20.Id v20.Own v20.Room v18.In v20.Box v20.Sealed)).map Thing.enc)] [.sw 0 1000] [] [1000] (And.intro (And.intro (con_sw 1000 0 (impl_copyThings_ok a0 v1 h2)) (rfl : ([] : List Nat) = [])) (And.intro (impl_isThing_ok a0 a1 v3 h4) (And.intro h5 (And.intro (impl_IsLocked_ok a0 a1 v6 h7) (And.intro h8 (And.intro (impl_FindThing_ok a0 a1 v9 h10) (And.intro (gi_map Thing.enc h12) (And.intro h13 (And.intro (gi_map Thing.enc h15) (And.intro (impl_FindThing_ok a0 v14.In v16 h17) (And.intro (gi_map Thing.enc h19) (And.intro (gi_lt Thing.enc h21) (And.intro (And.intro (gi_map Thing.enc h21).2 (set_map Thing.enc v1 (Int.toNat v9) (Thing.mk v20.Id v20.Own v20.Room v18.In v20.Box v20.Sealed))) True.intro))))))))))))) (by kernel_rfl)

-- loop.example/g03014/laws.FnExactTakeFrom
def laws_FnExactTakeFrom (a0 : (List Thing)) (a1 : Int) : Option Bool :=
  (laws_szThingS a0 1048576).bind fun v1 =>
  bif (decide (v1 < 0)) then
  some true
  else
  (laws_toThingS a0).bind fun v4 =>
  (spec_TakeFrom v4 a1).bind fun v6 =>
  (laws_toThingS a0).bind fun v8 =>
  (impl_TakeFrom v8 a1).bind fun v10 =>
  (laws_eqThingS v10.1 v6.1).bind fun v12 =>
  bif (!v12) then
  some false
  else
  bif (v10.2 != v6.2) then
  some false
  else
  (laws_toThingS a0).bind fun v16 =>
  (laws_eqThingS v8 v16).bind fun v18 =>
  bif (!v18) then
  some false
  else
  (laws_markThingS v8 1).bind fun v21 =>
  bif (decide (v21.1 < 0)) then
  some false
  else
  (laws_eqThingS v10.1 v6.1).bind fun v24 =>
  bif (!v24) then
  some false
  else
  bif (v10.2 != v6.2) then
  some false
  else
  (laws_markThingS v10.1 1).bind fun v28 =>
  (laws_heldThingS v28.2 1).bind fun v30 =>
  bif (decide (v30 < 0)) then
  some false
  else
  bif (v30 != v28.1) then
  some false
  else
  (laws_toThingS a0).bind fun v34 =>
  (impl_TakeFrom v34 a1).bind fun v36 =>
  (laws_eqThingS v36.1 v6.1).bind fun v38 =>
  bif (!v38) then
  some false
  else
  bif (v36.2 != v6.2) then
  some false
  else
  (laws_heldThingS v28.2 1).bind fun v42 =>
  bif (decide (v42 < 0)) then
  some false
  else
  bif (v42 != v28.1) then
  some false
  else
  some true
theorem laws_FnExactTakeFrom_ok (a0 : (List Thing)) (a1 : Int) (r : Bool) (hM : laws_FnExactTakeFrom a0 a1 = some r) :
    Con Try.prog 12 [.c (.rs 6 (a0.map Thing.enc)), .c (.v (.int .i64 a1))] [] (.o (.c (.v (.bool r)))) [] [] := by
  unfold laws_FnExactTakeFrom at hM
  refine cn (N := 101) (pids := []) Try_mixed Try.func12 (by kernel_rfl) (by kernel_rfl) (by kernel_rfl) rfl fun ρ g w R => ?_
  obtain ⟨v1, h2, hM⟩ := bind_some hM
  rcases cond_cases hM with ⟨h3, hM⟩ | ⟨h3, hM⟩
  · have hE : some true = some r := hM
    have hE := Option.some.inj hE
    subst hE
    exact pr R 9999 [.call false [] (.o (.c (.v (.int .i64 v1)))) [] [], .as 20 true] [] [] [] (And.intro (laws_szThingS_ok a0 1048576 v1 h2) (And.intro h3 True.intro)) (by kernel_rfl)
  · obtain ⟨v4, h5, hM⟩ := bind_some hM
    obtain ⟨v6, h7, hM⟩ := bind_some hM
    obtain ⟨v8, h9, hM⟩ := bind_some hM
    obtain ⟨v10, h11, hM⟩ := bind_some hM
    obtain ⟨v12, h13, hM⟩ := bind_some hM
    rcases cond_cases hM with ⟨h14, hM⟩ | ⟨h14, hM⟩
    · have hE : some false = some r := hM
      have hE := Option.some.inj hE
      subst hE
      exact pr R 9999 [.call false [] (.o (.c (.v (.int .i64 v1)))) [] [], .as 20 false, .call false [] (.o (.c (.sl 0))) [] [(0, .row 49 6 (v4.map Thing.enc))], .call false [] (.tup [.c (.sl 1), .c (.v (.int .i64 v6.2))]) [] [(1, .row 49 6 (v6.1.map Thing.enc))], .call false [] (.o (.c (.sl 2))) [] [(2, .row 49 6 (v8.map Thing.enc))], .call false [] (.tup [.c (.sl 3), .c (.v (.int .i64 v10.2))]) [] [(3, .row 49 6 (v10.1.map Thing.enc))], .call false [] (.o (.c (.v (.bool v12)))) [] [], .as 40 true] [] [] [] (And.intro (laws_szThingS_ok a0 1048576 v1 h2) (And.intro h3 (And.intro (And.intro (con_sw 1000 0 (laws_toThingS_ok a0 v4 h5)) (rfl : ([] : List Nat) = [])) (And.intro (And.intro (con_sw 1000 1 (spec_TakeFrom_ok v4 a1 v6 h7)) (rfl : ([] : List Nat) = [])) (And.intro (And.intro (con_sw 1000 2 (laws_toThingS_ok a0 v8 h9)) (rfl : ([] : List Nat) = [])) (And.intro (And.intro (con_sw 1000 3 (impl_TakeFrom_ok v8 a1 v10 h11)) (rfl : ([] : List Nat) = [])) (And.intro (laws_eqThingS_ok v10.1 v6.1 v12 h13) (And.intro h14 True.intro)))))))) (by kernel_rfl)
    · rcases cond_cases hM with ⟨h15, hM⟩ | ⟨h15, hM⟩
      · have hE : some false = some r := hM
        have hE := Option.some.inj hE
        subst hE
        exact pr R 9999 [.call false [] (.o (.c (.v (.int .i64 v1)))) [] [], .as 20 false, .call false [] (.o (.c (.sl 0))) [] [(0, .row 49 6 (v4.map Thing.enc))], .call false [] (.tup [.c (.sl 1), .c (.v (.int .i64 v6.2))]) [] [(1, .row 49 6 (v6.1.map Thing.enc))], .call false [] (.o (.c (.sl 2))) [] [(2, .row 49 6 (v8.map Thing.enc))], .call false [] (.tup [.c (.sl 3), .c (.v (.int .i64 v10.2))]) [] [(3, .row 49 6 (v10.1.map Thing.enc))], .call false [] (.o (.c (.v (.bool v12)))) [] [], .as 40 false, .as 44 true] [] [] [] (And.intro (laws_szThingS_ok a0 1048576 v1 h2) (And.intro h3 (And.intro (And.intro (con_sw 1000 0 (laws_toThingS_ok a0 v4 h5)) (rfl : ([] : List Nat) = [])) (And.intro (And.intro (con_sw 1000 1 (spec_TakeFrom_ok v4 a1 v6 h7)) (rfl : ([] : List Nat) = [])) (And.intro (And.intro (con_sw 1000 2 (laws_toThingS_ok a0 v8 h9)) (rfl : ([] : List Nat) = [])) (And.intro (And.intro (con_sw 1000 3 (impl_TakeFrom_ok v8 a1 v10 h11)) (rfl : ([] : List Nat) = [])) (And.intro (laws_eqThingS_ok v10.1 v6.1 v12 h13) (And.intro h14 (And.intro h15 True.intro))))))))) (by kernel_rfl)
      · obtain ⟨v16, h17, hM⟩ := bind_some hM
        obtain ⟨v18, h19, hM⟩ := bind_some hM
        rcases cond_cases hM with ⟨h20, hM⟩ | ⟨h20, hM⟩
        · have hE : some false = some r := hM
          have hE := Option.some.inj hE
          subst hE
          exact pr R 9999 [.call false [] (.o (.c (.v (.int .i64 v1)))) [] [], .as 20 false, .call false [] (.o (.c (.sl 0))) [] [(0, .row 49 6 (v4.map Thing.enc))], .call false [] (.tup [.c (.sl 1), .c (.v (.int .i64 v6.2))]) [] [(1, .row 49 6 (v6.1.map Thing.enc))], .call false [] (.o (.c (.sl 2))) [] [(2, .row 49 6 (v8.map Thing.enc))], .call false [] (.tup [.c (.sl 3), .c (.v (.int .i64 v10.2))]) [] [(3, .row 49 6 (v10.1.map Thing.enc))], .call false [] (.o (.c (.v (.bool v12)))) [] [], .as 40 false, .as 44 false, .call false [] (.o (.c (.sl 4))) [] [(4, .row 49 6 (v16.map Thing.enc))], .call false [] (.o (.c (.v (.bool v18)))) [] [], .as 49 true] [] [] [] (And.intro (laws_szThingS_ok a0 1048576 v1 h2) (And.intro h3 (And.intro (And.intro (con_sw 1000 0 (laws_toThingS_ok a0 v4 h5)) (rfl : ([] : List Nat) = [])) (And.intro (And.intro (con_sw 1000 1 (spec_TakeFrom_ok v4 a1 v6 h7)) (rfl : ([] : List Nat) = [])) (And.intro (And.intro (con_sw 1000 2 (laws_toThingS_ok a0 v8 h9)) (rfl : ([] : List Nat) = [])) (And.intro (And.intro (con_sw 1000 3 (impl_TakeFrom_ok v8 a1 v10 h11)) (rfl : ([] : List Nat) = [])) (And.intro (laws_eqThingS_ok v10.1 v6.1 v12 h13) (And.intro h14 (And.intro h15 (And.intro (And.intro (con_sw 1000 4 (laws_toThingS_ok a0 v16 h17)) (rfl : ([] : List Nat) = [])) (And.intro (laws_eqThingS_ok v8 v16 v18 h19) (And.intro h20 True.intro)))))))))))) (by kernel_rfl)
        · obtain ⟨v21, h22, hM⟩ := bind_some hM
          rcases cond_cases hM with ⟨h23, hM⟩ | ⟨h23, hM⟩
          · have hE : some false = some r := hM
            have hE := Option.some.inj hE
            subst hE
            exact pr R 9999 [.call false [] (.o (.c (.v (.int .i64 v1)))) [] [], .as 20 false, .call false [] (.o (.c (.sl 0))) [] [(0, .row 49 6 (v4.map Thing.enc))], .call false [] (.tup [.c (.sl 1), .c (.v (.int .i64 v6.2))]) [] [(1, .row 49 6 (v6.1.map Thing.enc))], .call false [] (.o (.c (.sl 2))) [] [(2, .row 49 6 (v8.map Thing.enc))], .call false [] (.tup [.c (.sl 3), .c (.v (.int .i64 v10.2))]) [] [(3, .row 49 6 (v10.1.map Thing.enc))], .call false [] (.o (.c (.v (.bool v12)))) [] [], .as 40 false, .as 44 false, .call false [] (.o (.c (.sl 4))) [] [(4, .row 49 6 (v16.map Thing.enc))], .call false [] (.o (.c (.v (.bool v18)))) [] [], .as 49 false, .call false [2] (.o (.c (.v (.int .i64 v21.1)))) [(2, .row 49 6 (v21.2.map Thing.enc))] [], .as 55 true] [] [] [] (And.intro (laws_szThingS_ok a0 1048576 v1 h2) (And.intro h3 (And.intro (And.intro (con_sw 1000 0 (laws_toThingS_ok a0 v4 h5)) (rfl : ([] : List Nat) = [])) (And.intro (And.intro (con_sw 1000 1 (spec_TakeFrom_ok v4 a1 v6 h7)) (rfl : ([] : List Nat) = [])) (And.intro (And.intro (con_sw 1000 2 (laws_toThingS_ok a0 v8 h9)) (rfl : ([] : List Nat) = [])) (And.intro (And.intro (con_sw 1000 3 (impl_TakeFrom_ok v8 a1 v10 h11)) (rfl : ([] : List Nat) = [])) (And.intro (laws_eqThingS_ok v10.1 v6.1 v12 h13) (And.intro h14 (And.intro h15 (And.intro (And.intro (con_sw 1000 4 (laws_toThingS_ok a0 v16 h17)) (rfl : ([] : List Nat) = [])) (And.intro (laws_eqThingS_ok v8 v16 v18 h19) (And.intro h20 (And.intro (And.intro (con_sw 900 2 (laws_markThingS_ok v8 1 v21 h22)) (rfl : ([2] : List Nat) = [2])) (And.intro h23 True.intro)))))))))))))) (by kernel_rfl)
          · obtain ⟨v24, h25, hM⟩ := bind_some hM
            rcases cond_cases hM with ⟨h26, hM⟩ | ⟨h26, hM⟩
            · have hE : some false = some r := hM
              have hE := Option.some.inj hE
              subst hE
              exact pr R 9999 [.call false [] (.o (.c (.v (.int .i64 v1)))) [] [], .as 20 false, .call false [] (.o (.c (.sl 0))) [] [(0, .row 49 6 (v4.map Thing.enc))], .call false [] (.tup [.c (.sl 1), .c (.v (.int .i64 v6.2))]) [] [(1, .row 49 6 (v6.1.map Thing.enc))], .call false [] (.o (.c (.sl 2))) [] [(2, .row 49 6 (v8.map Thing.enc))], .call false [] (.tup [.c (.sl 3), .c (.v (.int .i64 v10.2))]) [] [(3, .row 49 6 (v10.1.map Thing.enc))], .call false [] (.o (.c (.v (.bool v12)))) [] [], .as 40 false, .as 44 false, .call false [] (.o (.c (.sl 4))) [] [(4, .row 49 6 (v16.map Thing.enc))], .call false [] (.o (.c (.v (.bool v18)))) [] [], .as 49 false, .call false [2] (.o (.c (.v (.int .i64 v21.1)))) [(2, .row 49 6 (v21.2.map Thing.enc))] [], .as 55 false, .call false [] (.o (.c (.v (.bool v24)))) [] [], .as 61 true] [] [] [] (And.intro (laws_szThingS_ok a0 1048576 v1 h2) (And.intro h3 (And.intro (And.intro (con_sw 1000 0 (laws_toThingS_ok a0 v4 h5)) (rfl : ([] : List Nat) = [])) (And.intro (And.intro (con_sw 1000 1 (spec_TakeFrom_ok v4 a1 v6 h7)) (rfl : ([] : List Nat) = [])) (And.intro (And.intro (con_sw 1000 2 (laws_toThingS_ok a0 v8 h9)) (rfl : ([] : List Nat) = [])) (And.intro (And.intro (con_sw 1000 3 (impl_TakeFrom_ok v8 a1 v10 h11)) (rfl : ([] : List Nat) = [])) (And.intro (laws_eqThingS_ok v10.1 v6.1 v12 h13) (And.intro h14 (And.intro h15 (And.intro (And.intro (con_sw 1000 4 (laws_toThingS_ok a0 v16 h17)) (rfl : ([] : List Nat) = [])) (And.intro (laws_eqThingS_ok v8 v16 v18 h19) (And.intro h20 (And.intro (And.intro (con_sw 900 2 (laws_markThingS_ok v8 1 v21 h22)) (rfl : ([2] : List Nat) = [2])) (And.intro h23 (And.intro (laws_eqThingS_ok v10.1 v6.1 v24 h25) (And.intro h26 True.intro)))))))))))))))) (by kernel_rfl)
            · rcases cond_cases hM with ⟨h27, hM⟩ | ⟨h27, hM⟩
              · have hE : some false = some r := hM
                have hE := Option.some.inj hE
                subst hE
                exact pr R 9999 [.call false [] (.o (.c (.v (.int .i64 v1)))) [] [], .as 20 false, .call false [] (.o (.c (.sl 0))) [] [(0, .row 49 6 (v4.map Thing.enc))], .call false [] (.tup [.c (.sl 1), .c (.v (.int .i64 v6.2))]) [] [(1, .row 49 6 (v6.1.map Thing.enc))], .call false [] (.o (.c (.sl 2))) [] [(2, .row 49 6 (v8.map Thing.enc))], .call false [] (.tup [.c (.sl 3), .c (.v (.int .i64 v10.2))]) [] [(3, .row 49 6 (v10.1.map Thing.enc))], .call false [] (.o (.c (.v (.bool v12)))) [] [], .as 40 false, .as 44 false, .call false [] (.o (.c (.sl 4))) [] [(4, .row 49 6 (v16.map Thing.enc))], .call false [] (.o (.c (.v (.bool v18)))) [] [], .as 49 false, .call false [2] (.o (.c (.v (.int .i64 v21.1)))) [(2, .row 49 6 (v21.2.map Thing.enc))] [], .as 55 false, .call false [] (.o (.c (.v (.bool v24)))) [] [], .as 61 false, .as 65 true] [] [] [] (And.intro (laws_szThingS_ok a0 1048576 v1 h2) (And.intro h3 (And.intro (And.intro (con_sw 1000 0 (laws_toThingS_ok a0 v4 h5)) (rfl : ([] : List Nat) = [])) (And.intro (And.intro (con_sw 1000 1 (spec_TakeFrom_ok v4 a1 v6 h7)) (rfl : ([] : List Nat) = [])) (And.intro (And.intro (con_sw 1000 2 (laws_toThingS_ok a0 v8 h9)) (rfl : ([] : List Nat) = [])) (And.intro (And.intro (con_sw 1000 3 (impl_TakeFrom_ok v8 a1 v10 h11)) (rfl : ([] : List Nat) = [])) (And.intro (laws_eqThingS_ok v10.1 v6.1 v12 h13) (And.intro h14 (And.intro h15 (And.intro (And.intro (con_sw 1000 4 (laws_toThingS_ok a0 v16 h17)) (rfl : ([] : List Nat) = [])) (And.intro (laws_eqThingS_ok v8 v16 v18 h19) (And.intro h20 (And.intro (And.intro (con_sw 900 2 (laws_markThingS_ok v8 1 v21 h22)) (rfl : ([2] : List Nat) = [2])) (And.intro h23 (And.intro (laws_eqThingS_ok v10.1 v6.1 v24 h25) (And.intro h26 (And.intro h27 True.intro))))))))))))))))) (by kernel_rfl)
              · obtain ⟨v28, h29, hM⟩ := bind_some hM
                obtain ⟨v30, h31, hM⟩ := bind_some hM
                rcases cond_cases hM with ⟨h32, hM⟩ | ⟨h32, hM⟩
                · have hE : some false = some r := hM
                  have hE := Option.some.inj hE
                  subst hE
                  exact pr R 9999 [.call false [] (.o (.c (.v (.int .i64 v1)))) [] [], .as 20 false, .call false [] (.o (.c (.sl 0))) [] [(0, .row 49 6 (v4.map Thing.enc))], .call false [] (.tup [.c (.sl 1), .c (.v (.int .i64 v6.2))]) [] [(1, .row 49 6 (v6.1.map Thing.enc))], .call false [] (.o (.c (.sl 2))) [] [(2, .row 49 6 (v8.map Thing.enc))], .call false [] (.tup [.c (.sl 3), .c (.v (.int .i64 v10.2))]) [] [(3, .row 49 6 (v10.1.map Thing.enc))], .call false [] (.o (.c (.v (.bool v12)))) [] [], .as 40 false, .as 44 false, .call false [] (.o (.c (.sl 4))) [] [(4, .row 49 6 (v16.map Thing.enc))], .call false [] (.o (.c (.v (.bool v18)))) [] [], .as 49 false, .call false [2] (.o (.c (.v (.int .i64 v21.1)))) [(2, .row 49 6 (v21.2.map Thing.enc))] [], .as 55 false, .call false [] (.o (.c (.v (.bool v24)))) [] [], .as 61 false, .as 65 false, .call false [3] (.o (.c (.v (.int .i64 v28.1)))) [(3, .row 49 6 (v28.2.map Thing.enc))] [], .call false [] (.o (.c (.v (.int .i64 v30)))) [] [], .as 73 true] [] [] [] (And.intro (laws_szThingS_ok a0 1048576 v1 h2) (And.intro h3 (And.intro (And.intro (con_sw 1000 0 (laws_toThingS_ok a0 v4 h5)) (rfl : ([] : List Nat) = [])) (And.intro (And.intro (con_sw 1000 1 (spec_TakeFrom_ok v4 a1 v6 h7)) (rfl : ([] : List Nat) = [])) (And.intro (And.intro (con_sw 1000 2 (laws_toThingS_ok a0 v8 h9)) (rfl : ([] : List Nat) = [])) (And.intro (And.intro (con_sw 1000 3 (impl_TakeFrom_ok v8 a1 v10 h11)) (rfl : ([] : List Nat) = [])) (And.intro (laws_eqThingS_ok v10.1 v6.1 v12 h13) (And.intro h14 (And.intro h15 (And.intro (And.intro (con_sw 1000 4 (laws_toThingS_ok a0 v16 h17)) (rfl : ([] : List Nat) = [])) (And.intro (laws_eqThingS_ok v8 v16 v18 h19) (And.intro h20 (And.intro (And.intro (con_sw 900 2 (laws_markThingS_ok v8 1 v21 h22)) (rfl : ([2] : List Nat) = [2])) (And.intro h23 (And.intro (laws_eqThingS_ok v10.1 v6.1 v24 h25) (And.intro h26 (And.intro h27 (And.intro (And.intro (con_sw 900 3 (laws_markThingS_ok v10.1 1 v28 h29)) (rfl : ([3] : List Nat) = [3])) (And.intro (laws_heldThingS_ok v28.2 1 v30 h31) (And.intro h32 True.intro)))))))))))))))))))) (by kernel_rfl)
                · rcases cond_cases hM with ⟨h33, hM⟩ | ⟨h33, hM⟩
                  · have hE : some false = some r := hM
                    have hE := Option.some.inj hE
                    subst hE
                    exact pr R 9999 [.call false [] (.o (.c (.v (.int .i64 v1)))) [] [], .as 20 false, .call false [] (.o (.c (.sl 0))) [] [(0, .row 49 6 (v4.map Thing.enc))], .call false [] (.tup [.c (.sl 1), .c (.v (.int .i64 v6.2))]) [] [(1, .row 49 6 (v6.1.map Thing.enc))], .call false [] (.o (.c (.sl 2))) [] [(2, .row 49 6 (v8.map Thing.enc))], .call false [] (.tup [.c (.sl 3), .c (.v (.int .i64 v10.2))]) [] [(3, .row 49 6 (v10.1.map Thing.enc))], .call false [] (.o (.c (.v (.bool v12)))) [] [], .as 40 false, .as 44 false, .call false [] (.o (.c (.sl 4))) [] [(4, .row 49 6 (v16.map Thing.enc))], .call false [] (.o (.c (.v (.bool v18)))) [] [], .as 49 false, .call false [2] (.o (.c (.v (.int .i64 v21.1)))) [(2, .row 49 6 (v21.2.map Thing.enc))] [], .as 55 false, .call false [] (.o (.c (.v (.bool v24)))) [] [], .as 61 false, .as 65 false, .call false [3] (.o (.c (.v (.int .i64 v28.1)))) [(3, .row 49 6 (v28.2.map Thing.enc))] [], .call false [] (.o (.c (.v (.int .i64 v30)))) [] [], .as 73 false, .as 76 true] [] [] [] (And.intro (laws_szThingS_ok a0 1048576 v1 h2) (And.intro h3 (And.intro (And.intro (con_sw 1000 0 (laws_toThingS_ok a0 v4 h5)) (rfl : ([] : List Nat) = [])) (And.intro (And.intro (con_sw 1000 1 (spec_TakeFrom_ok v4 a1 v6 h7)) (rfl : ([] : List Nat) = [])) (And.intro (And.intro (con_sw 1000 2 (laws_toThingS_ok a0 v8 h9)) (rfl : ([] : List Nat) = [])) (And.intro (And.intro (con_sw 1000 3 (impl_TakeFrom_ok v8 a1 v10 h11)) (rfl : ([] : List Nat) = [])) (And.intro (laws_eqThingS_ok v10.1 v6.1 v12 h13) (And.intro h14 (And.intro h15 (And.intro (And.intro (con_sw 1000 4 (laws_toThingS_ok a0 v16 h17)) (rfl : ([] : List Nat) = [])) (And.intro (laws_eqThingS_ok v8 v16 v18 h19) (And.intro h20 (And.intro (And.intro (con_sw 900 2 (laws_markThingS_ok v8 1 v21 h22)) (rfl : ([2] : List Nat) = [2])) (And.intro h23 (And.intro (laws_eqThingS_ok v10.1 v6.1 v24 h25) (And.intro h26 (And.intro h27 (And.intro (And.intro (con_sw 900 3 (laws_markThingS_ok v10.1 1 v28 h29)) (rfl : ([3] : List Nat) = [3])) (And.intro (laws_heldThingS_ok v28.2 1 v30 h31) (And.intro h32 (And.intro h33 True.intro))))))))))))))))))))) (by kernel_rfl)
                  · obtain ⟨v34, h35, hM⟩ := bind_some hM
                    obtain ⟨v36, h37, hM⟩ := bind_some hM
                    obtain ⟨v38, h39, hM⟩ := bind_some hM
                    rcases cond_cases hM with ⟨h40, hM⟩ | ⟨h40, hM⟩
                    · have hE : some false = some r := hM
                      have hE := Option.some.inj hE
                      subst hE
                      exact pr R 9999 [.call false [] (.o (.c (.v (.int .i64 v1)))) [] [], .as 20 false, .call false [] (.o (.c (.sl 0))) [] [(0, .row 49 6 (v4.map Thing.enc))], .call false [] (.tup [.c (.sl 1), .c (.v (.int .i64 v6.2))]) [] [(1, .row 49 6 (v6.1.map Thing.enc))], .call false [] (.o (.c (.sl 2))) [] [(2, .row 49 6 (v8.map Thing.enc))], .call false [] (.tup [.c (.sl 3), .c (.v (.int .i64 v10.2))]) [] [(3, .row 49 6 (v10.1.map Thing.enc))], .call false [] (.o (.c (.v (.bool v12)))) [] [], .as 40 false, .as 44 false, .call false [] (.o (.c (.sl 4))) [] [(4, .row 49 6 (v16.map Thing.enc))], .call false [] (.o (.c (.v (.bool v18)))) [] [], .as 49 false, .call false [2] (.o (.c (.v (.int .i64 v21.1)))) [(2, .row 49 6 (v21.2.map Thing.enc))] [], .as 55 false, .call false [] (.o (.c (.v (.bool v24)))) [] [], .as 61 false, .as 65 false, .call false [3] (.o (.c (.v (.int .i64 v28.1)))) [(3, .row 49 6 (v28.2.map Thing.enc))] [], .call false [] (.o (.c (.v (.int .i64 v30)))) [] [], .as 73 false, .as 76 false, .call false [] (.o (.c (.sl 5))) [] [(5, .row 49 6 (v34.map Thing.enc))], .call false [] (.tup [.c (.sl 6), .c (.v (.int .i64 v36.2))]) [] [(6, .row 49 6 (v36.1.map Thing.enc))], .call false [] (.o (.c (.v (.bool v38)))) [] [], .as 88 true] [] [] [] (And.intro (laws_szThingS_ok a0 1048576 v1 h2) (And.intro h3 (And.intro (And.intro (con_sw 1000 0 (laws_toThingS_ok a0 v4 h5)) (rfl : ([] : List Nat) = [])) (And.intro (And.intro (con_sw 1000 1 (spec_TakeFrom_ok v4 a1 v6 h7)) (rfl : ([] : List Nat) = [])) (And.intro (And.intro (con_sw 1000 2 (laws_toThingS_ok a0 v8 h9)) (rfl : ([] : List Nat) = [])) (And.intro (And.intro (con_sw 1000 3 (impl_TakeFrom_ok v8 a1 v10 h11)) (rfl : ([] : List Nat) = [])) (And.intro (laws_eqThingS_ok v10.1 v6.1 v12 h13) (And.intro h14 (And.intro h15 (And.intro (And.intro (con_sw 1000 4 (laws_toThingS_ok a0 v16 h17)) (rfl : ([] : List Nat) = [])) (And.intro (laws_eqThingS_ok v8 v16 v18 h19) (And.intro h20 (And.intro (And.intro (con_sw 900 2 (laws_markThingS_ok v8 1 v21 h22)) (rfl : ([2] : List Nat) = [2])) (And.intro h23 (And.intro (laws_eqThingS_ok v10.1 v6.1 v24 h25) (And.intro h26 (And.intro h27 (And.intro (And.intro (con_sw 900 3 (laws_markThingS_ok v10.1 1 v28 h29)) (rfl : ([3] : List Nat) = [3])) (And.intro (laws_heldThingS_ok v28.2 1 v30 h31) (And.intro h32 (And.intro h33 (And.intro (And.intro (con_sw 1000 5 (laws_toThingS_ok a0 v34 h35)) (rfl : ([] : List Nat) = [])) (And.intro (And.intro (con_sw 1000 6 (impl_TakeFrom_ok v34 a1 v36 h37)) (rfl : ([] : List Nat) = [])) (And.intro (laws_eqThingS_ok v36.1 v6.1 v38 h39) (And.intro h40 True.intro))))))))))))))))))))))))) (by kernel_rfl)
                    · rcases cond_cases hM with ⟨h41, hM⟩ | ⟨h41, hM⟩
                      · have hE : some false = some r := hM
                        have hE := Option.some.inj hE
                        subst hE
                        exact pr R 9999 [.call false [] (.o (.c (.v (.int .i64 v1)))) [] [], .as 20 false, .call false [] (.o (.c (.sl 0))) [] [(0, .row 49 6 (v4.map Thing.enc))], .call false [] (.tup [.c (.sl 1), .c (.v (.int .i64 v6.2))]) [] [(1, .row 49 6 (v6.1.map Thing.enc))], .call false [] (.o (.c (.sl 2))) [] [(2, .row 49 6 (v8.map Thing.enc))], .call false [] (.tup [.c (.sl 3), .c (.v (.int .i64 v10.2))]) [] [(3, .row 49 6 (v10.1.map Thing.enc))], .call false [] (.o (.c (.v (.bool v12)))) [] [], .as 40 false, .as 44 false, .call false [] (.o (.c (.sl 4))) [] [(4, .row 49 6 (v16.map Thing.enc))], .call false [] (.o (.c (.v (.bool v18)))) [] [], .as 49 false, .call false [2] (.o (.c (.v (.int .i64 v21.1)))) [(2, .row 49 6 (v21.2.map Thing.enc))] [], .as 55 false, .call false [] (.o (.c (.v (.bool v24)))) [] [], .as 61 false, .as 65 false, .call false [3] (.o (.c (.v (.int .i64 v28.1)))) [(3, .row 49 6 (v28.2.map Thing.enc))] [], .call false [] (.o (.c (.v (.int .i64 v30)))) [] [], .as 73 false, .as 76 false, .call false [] (.o (.c (.sl 5))) [] [(5, .row 49 6 (v34.map Thing.enc))], .call false [] (.tup [.c (.sl 6), .c (.v (.int .i64 v36.2))]) [] [(6, .row 49 6 (v36.1.map Thing.enc))], .call false [] (.o (.c (.v (.bool v38)))) [] [], .as 88 false, .as 92 true] [] [] [] (And.intro (laws_szThingS_ok a0 1048576 v1 h2) (And.intro h3 (And.intro (And.intro (con_sw 1000 0 (laws_toThingS_ok a0 v4 h5)) (rfl : ([] : List Nat) = [])) (And.intro (And.intro (con_sw 1000 1 (spec_TakeFrom_ok v4 a1 v6 h7)) (rfl : ([] : List Nat) = [])) (And.intro (And.intro (con_sw 1000 2 (laws_toThingS_ok a0 v8 h9)) (rfl : ([] : List Nat) = [])) (And.intro (And.intro (con_sw 1000 3 (impl_TakeFrom_ok v8 a1 v10 h11)) (rfl : ([] : List Nat) = [])) (And.intro (laws_eqThingS_ok v10.1 v6.1 v12 h13) (And.intro h14 (And.intro h15 (And.intro (And.intro (con_sw 1000 4 (laws_toThingS_ok a0 v16 h17)) (rfl : ([] : List Nat) = [])) (And.intro (laws_eqThingS_ok v8 v16 v18 h19) (And.intro h20 (And.intro (And.intro (con_sw 900 2 (laws_markThingS_ok v8 1 v21 h22)) (rfl : ([2] : List Nat) = [2])) (And.intro h23 (And.intro (laws_eqThingS_ok v10.1 v6.1 v24 h25) (And.intro h26 (And.intro h27 (And.intro (And.intro (con_sw 900 3 (laws_markThingS_ok v10.1 1 v28 h29)) (rfl : ([3] : List Nat) = [3])) (And.intro (laws_heldThingS_ok v28.2 1 v30 h31) (And.intro h32 (And.intro h33 (And.intro (And.intro (con_sw 1000 5 (laws_toThingS_ok a0 v34 h35)) (rfl : ([] : List Nat) = [])) (And.intro (And.intro (con_sw 1000 6 (impl_TakeFrom_ok v34 a1 v36 h37)) (rfl : ([] : List Nat) = [])) (And.intro (laws_eqThingS_ok v36.1 v6.1 v38 h39) (And.intro h40 (And.intro h41 True.intro)))))))))))))))))))))))))) (by kernel_rfl)
                      · obtain ⟨v42, h43, hM⟩ := bind_some hM
                        rcases cond_cases hM with ⟨h44, hM⟩ | ⟨h44, hM⟩
                        · have hE : some false = some r := hM
                          have hE := Option.some.inj hE
                          subst hE
                          exact pr R 9999 [.call false [] (.o (.c (.v (.int .i64 v1)))) [] [], .as 20 false, .call false [] (.o (.c (.sl 0))) [] [(0, .row 49 6 (v4.map Thing.enc))], .call false [] (.tup [.c (.sl 1), .c (.v (.int .i64 v6.2))]) [] [(1, .row 49 6 (v6.1.map Thing.enc))], .call false [] (.o (.c (.sl 2))) [] [(2, .row 49 6 (v8.map Thing.enc))], .call false [] (.tup [.c (.sl 3), .c (.v (.int .i64 v10.2))]) [] [(3, .row 49 6 (v10.1.map Thing.enc))], .call false [] (.o (.c (.v (.bool v12)))) [] [], .as 40 false, .as 44 false, .call false [] (.o (.c (.sl 4))) [] [(4, .row 49 6 (v16.map Thing.enc))], .call false [] (.o (.c (.v (.bool v18)))) [] [], .as 49 false, .call false [2] (.o (.c (.v (.int .i64 v21.1)))) [(2, .row 49 6 (v21.2.map Thing.enc))] [], .as 55 false, .call false [] (.o (.c (.v (.bool v24)))) [] [], .as 61 false, .as 65 false, .call false [3] (.o (.c (.v (.int .i64 v28.1)))) [(3, .row 49 6 (v28.2.map Thing.enc))] [], .call false [] (.o (.c (.v (.int .i64 v30)))) [] [], .as 73 false, .as 76 false, .call false [] (.o (.c (.sl 5))) [] [(5, .row 49 6 (v34.map Thing.enc))], .call false [] (.tup [.c (.sl 6), .c (.v (.int .i64 v36.2))]) [] [(6, .row 49 6 (v36.1.map Thing.enc))], .call false [] (.o (.c (.v (.bool v38)))) [] [], .as 88 false, .as 92 false, .call false [] (.o (.c (.v (.int .i64 v42)))) [] [], .as 97 true] [] [] [] (And.intro (laws_szThingS_ok a0 1048576 v1 h2) (And.intro h3 (And.intro (And.intro (con_sw 1000 0 (laws_toThingS_ok a0 v4 h5)) (rfl : ([] : List Nat) = [])) (And.intro (And.intro (con_sw 1000 1 (spec_TakeFrom_ok v4 a1 v6 h7)) (rfl : ([] : List Nat) = [])) (And.intro (And.intro (con_sw 1000 2 (laws_toThingS_ok a0 v8 h9)) (rfl : ([] : List Nat) = [])) (And.intro (And.intro (con_sw 1000 3 (impl_TakeFrom_ok v8 a1 v10 h11)) (rfl : ([] : List Nat) = [])) (And.intro (laws_eqThingS_ok v10.1 v6.1 v12 h13) (And.intro h14 (And.intro h15 (And.intro (And.intro (con_sw 1000 4 (laws_toThingS_ok a0 v16 h17)) (rfl : ([] : List Nat) = [])) (And.intro (laws_eqThingS_ok v8 v16 v18 h19) (And.intro h20 (And.intro (And.intro (con_sw 900 2 (laws_markThingS_ok v8 1 v21 h22)) (rfl : ([2] : List Nat) = [2])) (And.intro h23 (And.intro (laws_eqThingS_ok v10.1 v6.1 v24 h25) (And.intro h26 (And.intro h27 (And.intro (And.intro (con_sw 900 3 (laws_markThingS_ok v10.1 1 v28 h29)) (rfl : ([3] : List Nat) = [3])) (And.intro (laws_heldThingS_ok v28.2 1 v30 h31) (And.intro h32 (And.intro h33 (And.intro (And.intro (con_sw 1000 5 (laws_toThingS_ok a0 v34 h35)) (rfl : ([] : List Nat) = [])) (And.intro (And.intro (con_sw 1000 6 (impl_TakeFrom_ok v34 a1 v36 h37)) (rfl : ([] : List Nat) = [])) (And.intro (laws_eqThingS_ok v36.1 v6.1 v38 h39) (And.intro h40 (And.intro h41 (And.intro (laws_heldThingS_ok v28.2 1 v42 h43) (And.intro h44 True.intro)))))))))))))))))))))))))))) (by kernel_rfl)
                        · rcases cond_cases hM with ⟨h45, hM⟩ | ⟨h45, hM⟩
                          · have hE : some false = some r := hM
                            have hE := Option.some.inj hE
                            subst hE
                            exact pr R 9999 [.call false [] (.o (.c (.v (.int .i64 v1)))) [] [], .as 20 false, .call false [] (.o (.c (.sl 0))) [] [(0, .row 49 6 (v4.map Thing.enc))], .call false [] (.tup [.c (.sl 1), .c (.v (.int .i64 v6.2))]) [] [(1, .row 49 6 (v6.1.map Thing.enc))], .call false [] (.o (.c (.sl 2))) [] [(2, .row 49 6 (v8.map Thing.enc))], .call false [] (.tup [.c (.sl 3), .c (.v (.int .i64 v10.2))]) [] [(3, .row 49 6 (v10.1.map Thing.enc))], .call false [] (.o (.c (.v (.bool v12)))) [] [], .as 40 false, .as 44 false, .call false [] (.o (.c (.sl 4))) [] [(4, .row 49 6 (v16.map Thing.enc))], .call false [] (.o (.c (.v (.bool v18)))) [] [], .as 49 false, .call false [2] (.o (.c (.v (.int .i64 v21.1)))) [(2, .row 49 6 (v21.2.map Thing.enc))] [], .as 55 false, .call false [] (.o (.c (.v (.bool v24)))) [] [], .as 61 false, .as 65 false, .call false [3] (.o (.c (.v (.int .i64 v28.1)))) [(3, .row 49 6 (v28.2.map Thing.enc))] [], .call false [] (.o (.c (.v (.int .i64 v30)))) [] [], .as 73 false, .as 76 false, .call false [] (.o (.c (.sl 5))) [] [(5, .row 49 6 (v34.map Thing.enc))], .call false [] (.tup [.c (.sl 6), .c (.v (.int .i64 v36.2))]) [] [(6, .row 49 6 (v36.1.map Thing.enc))], .call false [] (.o (.c (.v (.bool v38)))) [] [], .as 88 false, .as 92 false, .call false [] (.o (.c (.v (.int .i64 v42)))) [] [], .as 97 false, .as 100 true] [] [] [] (And.intro (laws_szThingS_ok a0 1048576 v1 h2) (And.intro h3 (And.intro (And.intro (con_sw 1000 0 (laws_toThingS_ok a0 v4 h5)) (rfl : ([] : List Nat) = [])) (And.intro (And.intro (con_sw 1000 1 (spec_TakeFrom_ok v4 a1 v6 h7)) (rfl : ([] : List Nat) = [])) (And.intro (And.intro (con_sw 1000 2 (laws_toThingS_ok a0 v8 h9)) (rfl : ([] : List Nat) = [])) (And.intro (And.intro (con_sw 1000 3 (impl_TakeFrom_ok v8 a1 v10 h11)) (rfl : ([] : List Nat) = [])) (And.intro (laws_eqThingS_ok v10.1 v6.1 v12 h13) (And.intro h14 (And.intro h15 (And.intro (And.intro (con_sw 1000 4 (laws_toThingS_ok a0 v16 h17)) (rfl : ([] : List Nat) = [])) (And.intro (laws_eqThingS_ok v8 v16 v18 h19) (And.intro h20 (And.intro (And.intro (con_sw 900 2 (laws_markThingS_ok v8 1 v21 h22)) (rfl : ([2] : List Nat) = [2])) (And.intro h23 (And.intro (laws_eqThingS_ok v10.1 v6.1 v24 h25) (And.intro h26 (And.intro h27 (And.intro (And.intro (con_sw 900 3 (laws_markThingS_ok v10.1 1 v28 h29)) (rfl : ([3] : List Nat) = [3])) (And.intro (laws_heldThingS_ok v28.2 1 v30 h31) (And.intro h32 (And.intro h33 (And.intro (And.intro (con_sw 1000 5 (laws_toThingS_ok a0 v34 h35)) (rfl : ([] : List Nat) = [])) (And.intro (And.intro (con_sw 1000 6 (impl_TakeFrom_ok v34 a1 v36 h37)) (rfl : ([] : List Nat) = [])) (And.intro (laws_eqThingS_ok v36.1 v6.1 v38 h39) (And.intro h40 (And.intro h41 (And.intro (laws_heldThingS_ok v28.2 1 v42 h43) (And.intro h44 (And.intro h45 True.intro))))))))))))))))))))))))))))) (by kernel_rfl)
                          · have hE : some true = some r := hM
                            have hE := Option.some.inj hE
                            subst hE
                            exact pr R 9999 [.call false [] (.o (.c (.v (.int .i64 v1)))) [] [], .as 20 false, .call false [] (.o (.c (.sl 0))) [] [(0, .row 49 6 (v4.map Thing.enc))], .call false [] (.tup [.c (.sl 1), .c (.v (.int .i64 v6.2))]) [] [(1, .row 49 6 (v6.1.map Thing.enc))], .call false [] (.o (.c (.sl 2))) [] [(2, .row 49 6 (v8.map Thing.enc))], .call false [] (.tup [.c (.sl 3), .c (.v (.int .i64 v10.2))]) [] [(3, .row 49 6 (v10.1.map Thing.enc))], .call false [] (.o (.c (.v (.bool v12)))) [] [], .as 40 false, .as 44 false, .call false [] (.o (.c (.sl 4))) [] [(4, .row 49 6 (v16.map Thing.enc))], .call false [] (.o (.c (.v (.bool v18)))) [] [], .as 49 false, .call false [2] (.o (.c (.v (.int .i64 v21.1)))) [(2, .row 49 6 (v21.2.map Thing.enc))] [], .as 55 false, .call false [] (.o (.c (.v (.bool v24)))) [] [], .as 61 false, .as 65 false, .call false [3] (.o (.c (.v (.int .i64 v28.1)))) [(3, .row 49 6 (v28.2.map Thing.enc))] [], .call false [] (.o (.c (.v (.int .i64 v30)))) [] [], .as 73 false, .as 76 false, .call false [] (.o (.c (.sl 5))) [] [(5, .row 49 6 (v34.map Thing.enc))], .call false [] (.tup [.c (.sl 6), .c (.v (.int .i64 v36.2))]) [] [(6, .row 49 6 (v36.1.map Thing.enc))], .call false [] (.o (.c (.v (.bool v38)))) [] [], .as 88 false, .as 92 false, .call false [] (.o (.c (.v (.int .i64 v42)))) [] [], .as 97 false, .as 100 false] [] [] [] (And.intro (laws_szThingS_ok a0 1048576 v1 h2) (And.intro h3 (And.intro (And.intro (con_sw 1000 0 (laws_toThingS_ok a0 v4 h5)) (rfl : ([] : List Nat) = [])) (And.intro (And.intro (con_sw 1000 1 (spec_TakeFrom_ok v4 a1 v6 h7)) (rfl : ([] : List Nat) = [])) (And.intro (And.intro (con_sw 1000 2 (laws_toThingS_ok a0 v8 h9)) (rfl : ([] : List Nat) = [])) (And.intro (And.intro (con_sw 1000 3 (impl_TakeFrom_ok v8 a1 v10 h11)) (rfl : ([] : List Nat) = [])) (And.intro (laws_eqThingS_ok v10.1 v6.1 v12 h13) (And.intro h14 (And.intro h15 (And.intro (And.intro (con_sw 1000 4 (laws_toThingS_ok a0 v16 h17)) (rfl : ([] : List Nat) = [])) (And.intro (laws_eqThingS_ok v8 v16 v18 h19) (And.intro h20 (And.intro (And.intro (con_sw 900 2 (laws_markThingS_ok v8 1 v21 h22)) (rfl : ([2] : List Nat) = [2])) (And.intro h23 (And.intro (laws_eqThingS_ok v10.1 v6.1 v24 h25) (And.intro h26 (And.intro h27 (And.intro (And.intro (con_sw 900 3 (laws_markThingS_ok v10.1 1 v28 h29)) (rfl : ([3] : List Nat) = [3])) (And.intro (laws_heldThingS_ok v28.2 1 v30 h31) (And.intro h32 (And.intro h33 (And.intro (And.intro (con_sw 1000 5 (laws_toThingS_ok a0 v34 h35)) (rfl : ([] : List Nat) = [])) (And.intro (And.intro (con_sw 1000 6 (impl_TakeFrom_ok v34 a1 v36 h37)) (rfl : ([] : List Nat) = [])) (And.intro (laws_eqThingS_ok v36.1 v6.1 v38 h39) (And.intro h40 (And.intro h41 (And.intro (laws_heldThingS_ok v28.2 1 v42 h43) (And.intro h44 (And.intro h45 True.intro))))))))))))))))))))))))))))) (by kernel_rfl)

-- loop.example/g03014/spec.EmptyBox
def spec_EmptyBox_L1_b (a0 : (List Thing)) (a1 : Int) (v3 : Int) (s18 : (List Thing)) (s19 : Int) : Option (Ctl ((List Thing) × Int) (List Thing) ((List Thing) × Int)) :=
  bif (decide (s19 < (s18.length : Int))) then
  (gi s18 s19).bind fun v22 =>
  bif (v22.In == a1) then
  (gi a0 v3).bind fun v25 =>
  (gi s18 s19).bind fun v27 =>
  some (.next (List.set s18 (Int.toNat s19) (Thing.mk v27.Id v27.Own v27.Room v25.In v27.Box v27.Sealed), w64 (s19 + 1)))
  else
  some (.next (s18, w64 (s19 + 1)))
  else
  some (.brk s18)
def spec_EmptyBox_L1 (a0 : (List Thing)) (a1 : Int) (v3 : Int) (s : (List Thing) × Int) : Option (Ctl ((List Thing) × Int) (List Thing) ((List Thing) × Int)) := spec_EmptyBox_L1_b a0 a1 v3 s.1 s.2
def spec_EmptyBox_L1_s (a0 : (List Thing)) (a1 : Int) (v3 : Int) (s18 : (List Thing)) (s19 : Int) : St := ⟨[(0, .o (.c (.rs 6 (a0.map Thing.enc)))), (1, .o (.c (.v (.int .i64 a1)))), (6, .o (.c (.sl 0))), (7, .o (.c (.v (.int .i64 v3)))), (8, .o (.c (.v (.int .i64 s19))))], [(0, .row 49 6 (s18.map Thing.enc))]⟩
def spec_EmptyBox_L1_S (a0 : (List Thing)) (a1 : Int) (v3 : Int) (s : (List Thing) × Int) : St := spec_EmptyBox_L1_s a0 a1 v3 s.1 s.2
def spec_EmptyBox_L1_a (s20 : (List Thing)) : Option ((List Thing) × Int) :=
  some (s20, 0)
def spec_EmptyBox_L1_k (x : ((List Thing)) ⊕ ((List Thing) × Int)) : Option ((List Thing) × Int) := match x with
  | .inl t => spec_EmptyBox_L1_a t
  | .inr y => some y
def spec_EmptyBox (a0 : (List Thing)) (a1 : Int) : Option ((List Thing) × Int) :=
  (spec_l5Copy a0).bind fun v1 =>
  (spec_FindThing a0 a1).bind fun v3 =>
  (spec_AreThings a0).bind fun v5 =>
  bif (!v5) then
  some (v1, 1)
  else
  bif (decide (v3 < 0)) then
  some (v1, 1)
  else
  (gi a0 v3).bind fun v9 =>
  bif (!v9.Box) then
  some (v1, 1)
  else
  (spec_l5Locked a0 a1).bind fun v12 =>
  bif v12 then
  some (v1, 2)
  else
  (gi a0 v3).bind fun v15 =>
  bif v15.Sealed then
  some (v1, 2)
  else
  (loopM (spec_EmptyBox_L1 a0 a1 v3) big (v1, 0)).bind (spec_EmptyBox_L1_k)
theorem spec_EmptyBox_ok (a0 : (List Thing)) (a1 : Int) (r : (List Thing) × Int) (hM : spec_EmptyBox a0 a1 = some r) :
    Con Try.prog 50 [.c (.rs 6 (a0.map Thing.enc)), .c (.v (.int .i64 a1))] [] (.tup [.c (.sl 1000), .c (.v (.int .i64 r.2))]) [] [(1000, .row 49 6 (r.1.map Thing.enc))] := by
  unfold spec_EmptyBox at hM
  refine cn (N := 66) (pids := []) Try_mixed Try.func50 (by kernel_rfl) (by kernel_rfl) (by kernel_rfl) rfl fun ρ g w R => ?_
  obtain ⟨v1, h2, hM⟩ := bind_some hM
  obtain ⟨v3, h4, hM⟩ := bind_some hM
  obtain ⟨v5, h6, hM⟩ := bind_some hM
  rcases cond_cases hM with ⟨h7, hM⟩ | ⟨h7, hM⟩
  · have hE : some (v1, 1) = some r := hM
    have hE := Option.some.inj hE
    subst hE
    exact pr R 9999 [.call false [] (.o (.c (.sl 0))) [] [(0, .row 49 6 (v1.map Thing.enc))], .call false [] (.o (.c (.v (.int .i64 v3)))) [] [], .call false [] (.o (.c (.v (.bool v5)))) [] [], .as 18 true] [.sw 0 1000] [] [1000] (And.intro (And.intro (con_sw 1000 0 (spec_l5Copy_ok a0 v1 h2)) (rfl : ([] : List Nat) = [])) (And.intro (spec_FindThing_ok a0 a1 v3 h4) (And.intro (spec_AreThings_ok a0 v5 h6) (And.intro h7 True.intro)))) (by kernel_rfl)
  · rcases cond_cases hM with ⟨h8, hM⟩ | ⟨h8, hM⟩
    · have hE : some (v1, 1) = some r := hM
      have hE := Option.some.inj hE
      subst hE
      exact pr R 9999 [.call false [] (.o (.c (.sl 0))) [] [(0, .row 49 6 (v1.map Thing.enc))], .call false [] (.o (.c (.v (.int .i64 v3)))) [] [], .call false [] (.o (.c (.v (.bool v5)))) [] [], .as 18 false, .as 22 true] [.sw 0 1000] [] [1000] (And.intro (And.intro (con_sw 1000 0 (spec_l5Copy_ok a0 v1 h2)) (rfl : ([] : List Nat) = [])) (And.intro (spec_FindThing_ok a0 a1 v3 h4) (And.intro (spec_AreThings_ok a0 v5 h6) (And.intro h7 (And.intro h8 True.intro))))) (by kernel_rfl)
    · obtain ⟨v9, h10, hM⟩ := bind_some hM
      rcases cond_cases hM with ⟨h11, hM⟩ | ⟨h11, hM⟩
      · have hE : some (v1, 1) = some r := hM
        have hE := Option.some.inj hE
        subst hE
        exact pr R 9999 [.call false [] (.o (.c (.sl 0))) [] [(0, .row 49 6 (v1.map Thing.enc))], .call false [] (.o (.c (.v (.int .i64 v3)))) [] [], .call false [] (.o (.c (.v (.bool v5)))) [] [], .as 18 false, .as 22 false, .ix (Thing.enc v9), .as 14 true] [.sw 0 1000] [] [1000] (And.intro (And.intro (con_sw 1000 0 (spec_l5Copy_ok a0 v1 h2)) (rfl : ([] : List Nat) = [])) (And.intro (spec_FindThing_ok a0 a1 v3 h4) (And.intro (spec_AreThings_ok a0 v5 h6) (And.intro h7 (And.intro h8 (And.intro (gi_map Thing.enc h10) (And.intro h11 True.intro))))))) (by kernel_rfl)
      · obtain ⟨v12, h13, hM⟩ := bind_some hM
        rcases cond_cases hM with ⟨h14, hM⟩ | ⟨h14, hM⟩
        · have hE : some (v1, 2) = some r := hM
          have hE := Option.some.inj hE
          subst hE
          exact pr R 9999 [.call false [] (.o (.c (.sl 0))) [] [(0, .row 49 6 (v1.map Thing.enc))], .call false [] (.o (.c (.v (.int .i64 v3)))) [] [], .call false [] (.o (.c (.v (.bool v5)))) [] [], .as 18 false, .as 22 false, .ix (Thing.enc v9), .as 14 false, .call false [] (.o (.c (.v (.bool v12)))) [] [], .as 35 true] [.sw 0 1000] [] [1000] (And.intro (And.intro (con_sw 1000 0 (spec_l5Copy_ok a0 v1 h2)) (rfl : ([] : List Nat) = [])) (And.intro (spec_FindThing_ok a0 a1 v3 h4) (And.intro (spec_AreThings_ok a0 v5 h6) (And.intro h7 (And.intro h8 (And.intro (gi_map Thing.enc h10) (And.intro h11 (And.intro (spec_l5Locked_ok a0 a1 v12 h13) (And.intro h14 True.intro))))))))) (by kernel_rfl)
        · obtain ⟨v15, h16, hM⟩ := bind_some hM
          rcases cond_cases hM with ⟨h17, hM⟩ | ⟨h17, hM⟩
          · have hE : some (v1, 2) = some r := hM
            have hE := Option.some.inj hE
            subst hE
            exact pr R 9999 [.call false [] (.o (.c (.sl 0))) [] [(0, .row 49 6 (v1.map Thing.enc))], .call false [] (.o (.c (.v (.int .i64 v3)))) [] [], .call false [] (.o (.c (.v (.bool v5)))) [] [], .as 18 false, .as 22 false, .ix (Thing.enc v9), .as 14 false, .call false [] (.o (.c (.v (.bool v12)))) [] [], .as 35 false, .ix (Thing.enc v15), .as 31 true] [.sw 0 1000] [] [1000] (And.intro (And.intro (con_sw 1000 0 (spec_l5Copy_ok a0 v1 h2)) (rfl : ([] : List Nat) = [])) (And.intro (spec_FindThing_ok a0 a1 v3 h4) (And.intro (spec_AreThings_ok a0 v5 h6) (And.intro h7 (And.intro h8 (And.intro (gi_map Thing.enc h10) (And.intro h11 (And.intro (spec_l5Locked_ok a0 a1 v12 h13) (And.intro h14 (And.intro (gi_map Thing.enc h16) (And.intro h17 True.intro))))))))))) (by kernel_rfl)
          · have K1 : ∀ (s20 : (List Thing)), spec_EmptyBox_L1_a s20 = some r → Gr R [.code (cAt Try.f50 [1, 1, 1, 1, 1])] (⟨[(6, .o (.c (.sl 0)))], [(0, .row 49 6 (s20.map Thing.enc))]⟩) := by
              intro s20 hM
              unfold spec_EmptyBox_L1_a at hM
              have hE : some (s20, 0) = some r := hM
              have hE := Option.some.inj hE
              subst hE
              exact pr R 9999 [] [.sw 0 1000] [] [1000] True.intro (by kernel_rfl)
            refine pc R 9999 [.call false [] (.o (.c (.sl 0))) [] [(0, .row 49 6 (v1.map Thing.enc))], .call false [] (.o (.c (.v (.int .i64 v3)))) [] [], .call false [] (.o (.c (.v (.bool v5)))) [] [], .as 18 false, .as 22 false, .ix (Thing.enc v9), .as 14 false, .call false [] (.o (.c (.v (.bool v12)))) [] [], .as 35 false, .ix (Thing.enc v15), .as 31 false] [.keep [0, 1, 6, 7, 8] [0]] (k' := [.code (.loop (cAt Try.f50 [1, 1, 1, 1, 0, 1, 0, 0])), .blk 1, .code (cAt Try.f50 [1, 1, 1, 1, 1])]) (S' := spec_EmptyBox_L1_S a0 a1 v3 (v1, 0)) (And.intro (And.intro (con_sw 1000 0 (spec_l5Copy_ok a0 v1 h2)) (rfl : ([] : List Nat) = [])) (And.intro (spec_FindThing_ok a0 a1 v3 h4) (And.intro (spec_AreThings_ok a0 v5 h6) (And.intro h7 (And.intro h8 (And.intro (gi_map Thing.enc h10) (And.intro h11 (And.intro (spec_l5Locked_ok a0 a1 v12 h13) (And.intro h14 (And.intro (gi_map Thing.enc h16) (And.intro h17 True.intro))))))))))) (by kernel_rfl) ?_
            refine lq (spec_EmptyBox_L1_S a0 a1 v3) (body := spec_EmptyBox_L1 a0 a1 v3) (k := spec_EmptyBox_L1_k) hM fun m1 s c1 hM hK1 => ?_
            obtain ⟨s18, s19⟩ := s
            have hM : spec_EmptyBox_L1_b a0 a1 v3 s18 s19 = some c1 := hM
            unfold spec_EmptyBox_L1_b at hM
            rcases cond_cases hM with ⟨h21, hM⟩ | ⟨h21, hM⟩
            · obtain ⟨v22, h23, hM⟩ := bind_some hM
              rcases cond_cases hM with ⟨h24, hM⟩ | ⟨h24, hM⟩
              · obtain ⟨v25, h26, hM⟩ := bind_some hM
                obtain ⟨v27, h28, hM⟩ := bind_some hM
                have hE : some (Ctl.next (List.set s18 (Int.toNat s19) (Thing.mk v27.Id v27.Own v27.Room v25.In v27.Box v27.Sealed), w64 (s19 + 1))) = some c1 := hM
                have hE := Option.some.inj hE
                subst hE
                exact pc R 9999 [.ln (s18.length), .as 46 true, .ix (Thing.enc v22), .as 55 true, .ix (Thing.enc v25), .ix (Thing.enc v27), .nm ((List.set s18 (Int.toNat s19) (Thing.mk v27.Id v27.Own v27.Room v25.In v27.Box v27.Sealed)).map Thing.enc)] [.keep [0, 1, 6, 7, 8] [0]] (And.intro (lenm Thing.enc s18) (And.intro h21 (And.intro (gi_lt Thing.enc h23) (And.intro ((gi_map Thing.enc h23).2) (And.intro h24 (And.intro (gi_map Thing.enc h26) (And.intro (gi_lt Thing.enc h28) (And.intro (And.intro (gi_map Thing.enc h28).2 (set_map Thing.enc s18 (Int.toNat s19) (Thing.mk v27.Id v27.Own v27.Room v25.In v27.Box v27.Sealed))) True.intro)))))))) (by kernel_rfl) (li (Sf := spec_EmptyBox_L1_S a0 a1 v3) (M := Mk (spec_EmptyBox_L1 a0 a1 v3) (spec_EmptyBox_L1_k) r) (k := [.blk 1, .code (cAt Try.f50 [1, 1, 1, 1, 1])]) (Nat.lt_succ_self m1) hK1)
              · have hE : some (Ctl.next (s18, w64 (s19 + 1))) = some c1 := hM
                have hE := Option.some.inj hE
                subst hE
                exact pc R 9999 [.ln (s18.length), .as 46 true, .ix (Thing.enc v22), .as 55 false] [.keep [0, 1, 6, 7, 8] [0]] (And.intro (lenm Thing.enc s18) (And.intro h21 (And.intro (gi_lt Thing.enc h23) (And.intro ((gi_map Thing.enc h23).2) (And.intro h24 True.intro))))) (by kernel_rfl) (li (Sf := spec_EmptyBox_L1_S a0 a1 v3) (M := Mk (spec_EmptyBox_L1 a0 a1 v3) (spec_EmptyBox_L1_k) r) (k := [.blk 1, .code (cAt Try.f50 [1, 1, 1, 1, 1])]) (Nat.lt_succ_self m1) hK1)
            · have hE : some (Ctl.brk s18) = some c1 := hM
              have hE := Option.some.inj hE
              subst hE
              exact pc R 5 [.ln (s18.length), .as 46 false] [.keep [6] [0]] (And.intro (lenm Thing.enc s18) (And.intro h21 True.intro)) (by kernel_rfl) (K1 s18 hK1)

-- loop.example/g03014/impl.EmptyBox
def impl_EmptyBox_L1_b (a0 : (List Thing)) (a1 : Int) (v1 : (List Thing)) (v9 : Int) (s17 : (List Thing)) (s18 : Int) : Option (Ctl ((List Thing) × Int) (List Thing) ((List Thing) × Int)) :=
  bif (decide (s18 < (v1.length : Int))) then
  (gi s17 s18).bind fun v21 =>
  bif (v21.In == a1) then
  (gi a0 v9).bind fun v24 =>
  (gi s17 s18).bind fun v26 =>
  some (.next (List.set s17 (Int.toNat s18) (Thing.mk v26.Id v26.Own v26.Room v24.In v26.Box v26.Sealed), w64 (s18 + 1)))
  else
  some (.next (s17, w64 (s18 + 1)))
  else
  some (.brk s17)
def impl_EmptyBox_L1 (a0 : (List Thing)) (a1 : Int) (v1 : (List Thing)) (v9 : Int) (s : (List Thing) × Int) : Option (Ctl ((List Thing) × Int) (List Thing) ((List Thing) × Int)) := impl_EmptyBox_L1_b a0 a1 v1 v9 s.1 s.2
def impl_EmptyBox_L1_s (a0 : (List Thing)) (a1 : Int) (v1 : (List Thing)) (v9 : Int) (s17 : (List Thing)) (s18 : Int) : St := ⟨[(0, .o (.c (.rs 6 (a0.map Thing.enc)))), (1, .o (.c (.v (.int .i64 a1)))), (6, .o (.c (.sl 0))), (7, .o (.c (.v (.int .i64 v9)))), (37, .o (.c (.v (.int .i64 (v1.length : Int))))), (38, .o (.c (.v (.int .i64 s18))))], [(0, .row 49 6 (s17.map Thing.enc))]⟩
def impl_EmptyBox_L1_S (a0 : (List Thing)) (a1 : Int) (v1 : (List Thing)) (v9 : Int) (s : (List Thing) × Int) : St := impl_EmptyBox_L1_s a0 a1 v1 v9 s.1 s.2
def impl_EmptyBox_L1_a (s19 : (List Thing)) : Option ((List Thing) × Int) :=
  some (s19, 0)
def impl_EmptyBox_L1_k (x : ((List Thing)) ⊕ ((List Thing) × Int)) : Option ((List Thing) × Int) := match x with
  | .inl t => impl_EmptyBox_L1_a t
  | .inr y => some y
def impl_EmptyBox (a0 : (List Thing)) (a1 : Int) : Option ((List Thing) × Int) :=
  (impl_copyThings a0).bind fun v1 =>
  (impl_isThing a0 a1).bind fun v3 =>
  bif (!v3) then
  some (v1, 1)
  else
  (impl_isBox a0 a1).bind fun v6 =>
  bif (!v6) then
  some (v1, 1)
  else
  (impl_FindThing a0 a1).bind fun v9 =>
  (impl_IsLocked a0 a1).bind fun v11 =>
  bif v11 then
  some (v1, 2)
  else
  (gi a0 v9).bind fun v14 =>
  bif v14.Sealed then
  some (v1, 2)
  else
  (loopM (impl_EmptyBox_L1 a0 a1 v1 v9) big (v1, 0)).bind (impl_EmptyBox_L1_k)
theorem impl_EmptyBox_ok (a0 : (List Thing)) (a1 : Int) (r : (List Thing) × Int) (hM : impl_EmptyBox a0 a1 = some r) :
    Con Try.prog 51 [.c (.rs 6 (a0.map Thing.enc)), .c (.v (.int .i64 a1))] [] (.tup [.c (.sl 1000), .c (.v (.int .i64 r.2))]) [] [(1000, .row 49 6 (r.1.map Thing.enc))] := by
  unfold impl_EmptyBox at hM
  refine cn (N := 59) (pids := []) Try_mixed Try.func51 (by kernel_rfl) (by kernel_rfl) (by kernel_rfl) rfl fun ρ g w R => ?_
  obtain ⟨v1, h2, hM⟩ := bind_some hM
  obtain ⟨v3, h4, hM⟩ := bind_some hM
  rcases cond_cases hM with ⟨h5, hM⟩ | ⟨h5, hM⟩
  · have hE : some (v1, 1) = some r := hM
    have hE := Option.some.inj hE
    subst hE
    exact pr R 9999 [.call false [] (.o (.c (.sl 0))) [] [(0, .row 49 6 (v1.map Thing.enc))], .call false [] (.o (.c (.v (.bool v3)))) [] [], .as 15 true] [.sw 0 1000] [] [1000] (And.intro (And.intro (con_sw 1000 0 (impl_copyThings_ok a0 v1 h2)) (rfl : ([] : List Nat) = [])) (And.intro (impl_isThing_ok a0 a1 v3 h4) (And.intro h5 True.intro))) (by kernel_rfl)
  · obtain ⟨v6, h7, hM⟩ := bind_some hM
    rcases cond_cases hM with ⟨h8, hM⟩ | ⟨h8, hM⟩
    · have hE : some (v1, 1) = some r := hM
      have hE := Option.some.inj hE
      subst hE
      exact pr R 9999 [.call false [] (.o (.c (.sl 0))) [] [(0, .row 49 6 (v1.map Thing.enc))], .call false [] (.o (.c (.v (.bool v3)))) [] [], .as 15 false, .call false [] (.o (.c (.v (.bool v6)))) [] [], .as 20 true] [.sw 0 1000] [] [1000] (And.intro (And.intro (con_sw 1000 0 (impl_copyThings_ok a0 v1 h2)) (rfl : ([] : List Nat) = [])) (And.intro (impl_isThing_ok a0 a1 v3 h4) (And.intro h5 (And.intro (impl_isBox_ok a0 a1 v6 h7) (And.intro h8 True.intro))))) (by kernel_rfl)
    · obtain ⟨v9, h10, hM⟩ := bind_some hM
      obtain ⟨v11, h12, hM⟩ := bind_some hM
      rcases cond_cases hM with ⟨h13, hM⟩ | ⟨h13, hM⟩
      · have hE : some (v1, 2) = some r := hM
        have hE := Option.some.inj hE
        subst hE
        exact pr R 9999 [.call false [] (.o (.c (.sl 0))) [] [(0, .row 49 6 (v1.map Thing.enc))], .call false [] (.o (.c (.v (.bool v3)))) [] [], .as 15 false, .call false [] (.o (.c (.v (.bool v6)))) [] [], .as 20 false, .call false [] (.o (.c (.v (.int .i64 v9)))) [] [], .call false [] (.o (.c (.v (.bool v11)))) [] [], .as 28 true] [.sw 0 1000] [] [1000] (And.intro (And.intro (con_sw 1000 0 (impl_copyThings_ok a0 v1 h2)) (rfl : ([] : List Nat) = [])) (And.intro (impl_isThing_ok a0 a1 v3 h4) (And.intro h5 (And.intro (impl_isBox_ok a0 a1 v6 h7) (And.intro h8 (And.intro (impl_FindThing_ok a0 a1 v9 h10) (And.intro (impl_IsLocked_ok a0 a1 v11 h12) (And.intro h13 True.intro)))))))) (by kernel_rfl)
      · obtain ⟨v14, h15, hM⟩ := bind_some hM
        rcases cond_cases hM with ⟨h16, hM⟩ | ⟨h16, hM⟩
        · have hE : some (v1, 2) = some r := hM
          have hE := Option.some.inj hE
          subst hE
          exact pr R 9999 [.call false [] (.o (.c (.sl 0))) [] [(0, .row 49 6 (v1.map Thing.enc))], .call false [] (.o (.c (.v (.bool v3)))) [] [], .as 15 false, .call false [] (.o (.c (.v (.bool v6)))) [] [], .as 20 false, .call false [] (.o (.c (.v (.int .i64 v9)))) [] [], .call false [] (.o (.c (.v (.bool v11)))) [] [], .as 28 false, .ix (Thing.enc v14), .as 34 true] [.sw 0 1000] [] [1000] (And.intro (And.intro (con_sw 1000 0 (impl_copyThings_ok a0 v1 h2)) (rfl : ([] : List Nat) = [])) (And.intro (impl_isThing_ok a0 a1 v3 h4) (And.intro h5 (And.intro (impl_isBox_ok a0 a1 v6 h7) (And.intro h8 (And.intro (impl_FindThing_ok a0 a1 v9 h10) (And.intro (impl_IsLocked_ok a0 a1 v11 h12) (And.intro h13 (And.intro (gi_map Thing.enc h15) (And.intro h16 True.intro)))))))))) (by kernel_rfl)
        · have K1 : ∀ (s19 : (List Thing)), impl_EmptyBox_L1_a s19 = some r → Gr R [.code (cAt Try.f51 [1, 1, 1, 1, 1, 1])] (⟨[(6, .o (.c (.sl 0)))], [(0, .row 49 6 (s19.map Thing.enc))]⟩) := by
            intro s19 hM
            unfold impl_EmptyBox_L1_a at hM
            have hE : some (s19, 0) = some r := hM
            have hE := Option.some.inj hE
            subst hE
            exact pr R 9999 [] [.sw 0 1000] [] [1000] True.intro (by kernel_rfl)
          refine pc R 9999 [.call false [] (.o (.c (.sl 0))) [] [(0, .row 49 6 (v1.map Thing.enc))], .call false [] (.o (.c (.v (.bool v3)))) [] [], .as 15 false, .call false [] (.o (.c (.v (.bool v6)))) [] [], .as 20 false, .call false [] (.o (.c (.v (.int .i64 v9)))) [] [], .call false [] (.o (.c (.v (.bool v11)))) [] [], .as 28 false, .ix (Thing.enc v14), .as 34 false, .ln (v1.length)] [.keep [0, 1, 6, 7, 37, 38] [0]] (k' := [.code (.loop (cAt Try.f51 [1, 1, 1, 1, 1, 0, 1, 0, 0])), .blk 0, .code (cAt Try.f51 [1, 1, 1, 1, 1, 1])]) (S' := impl_EmptyBox_L1_S a0 a1 v1 v9 (v1, 0)) (And.intro (And.intro (con_sw 1000 0 (impl_copyThings_ok a0 v1 h2)) (rfl : ([] : List Nat) = [])) (And.intro (impl_isThing_ok a0 a1 v3 h4) (And.intro h5 (And.intro (impl_isBox_ok a0 a1 v6 h7) (And.intro h8 (And.intro (impl_FindThing_ok a0 a1 v9 h10) (And.intro (impl_IsLocked_ok a0 a1 v11 h12) (And.intro h13 (And.intro (gi_map Thing.enc h15) (And.intro h16 (And.intro (lenm Thing.enc v1) True.intro))))))))))) (by kernel_rfl) ?_
          refine lq (impl_EmptyBox_L1_S a0 a1 v1 v9) (body := impl_EmptyBox_L1 a0 a1 v1 v9) (k := impl_EmptyBox_L1_k) hM fun m1 s c1 hM hK1 => ?_
          obtain ⟨s17, s18⟩ := s
          have hM : impl_EmptyBox_L1_b a0 a1 v1 v9 s17 s18 = some c1 := hM
          unfold impl_EmptyBox_L1_b at hM
          rcases cond_cases hM with ⟨h20, hM⟩ | ⟨h20, hM⟩
          · obtain ⟨v21, h22, hM⟩ := bind_some hM
            rcases cond_cases hM with ⟨h23, hM⟩ | ⟨h23, hM⟩
            · obtain ⟨v24, h25, hM⟩ := bind_some hM
              obtain ⟨v26, h27, hM⟩ := bind_some hM
              have hE : some (Ctl.next (List.set s17 (Int.toNat s18) (Thing.mk v26.Id v26.Own v26.Room v24.In v26.Box v26.Sealed), w64 (s18 + 1))) = some c1 := hM
              have hE := Option.some.inj hE
              subst hE
              exact pc R 9999 [.as 39 true, .ix (Thing.enc v21), .as 47 true, .ix (Thing.enc v24), .ix (Thing.enc v26), .nm ((List.set s17 (Int.toNat s18) (Thing.mk v26.Id v26.Own v26.Room v24.In v26.Box v26.Sealed)).map Thing.enc)] [.keep [0, 1, 6, 7, 37, 38] [0]] (And.intro h20 (And.intro (gi_lt Thing.enc h22) (And.intro ((gi_map Thing.enc h22).2) (And.intro h23 (And.intro (gi_map Thing.enc h25) (And.intro (gi_lt Thing.enc h27) (And.intro (And.intro (gi_map Thing.enc h27).2 (set_map Thing.enc s17 (Int.toNat s18) (Thing.mk v26.Id v26.Own v26.Room v24.In v26.Box v26.Sealed))) True.intro))))))) (by kernel_rfl) (li (Sf := impl_EmptyBox_L1_S a0 a1 v1 v9) (M := Mk (impl_EmptyBox_L1 a0 a1 v1 v9) (impl_EmptyBox_L1_k) r) (k := [.blk 0, .code (cAt Try.f51 [1, 1, 1, 1, 1, 1])]) (Nat.lt_succ_self m1) hK1)
            · have hE : some (Ctl.next (s17, w64 (s18 + 1))) = some c1 := hM
              have hE := Option.some.inj hE
              subst hE
              exact pc R 9999 [.as 39 true, .ix (Thing.enc v21), .as 47 false] [.keep [0, 1, 6, 7, 37, 38] [0]] (And.intro h20 (And.intro (gi_lt Thing.enc h22) (And.intro ((gi_map Thing.enc h22).2) (And.intro h23 True.intro)))) (by kernel_rfl) (li (Sf := impl_EmptyBox_L1_S a0 a1 v1 v9) (M := Mk (impl_EmptyBox_L1 a0 a1 v1 v9) (impl_EmptyBox_L1_k) r) (k := [.blk 0, .code (cAt Try.f51 [1, 1, 1, 1, 1, 1])]) (Nat.lt_succ_self m1) hK1)
          · have hE : some (Ctl.brk s17) = some c1 := hM
            have hE := Option.some.inj hE
            subst hE
            exact pc R 5 [.as 39 false] [.keep [6] [0]] (And.intro h20 True.intro) (by kernel_rfl) (K1 s17 hK1)

-- loop.example/g03014/laws.FnExactEmptyBox
def laws_FnExactEmptyBox (a0 : (List Thing)) (a1 : Int) : Option Bool :=
  (laws_szThingS a0 1048576).bind fun v1 =>
  bif (decide (v1 < 0)) then
  some true
  else
  (laws_toThingS a0).bind fun v4 =>
  (spec_EmptyBox v4 a1).bind fun v6 =>
  (laws_toThingS a0).bind fun v8 =>
  (impl_EmptyBox v8 a1).bind fun v10 =>
  (laws_eqThingS v10.1 v6.1).bind fun v12 =>
  bif (!v12) then
  some false
  else
  bif (v10.2 != v6.2) then
  some false
  else
  (laws_toThingS a0).bind fun v16 =>
  (laws_eqThingS v8 v16).bind fun v18 =>
  bif (!v18) then
  some false
  else
  (laws_markThingS v8 1).bind fun v21 =>
  bif (decide (v21.1 < 0)) then
  some false
  else
  (laws_eqThingS v10.1 v6.1).bind fun v24 =>
  bif (!v24) then
  some false
  else
  bif (v10.2 != v6.2) then
  some false
  else
  (laws_markThingS v10.1 1).bind fun v28 =>
  (laws_heldThingS v28.2 1).bind fun v30 =>
  bif (decide (v30 < 0)) then
  some false
  else
  bif (v30 != v28.1) then
  some false
  else
  (laws_toThingS a0).bind fun v34 =>
  (impl_EmptyBox v34 a1).bind fun v36 =>
  (laws_eqThingS v36.1 v6.1).bind fun v38 =>
  bif (!v38) then
  some false
  else
  bif (v36.2 != v6.2) then
  some false
  else
  (laws_heldThingS v28.2 1).bind fun v42 =>
  bif (decide (v42 < 0)) then
  some false
  else
  bif (v42 != v28.1) then
  some false
  else
  some true
theorem laws_FnExactEmptyBox_ok (a0 : (List Thing)) (a1 : Int) (r : Bool) (hM : laws_FnExactEmptyBox a0 a1 = some r) :
    Con Try.prog 13 [.c (.rs 6 (a0.map Thing.enc)), .c (.v (.int .i64 a1))] [] (.o (.c (.v (.bool r)))) [] [] := by
  unfold laws_FnExactEmptyBox at hM
  refine cn (N := 101) (pids := []) Try_mixed Try.func13 (by kernel_rfl) (by kernel_rfl) (by kernel_rfl) rfl fun ρ g w R => ?_
  obtain ⟨v1, h2, hM⟩ := bind_some hM
  rcases cond_cases hM with ⟨h3, hM⟩ | ⟨h3, hM⟩
  · have hE : some true = some r := hM
    have hE := Option.some.inj hE
    subst hE
    exact pr R 9999 [.call false [] (.o (.c (.v (.int .i64 v1)))) [] [], .as 20 true] [] [] [] (And.intro (laws_szThingS_ok a0 1048576 v1 h2) (And.intro h3 True.intro)) (by kernel_rfl)
  · obtain ⟨v4, h5, hM⟩ := bind_some hM
    obtain ⟨v6, h7, hM⟩ := bind_some hM
    obtain ⟨v8, h9, hM⟩ := bind_some hM
    obtain ⟨v10, h11, hM⟩ := bind_some hM
    obtain ⟨v12, h13, hM⟩ := bind_some hM
    rcases cond_cases hM with ⟨h14, hM⟩ | ⟨h14, hM⟩
    · have hE : some false = some r := hM
      have hE := Option.some.inj hE
      subst hE
      exact pr R 9999 [.call false [] (.o (.c (.v (.int .i64 v1)))) [] [], .as 20 false, .call false [] (.o (.c (.sl 0))) [] [(0, .row 49 6 (v4.map Thing.enc))], .call false [] (.tup [.c (.sl 1), .c (.v (.int .i64 v6.2))]) [] [(1, .row 49 6 (v6.1.map Thing.enc))], .call false [] (.o (.c (.sl 2))) [] [(2, .row 49 6 (v8.map Thing.enc))], .call false [] (.tup [.c (.sl 3), .c (.v (.int .i64 v10.2))]) [] [(3, .row 49 6 (v10.1.map Thing.enc))], .call false [] (.o (.c (.v (.bool v12)))) [] [], .as 40 true] [] [] [] (And.intro (laws_szThingS_ok a0 1048576 v1 h2) (And.intro h3 (And.intro (And.intro (con_sw 1000 0 (laws_toThingS_ok a0 v4 h5)) (rfl : ([] : List Nat) = [])) (And.intro (And.intro (con_sw 1000 1 (spec_EmptyBox_ok v4 a1 v6 h7)) (rfl : ([] : List Nat) = [])) (And.intro (And.intro (con_sw 1000 2 (laws_toThingS_ok a0 v8 h9)) (rfl : ([] : List Nat) = [])) (And.intro (And.intro (con_sw 1000 3 (impl_EmptyBox_ok v8 a1 v10 h11)) (rfl : ([] : List Nat) = [])) (And.intro (laws_eqThingS_ok v10.1 v6.1 v12 h13) (And.intro h14 True.intro)))))))) (by kernel_rfl)
    · rcases cond_cases hM with ⟨h15, hM⟩ | ⟨h15, hM⟩
      · have hE : some false = some r := hM
        have hE := Option.some.inj hE
        subst hE
        exact pr R 9999 [.call false [] (.o (.c (.v (.int .i64 v1)))) [] [], .as 20 false, .call false [] (.o (.c (.sl 0))) [] [(0, .row 49 6 (v4.map Thing.enc))], .call false [] (.tup [.c (.sl 1), .c (.v (.int .i64 v6.2))]) [] [(1, .row 49 6 (v6.1.map Thing.enc))], .call false [] (.o (.c (.sl 2))) [] [(2, .row 49 6 (v8.map Thing.enc))], .call false [] (.tup [.c (.sl 3), .c (.v (.int .i64 v10.2))]) [] [(3, .row 49 6 (v10.1.map Thing.enc))], .call false [] (.o (.c (.v (.bool v12)))) [] [], .as 40 false, .as 44 true] [] [] [] (And.intro (laws_szThingS_ok a0 1048576 v1 h2) (And.intro h3 (And.intro (And.intro (con_sw 1000 0 (laws_toThingS_ok a0 v4 h5)) (rfl : ([] : List Nat) = [])) (And.intro (And.intro (con_sw 1000 1 (spec_EmptyBox_ok v4 a1 v6 h7)) (rfl : ([] : List Nat) = [])) (And.intro (And.intro (con_sw 1000 2 (laws_toThingS_ok a0 v8 h9)) (rfl : ([] : List Nat) = [])) (And.intro (And.intro (con_sw 1000 3 (impl_EmptyBox_ok v8 a1 v10 h11)) (rfl : ([] : List Nat) = [])) (And.intro (laws_eqThingS_ok v10.1 v6.1 v12 h13) (And.intro h14 (And.intro h15 True.intro))))))))) (by kernel_rfl)
      · obtain ⟨v16, h17, hM⟩ := bind_some hM
        obtain ⟨v18, h19, hM⟩ := bind_some hM
        rcases cond_cases hM with ⟨h20, hM⟩ | ⟨h20, hM⟩
        · have hE : some false = some r := hM
          have hE := Option.some.inj hE
          subst hE
          exact pr R 9999 [.call false [] (.o (.c (.v (.int .i64 v1)))) [] [], .as 20 false, .call false [] (.o (.c (.sl 0))) [] [(0, .row 49 6 (v4.map Thing.enc))], .call false [] (.tup [.c (.sl 1), .c (.v (.int .i64 v6.2))]) [] [(1, .row 49 6 (v6.1.map Thing.enc))], .call false [] (.o (.c (.sl 2))) [] [(2, .row 49 6 (v8.map Thing.enc))], .call false [] (.tup [.c (.sl 3), .c (.v (.int .i64 v10.2))]) [] [(3, .row 49 6 (v10.1.map Thing.enc))], .call false [] (.o (.c (.v (.bool v12)))) [] [], .as 40 false, .as 44 false, .call false [] (.o (.c (.sl 4))) [] [(4, .row 49 6 (v16.map Thing.enc))], .call false [] (.o (.c (.v (.bool v18)))) [] [], .as 49 true] [] [] [] (And.intro (laws_szThingS_ok a0 1048576 v1 h2) (And.intro h3 (And.intro (And.intro (con_sw 1000 0 (laws_toThingS_ok a0 v4 h5)) (rfl : ([] : List Nat) = [])) (And.intro (And.intro (con_sw 1000 1 (spec_EmptyBox_ok v4 a1 v6 h7)) (rfl : ([] : List Nat) = [])) (And.intro (And.intro (con_sw 1000 2 (laws_toThingS_ok a0 v8 h9)) (rfl : ([] : List Nat) = [])) (And.intro (And.intro (con_sw 1000 3 (impl_EmptyBox_ok v8 a1 v10 h11)) (rfl : ([] : List Nat) = [])) (And.intro (laws_eqThingS_ok v10.1 v6.1 v12 h13) (And.intro h14 (And.intro h15 (And.intro (And.intro (con_sw 1000 4 (laws_toThingS_ok a0 v16 h17)) (rfl : ([] : List Nat) = [])) (And.intro (laws_eqThingS_ok v8 v16 v18 h19) (And.intro h20 True.intro)))))))))))) (by kernel_rfl)
        · obtain ⟨v21, h22, hM⟩ := bind_some hM
          rcases cond_cases hM with ⟨h23, hM⟩ | ⟨h23, hM⟩
          · have hE : some false = some r := hM
            have hE := Option.some.inj hE
            subst hE
            exact pr R 9999 [.call false [] (.o (.c (.v (.int .i64 v1)))) [] [], .as 20 false, .call false [] (.o (.c (.sl 0))) [] [(0, .row 49 6 (v4.map Thing.enc))], .call false [] (.tup [.c (.sl 1), .c (.v (.int .i64 v6.2))]) [] [(1, .row 49 6 (v6.1.map Thing.enc))], .call false [] (.o (.c (.sl 2))) [] [(2, .row 49 6 (v8.map Thing.enc))], .call false [] (.tup [.c (.sl 3), .c (.v (.int .i64 v10.2))]) [] [(3, .row 49 6 (v10.1.map Thing.enc))], .call false [] (.o (.c (.v (.bool v12)))) [] [], .as 40 false, .as 44 false, .call false [] (.o (.c (.sl 4))) [] [(4, .row 49 6 (v16.map Thing.enc))], .call false [] (.o (.c (.v (.bool v18)))) [] [], .as 49 false, .call false [2] (.o (.c (.v (.int .i64 v21.1)))) [(2, .row 49 6 (v21.2.map Thing.enc))] [], .as 55 true] [] [] [] (And.intro (laws_szThingS_ok a0 1048576 v1 h2) (And.intro h3 (And.intro (And.intro (con_sw 1000 0 (laws_toThingS_ok a0 v4 h5)) (rfl : ([] : List Nat) = [])) (And.intro (And.intro (con_sw 1000 1 (spec_EmptyBox_ok v4 a1 v6 h7)) (rfl : ([] : List Nat) = [])) (And.intro (And.intro (con_sw 1000 2 (laws_toThingS_ok a0 v8 h9)) (rfl : ([] : List Nat) = [])) (And.intro (And.intro (con_sw 1000 3 (impl_EmptyBox_ok v8 a1 v10 h11)) (rfl : ([] : List Nat) = [])) (And.intro (laws_eqThingS_ok v10.1 v6.1 v12 h13) (And.intro h14 (And.intro h15 (And.intro (And.intro (con_sw 1000 4 (laws_toThingS_ok a0 v16 h17)) (rfl : ([] : List Nat) = [])) (And.intro (laws_eqThingS_ok v8 v16 v18 h19) (And.intro h20 (And.intro (And.intro (con_sw 900 2 (laws_markThingS_ok v8 1 v21 h22)) (rfl : ([2] : List Nat) = [2])) (And.intro h23 True.intro)))))))))))))) (by kernel_rfl)
          · obtain ⟨v24, h25, hM⟩ := bind_some hM
            rcases cond_cases hM with ⟨h26, hM⟩ | ⟨h26, hM⟩
            · have hE : some false = some r := hM
              have hE := Option.some.inj hE
              subst hE
              exact pr R 9999 [.call false [] (.o (.c (.v (.int .i64 v1)))) [] [], .as 20 false, .call false [] (.o (.c (.sl 0))) [] [(0, .row 49 6 (v4.map Thing.enc))], .call false [] (.tup [.c (.sl 1), .c (.v (.int .i64 v6.2))]) [] [(1, .row 49 6 (v6.1.map Thing.enc))], .call false [] (.o (.c (.sl 2))) [] [(2, .row 49 6 (v8.map Thing.enc))], .call false [] (.tup [.c (.sl 3), .c (.v (.int .i64 v10.2))]) [] [(3, .row 49 6 (v10.1.map Thing.enc))], .call false [] (.o (.c (.v (.bool v12)))) [] [], .as 40 false, .as 44 false, .call false [] (.o (.c (.sl 4))) [] [(4, .row 49 6 (v16.map Thing.enc))], .call false [] (.o (.c (.v (.bool v18)))) [] [], .as 49 false, .call false [2] (.o (.c (.v (.int .i64 v21.1)))) [(2, .row 49 6 (v21.2.map Thing.enc))] [], .as 55 false, .call false [] (.o (.c (.v (.bool v24)))) [] [], .as 61 true] [] [] [] (And.intro (laws_szThingS_ok a0 1048576 v1 h2) (And.intro h3 (And.intro (And.intro (con_sw 1000 0 (laws_toThingS_ok a0 v4 h5)) (rfl : ([] : List Nat) = [])) (And.intro (And.intro (con_sw 1000 1 (spec_EmptyBox_ok v4 a1 v6 h7)) (rfl : ([] : List Nat) = [])) (And.intro (And.intro (con_sw 1000 2 (laws_toThingS_ok a0 v8 h9)) (rfl : ([] : List Nat) = [])) (And.intro (And.intro (con_sw 1000 3 (impl_EmptyBox_ok v8 a1 v10 h11)) (rfl : ([] : List Nat) = [])) (And.intro (laws_eqThingS_ok v10.1 v6.1 v12 h13) (And.intro h14 (And.intro h15 (And.intro (And.intro (con_sw 1000 4 (laws_toThingS_ok a0 v16 h17)) (rfl : ([] : List Nat) = [])) (And.intro (laws_eqThingS_ok v8 v16 v18 h19) (And.intro h20 (And.intro (And.intro (con_sw 900 2 (laws_markThingS_ok v8 1 v21 h22)) (rfl : ([2] : List Nat) = [2])) (And.intro h23 (And.intro (laws_eqThingS_ok v10.1 v6.1 v24 h25) (And.intro h26 True.intro)))))))))))))))) (by kernel_rfl)
            · rcases cond_cases hM with ⟨h27, hM⟩ | ⟨h27, hM⟩
              · have hE : some false = some r := hM
                have hE := Option.some.inj hE
                subst hE
                exact pr R 9999 [.call false [] (.o (.c (.v (.int .i64 v1)))) [] [], .as 20 false, .call false [] (.o (.c (.sl 0))) [] [(0, .row 49 6 (v4.map Thing.enc))], .call false [] (.tup [.c (.sl 1), .c (.v (.int .i64 v6.2))]) [] [(1, .row 49 6 (v6.1.map Thing.enc))], .call false [] (.o (.c (.sl 2))) [] [(2, .row 49 6 (v8.map Thing.enc))], .call false [] (.tup [.c (.sl 3), .c (.v (.int .i64 v10.2))]) [] [(3, .row 49 6 (v10.1.map Thing.enc))], .call false [] (.o (.c (.v (.bool v12)))) [] [], .as 40 false, .as 44 false, .call false [] (.o (.c (.sl 4))) [] [(4, .row 49 6 (v16.map Thing.enc))], .call false [] (.o (.c (.v (.bool v18)))) [] [], .as 49 false, .call false [2] (.o (.c (.v (.int .i64 v21.1)))) [(2, .row 49 6 (v21.2.map Thing.enc))] [], .as 55 false, .call false [] (.o (.c (.v (.bool v24)))) [] [], .as 61 false, .as 65 true] [] [] [] (And.intro (laws_szThingS_ok a0 1048576 v1 h2) (And.intro h3 (And.intro (And.intro (con_sw 1000 0 (laws_toThingS_ok a0 v4 h5)) (rfl : ([] : List Nat) = [])) (And.intro (And.intro (con_sw 1000 1 (spec_EmptyBox_ok v4 a1 v6 h7)) (rfl : ([] : List Nat) = [])) (And.intro (And.intro (con_sw 1000 2 (laws_toThingS_ok a0 v8 h9)) (rfl : ([] : List Nat) = [])) (And.intro (And.intro (con_sw 1000 3 (impl_EmptyBox_ok v8 a1 v10 h11)) (rfl : ([] : List Nat) = [])) (And.intro (laws_eqThingS_ok v10.1 v6.1 v12 h13) (And.intro h14 (And.intro h15 (And.intro (And.intro (con_sw 1000 4 (laws_toThingS_ok a0 v16 h17)) (rfl : ([] : List Nat) = [])) (And.intro (laws_eqThingS_ok v8 v16 v18 h19) (And.intro h20 (And.intro (And.intro (con_sw 900 2 (laws_markThingS_ok v8 1 v21 h22)) (rfl : ([2] : List Nat) = [2])) (And.intro h23 (And.intro (laws_eqThingS_ok v10.1 v6.1 v24 h25) (And.intro h26 (And.intro h27 True.intro))))))))))))))))) (by kernel_rfl)
              · obtain ⟨v28, h29, hM⟩ := bind_some hM
                obtain ⟨v30, h31, hM⟩ := bind_some hM
                rcases cond_cases hM with ⟨h32, hM⟩ | ⟨h32, hM⟩
                · have hE : some false = some r := hM
                  have hE := Option.some.inj hE
                  subst hE
                  exact pr R 9999 [.call false [] (.o (.c (.v (.int .i64 v1)))) [] [], .as 20 false, .call false [] (.o (.c (.sl 0))) [] [(0, .row 49 6 (v4.map Thing.enc))], .call false [] (.tup [.c (.sl 1), .c (.v (.int .i64 v6.2))]) [] [(1, .row 49 6 (v6.1.map Thing.enc))], .call false [] (.o (.c (.sl 2))) [] [(2, .row 49 6 (v8.map Thing.enc))], .call false [] (.tup [.c (.sl 3), .c (.v (.int .i64 v10.2))]) [] [(3, .row 49 6 (v10.1.map Thing.enc))], .call false [] (.o (.c (.v (.bool v12)))) [] [], .as 40 false, .as 44 false, .call false [] (.o (.c (.sl 4))) [] [(4, .row 49 6 (v16.map Thing.enc))], .call false [] (.o (.c (.v (.bool v18)))) [] [], .as 49 false, .call false [2] (.o (.c (.v (.int .i64 v21.1)))) [(2, .row 49 6 (v21.2.map Thing.enc))] [], .as 55 false, .call false [] (.o (.c (.v (.bool v24)))) [] [], .as 61 false, .as 65 false, .call false [3] (.o (.c (.v (.int .i64 v28.1)))) [(3, .row 49 6 (v28.2.map Thing.enc))] [], .call false [] (.o (.c (.v (.int .i64 v30)))) [] [], .as 73 true] [] [] [] (And.intro (laws_szThingS_ok a0 1048576 v1 h2) (And.intro h3 (And.intro (And.intro (con_sw 1000 0 (laws_toThingS_ok a0 v4 h5)) (rfl : ([] : List Nat) = [])) (And.intro (And.intro (con_sw 1000 1 (spec_EmptyBox_ok v4 a1 v6 h7)) (rfl : ([] : List Nat) = [])) (And.intro (And.intro (con_sw 1000 2 (laws_toThingS_ok a0 v8 h9)) (rfl : ([] : List Nat) = [])) (And.intro (And.intro (con_sw 1000 3 (impl_EmptyBox_ok v8 a1 v10 h11)) (rfl : ([] : List Nat) = [])) (And.intro (laws_eqThingS_ok v10.1 v6.1 v12 h13) (And.intro h14 (And.intro h15 (And.intro (And.intro (con_sw 1000 4 (laws_toThingS_ok a0 v16 h17)) (rfl : ([] : List Nat) = [])) (And.intro (laws_eqThingS_ok v8 v16 v18 h19) (And.intro h20 (And.intro (And.intro (con_sw 900 2 (laws_markThingS_ok v8 1 v21 h22)) (rfl : ([2] : List Nat) = [2])) (And.intro h23 (And.intro (laws_eqThingS_ok v10.1 v6.1 v24 h25) (And.intro h26 (And.intro h27 (And.intro (And.intro (con_sw 900 3 (laws_markThingS_ok v10.1 1 v28 h29)) (rfl : ([3] : List Nat) = [3])) (And.intro (laws_heldThingS_ok v28.2 1 v30 h31) (And.intro h32 True.intro)))))))))))))))))))) (by kernel_rfl)
                · rcases cond_cases hM with ⟨h33, hM⟩ | ⟨h33, hM⟩
                  · have hE : some false = some r := hM
                    have hE := Option.some.inj hE
                    subst hE
                    exact pr R 9999 [.call false [] (.o (.c (.v (.int .i64 v1)))) [] [], .as 20 false, .call false [] (.o (.c (.sl 0))) [] [(0, .row 49 6 (v4.map Thing.enc))], .call false [] (.tup [.c (.sl 1), .c (.v (.int .i64 v6.2))]) [] [(1, .row 49 6 (v6.1.map Thing.enc))], .call false [] (.o (.c (.sl 2))) [] [(2, .row 49 6 (v8.map Thing.enc))], .call false [] (.tup [.c (.sl 3), .c (.v (.int .i64 v10.2))]) [] [(3, .row 49 6 (v10.1.map Thing.enc))], .call false [] (.o (.c (.v (.bool v12)))) [] [], .as 40 false, .as 44 false, .call false [] (.o (.c (.sl 4))) [] [(4, .row 49 6 (v16.map Thing.enc))], .call false [] (.o (.c (.v (.bool v18)))) [] [], .as 49 false, .call false [2] (.o (.c (.v (.int .i64 v21.1)))) [(2, .row 49 6 (v21.2.map Thing.enc))] [], .as 55 false, .call false [] (.o (.c (.v (.bool v24)))) [] [], .as 61 false, .as 65 false, .call false [3] (.o (.c (.v (.int .i64 v28.1)))) [(3, .row 49 6 (v28.2.map Thing.enc))] [], .call false [] (.o (.c (.v (.int .i64 v30)))) [] [], .as 73 false, .as 76 true] [] [] [] (And.intro (laws_szThingS_ok a0 1048576 v1 h2) (And.intro h3 (And.intro (And.intro (con_sw 1000 0 (laws_toThingS_ok a0 v4 h5)) (rfl : ([] : List Nat) = [])) (And.intro (And.intro (con_sw 1000 1 (spec_EmptyBox_ok v4 a1 v6 h7)) (rfl : ([] : List Nat) = [])) (And.intro (And.intro (con_sw 1000 2 (laws_toThingS_ok a0 v8 h9)) (rfl : ([] : List Nat) = [])) (And.intro (And.intro (con_sw 1000 3 (impl_EmptyBox_ok v8 a1 v10 h11)) (rfl : ([] : List Nat) = [])) (And.intro (laws_eqThingS_ok v10.1 v6.1 v12 h13) (And.intro h14 (And.intro h15 (And.intro (And.intro (con_sw 1000 4 (laws_toThingS_ok a0 v16 h17)) (rfl : ([] : List Nat) = [])) (And.intro (laws_eqThingS_ok v8 v16 v18 h19) (And.intro h20 (And.intro (And.intro (con_sw 900 2 (laws_markThingS_ok v8 1 v21 h22)) (rfl : ([2] : List Nat) = [2])) (And.intro h23 (And.intro (laws_eqThingS_ok v10.1 v6.1 v24 h25) (And.intro h26 (And.intro h27 (And.intro (And.intro (con_sw 900 3 (laws_markThingS_ok v10.1 1 v28 h29)) (rfl : ([3] : List Nat) = [3])) (And.intro (laws_heldThingS_ok v28.2 1 v30 h31) (And.intro h32 (And.intro h33 True.intro))))))))))))))))))))) (by kernel_rfl)
                  · obtain ⟨v34, h35, hM⟩ := bind_some hM
                    obtain ⟨v36, h37, hM⟩ := bind_some hM
                    obtain ⟨v38, h39, hM⟩ := bind_some hM
                    rcases cond_cases hM with ⟨h40, hM⟩ | ⟨h40, hM⟩
                    · have hE : some false = some r := hM
                      have hE := Option.some.inj hE
                      subst hE
                      exact pr R 9999 [.call false [] (.o (.c (.v (.int .i64 v1)))) [] [], .as 20 false, .call false [] (.o (.c (.sl 0))) [] [(0, .row 49 6 (v4.map Thing.enc))], .call false [] (.tup [.c (.sl 1), .c (.v (.int .i64 v6.2))]) [] [(1, .row 49 6 (v6.1.map Thing.enc))], .call false [] (.o (.c (.sl 2))) [] [(2, .row 49 6 (v8.map Thing.enc))], .call false [] (.tup [.c (.sl 3), .c (.v (.int .i64 v10.2))]) [] [(3, .row 49 6 (v10.1.map Thing.enc))], .call false [] (.o (.c (.v (.bool v12)))) [] [], .as 40 false, .as 44 false, .call false [] (.o (.c (.sl 4))) [] [(4, .row 49 6 (v16.map Thing.enc))], .call false [] (.o (.c (.v (.bool v18)))) [] [], .as 49 false, .call false [2] (.o (.c (.v (.int .i64 v21.1)))) [(2, .row 49 6 (v21.2.map Thing.enc))] [], .as 55 false, .call false [] (.o (.c (.v (.bool v24)))) [] [], .as 61 false, .as 65 false, .call false [3] (.o (.c (.v (.int .i64 v28.1)))) [(3, .row 49 6 (v28.2.map Thing.enc))] [], .call false [] (.o (.c (.v (.int .i64 v30)))) [] [], .as 73 false, .as 76 false, .call false [] (.o (.c (.sl 5))) [] [(5, .row 49 6 (v34.map Thing.enc))], .call false [] (.tup [.c (.sl 6), .c (.v (.int .i64 v36.2))]) [] [(6, .row 49 6 (v36.1.map Thing.enc))], .call false [] (.o (.c (.v (.bool v38)))) [] [], .as 88 true] [] [] [] (And.intro (laws_szThingS_ok a0 1048576 v1 h2) (And.intro h3 (And.intro (And.intro (con_sw 1000 0 (laws_toThingS_ok a0 v4 h5)) (rfl : ([] : List Nat) = [])) (And.intro (And.intro (con_sw 1000 1 (spec_EmptyBox_ok v4 a1 v6 h7)) (rfl : ([] : List Nat) = [])) (And.intro (And.intro (con_sw 1000 2 (laws_toThingS_ok a0 v8 h9)) (rfl : ([] : List Nat) = [])) (And.intro (And.intro (con_sw 1000 3 (impl_EmptyBox_ok v8 a1 v10 h11)) (rfl : ([] : List Nat) = [])) (And.intro (laws_eqThingS_ok v10.1 v6.1 v12 h13) (And.intro h14 (And.intro h15 (And.intro (And.intro (con_sw 1000 4 (laws_toThingS_ok a0 v16 h17)) (rfl : ([] : List Nat) = [])) (And.intro (laws_eqThingS_ok v8 v16 v18 h19) (And.intro h20 (And.intro (And.intro (con_sw 900 2 (laws_markThingS_ok v8 1 v21 h22)) (rfl : ([2] : List Nat) = [2])) (And.intro h23 (And.intro (laws_eqThingS_ok v10.1 v6.1 v24 h25) (And.intro h26 (And.intro h27 (And.intro (And.intro (con_sw 900 3 (laws_markThingS_ok v10.1 1 v28 h29)) (rfl : ([3] : List Nat) = [3])) (And.intro (laws_heldThingS_ok v28.2 1 v30 h31) (And.intro h32 (And.intro h33 (And.intro (And.intro (con_sw 1000 5 (laws_toThingS_ok a0 v34 h35)) (rfl : ([] : List Nat) = [])) (And.intro (And.intro (con_sw 1000 6 (impl_EmptyBox_ok v34 a1 v36 h37)) (rfl : ([] : List Nat) = [])) (And.intro (laws_eqThingS_ok v36.1 v6.1 v38 h39) (And.intro h40 True.intro))))))))))))))))))))))))) (by kernel_rfl)
                    · rcases cond_cases hM with ⟨h41, hM⟩ | ⟨h41, hM⟩
                      · have hE : some false = some r := hM
                        have hE := Option.some.inj hE
                        subst hE
                        exact pr R 9999 [.call false [] (.o (.c (.v (.int .i64 v1)))) [] [], .as 20 false, .call false [] (.o (.c (.sl 0))) [] [(0, .row 49 6 (v4.map Thing.enc))], .call false [] (.tup [.c (.sl 1), .c (.v (.int .i64 v6.2))]) [] [(1, .row 49 6 (v6.1.map Thing.enc))], .call false [] (.o (.c (.sl 2))) [] [(2, .row 49 6 (v8.map Thing.enc))], .call false [] (.tup [.c (.sl 3), .c (.v (.int .i64 v10.2))]) [] [(3, .row 49 6 (v10.1.map Thing.enc))], .call false [] (.o (.c (.v (.bool v12)))) [] [], .as 40 false, .as 44 false, .call false [] (.o (.c (.sl 4))) [] [(4, .row 49 6 (v16.map Thing.enc))], .call false [] (.o (.c (.v (.bool v18)))) [] [], .as 49 false, .call false [2] (.o (.c (.v (.int .i64 v21.1)))) [(2, .row 49 6 (v21.2.map Thing.enc))] [], .as 55 false, .call false [] (.o (.c (.v (.bool v24)))) [] [], .as 61 false, .as 65 false, .call false [3] (.o (.c (.v (.int .i64 v28.1)))) [(3, .row 49 6 (v28.2.map Thing.enc))] [], .call false [] (.o (.c (.v (.int .i64 v30)))) [] [], .as 73 false, .as 76 false, .call false [] (.o (.c (.sl 5))) [] [(5, .row 49 6 (v34.map Thing.enc))], .call false [] (.tup [.c (.sl 6), .c (.v (.int .i64 v36.2))]) [] [(6, .row 49 6 (v36.1.map Thing.enc))], .call false [] (.o (.c (.v (.bool v38)))) [] [], .as 88 false, .as 92 true] [] [] [] (And.intro (laws_szThingS_ok a0 1048576 v1 h2) (And.intro h3 (And.intro (And.intro (con_sw 1000 0 (laws_toThingS_ok a0 v4 h5)) (rfl : ([] : List Nat) = [])) (And.intro (And.intro (con_sw 1000 1 (spec_EmptyBox_ok v4 a1 v6 h7)) (rfl : ([] : List Nat) = [])) (And.intro (And.intro (con_sw 1000 2 (laws_toThingS_ok a0 v8 h9)) (rfl : ([] : List Nat) = [])) (And.intro (And.intro (con_sw 1000 3 (impl_EmptyBox_ok v8 a1 v10 h11)) (rfl : ([] : List Nat) = [])) (And.intro (laws_eqThingS_ok v10.1 v6.1 v12 h13) (And.intro h14 (And.intro h15 (And.intro (And.intro (con_sw 1000 4 (laws_toThingS_ok a0 v16 h17)) (rfl : ([] : List Nat) = [])) (And.intro (laws_eqThingS_ok v8 v16 v18 h19) (And.intro h20 (And.intro (And.intro (con_sw 900 2 (laws_markThingS_ok v8 1 v21 h22)) (rfl : ([2] : List Nat) = [2])) (And.intro h23 (And.intro (laws_eqThingS_ok v10.1 v6.1 v24 h25) (And.intro h26 (And.intro h27 (And.intro (And.intro (con_sw 900 3 (laws_markThingS_ok v10.1 1 v28 h29)) (rfl : ([3] : List Nat) = [3])) (And.intro (laws_heldThingS_ok v28.2 1 v30 h31) (And.intro h32 (And.intro h33 (And.intro (And.intro (con_sw 1000 5 (laws_toThingS_ok a0 v34 h35)) (rfl : ([] : List Nat) = [])) (And.intro (And.intro (con_sw 1000 6 (impl_EmptyBox_ok v34 a1 v36 h37)) (rfl : ([] : List Nat) = [])) (And.intro (laws_eqThingS_ok v36.1 v6.1 v38 h39) (And.intro h40 (And.intro h41 True.intro)))))))))))))))))))))))))) (by kernel_rfl)
                      · obtain ⟨v42, h43, hM⟩ := bind_some hM
                        rcases cond_cases hM with ⟨h44, hM⟩ | ⟨h44, hM⟩
                        · have hE : some false = some r := hM
                          have hE := Option.some.inj hE
                          subst hE
                          exact pr R 9999 [.call false [] (.o (.c (.v (.int .i64 v1)))) [] [], .as 20 false, .call false [] (.o (.c (.sl 0))) [] [(0, .row 49 6 (v4.map Thing.enc))], .call false [] (.tup [.c (.sl 1), .c (.v (.int .i64 v6.2))]) [] [(1, .row 49 6 (v6.1.map Thing.enc))], .call false [] (.o (.c (.sl 2))) [] [(2, .row 49 6 (v8.map Thing.enc))], .call false [] (.tup [.c (.sl 3), .c (.v (.int .i64 v10.2))]) [] [(3, .row 49 6 (v10.1.map Thing.enc))], .call false [] (.o (.c (.v (.bool v12)))) [] [], .as 40 false, .as 44 false, .call false [] (.o (.c (.sl 4))) [] [(4, .row 49 6 (v16.map Thing.enc))], .call false [] (.o (.c (.v (.bool v18)))) [] [], .as 49 false, .call false [2] (.o (.c (.v (.int .i64 v21.1)))) [(2, .row 49 6 (v21.2.map Thing.enc))] [], .as 55 false, .call false [] (.o (.c (.v (.bool v24)))) [] [], .as 61 false, .as 65 false, .call false [3] (.o (.c (.v (.int .i64 v28.1)))) [(3, .row 49 6 (v28.2.map Thing.enc))] [], .call false [] (.o (.c (.v (.int .i64 v30)))) [] [], .as 73 false, .as 76 false, .call false [] (.o (.c (.sl 5))) [] [(5, .row 49 6 (v34.map Thing.enc))], .call false [] (.tup [.c (.sl 6), .c (.v (.int .i64 v36.2))]) [] [(6, .row 49 6 (v36.1.map Thing.enc))], .call false [] (.o (.c (.v (.bool v38)))) [] [], .as 88 false, .as 92 false, .call false [] (.o (.c (.v (.int .i64 v42)))) [] [], .as 97 true] [] [] [] (And.intro (laws_szThingS_ok a0 1048576 v1 h2) (And.intro h3 (And.intro (And.intro (con_sw 1000 0 (laws_toThingS_ok a0 v4 h5)) (rfl : ([] : List Nat) = [])) (And.intro (And.intro (con_sw 1000 1 (spec_EmptyBox_ok v4 a1 v6 h7)) (rfl : ([] : List Nat) = [])) (And.intro (And.intro (con_sw 1000 2 (laws_toThingS_ok a0 v8 h9)) (rfl : ([] : List Nat) = [])) (And.intro (And.intro (con_sw 1000 3 (impl_EmptyBox_ok v8 a1 v10 h11)) (rfl : ([] : List Nat) = [])) (And.intro (laws_eqThingS_ok v10.1 v6.1 v12 h13) (And.intro h14 (And.intro h15 (And.intro (And.intro (con_sw 1000 4 (laws_toThingS_ok a0 v16 h17)) (rfl : ([] : List Nat) = [])) (And.intro (laws_eqThingS_ok v8 v16 v18 h19) (And.intro h20 (And.intro (And.intro (con_sw 900 2 (laws_markThingS_ok v8 1 v21 h22)) (rfl : ([2] : List Nat) = [2])) (And.intro h23 (And.intro (laws_eqThingS_ok v10.1 v6.1 v24 h25) (And.intro h26 (And.intro h27 (And.intro (And.intro (con_sw 900 3 (laws_markThingS_ok v10.1 1 v28 h29)) (rfl : ([3] : List Nat) = [3])) (And.intro (laws_heldThingS_ok v28.2 1 v30 h31) (And.intro h32 (And.intro h33 (And.intro (And.intro (con_sw 1000 5 (laws_toThingS_ok a0 v34 h35)) (rfl : ([] : List Nat) = [])) (And.intro (And.intro (con_sw 1000 6 (impl_EmptyBox_ok v34 a1 v36 h37)) (rfl : ([] : List Nat) = [])) (And.intro (laws_eqThingS_ok v36.1 v6.1 v38 h39) (And.intro h40 (And.intro h41 (And.intro (laws_heldThingS_ok v28.2 1 v42 h43) (And.intro h44 True.intro)))))))))))))))))))))))))))) (by kernel_rfl)
                        · rcases cond_cases hM with ⟨h45, hM⟩ | ⟨h45, hM⟩
                          · have hE : some false = some r := hM
                            have hE := Option.some.inj hE
                            subst hE
                            exact pr R 9999 [.call false [] (.o (.c (.v (.int .i64 v1)))) [] [], .as 20 false, .call false [] (.o (.c (.sl 0))) [] [(0, .row 49 6 (v4.map Thing.enc))], .call false [] (.tup [.c (.sl 1), .c (.v (.int .i64 v6.2))]) [] [(1, .row 49 6 (v6.1.map Thing.enc))], .call false [] (.o (.c (.sl 2))) [] [(2, .row 49 6 (v8.map Thing.enc))], .call false [] (.tup [.c (.sl 3), .c (.v (.int .i64 v10.2))]) [] [(3, .row 49 6 (v10.1.map Thing.enc))], .call false [] (.o (.c (.v (.bool v12)))) [] [], .as 40 false, .as 44 false, .call false [] (.o (.c (.sl 4))) [] [(4, .row 49 6 (v16.map Thing.enc))], .call false [] (.o (.c (.v (.bool v18)))) [] [], .as 49 false, .call false [2] (.o (.c (.v (.int .i64 v21.1)))) [(2, .row 49 6 (v21.2.map Thing.enc))] [], .as 55 false, .call false [] (.o (.c (.v (.bool v24)))) [] [], .as 61 false, .as 65 false, .call false [3] (.o (.c (.v (.int .i64 v28.1)))) [(3, .row 49 6 (v28.2.map Thing.enc))] [], .call false [] (.o (.c (.v (.int .i64 v30)))) [] [], .as 73 false, .as 76 false, .call false [] (.o (.c (.sl 5))) [] [(5, .row 49 6 (v34.map Thing.enc))], .call false [] (.tup [.c (.sl 6), .c (.v (.int .i64 v36.2))]) [] [(6, .row 49 6 (v36.1.map Thing.enc))], .call false [] (.o (.c (.v (.bool v38)))) [] [], .as 88 false, .as 92 false, .call false [] (.o (.c (.v (.int .i64 v42)))) [] [], .as 97 false, .as 100 true] [] [] [] (And.intro (laws_szThingS_ok a0 1048576 v1 h2) (And.intro h3 (And.intro (And.intro (con_sw 1000 0 (laws_toThingS_ok a0 v4 h5)) (rfl : ([] : List Nat) = [])) (And.intro (And.intro (con_sw 1000 1 (spec_EmptyBox_ok v4 a1 v6 h7)) (rfl : ([] : List Nat) = [])) (And.intro (And.intro (con_sw 1000 2 (laws_toThingS_ok a0 v8 h9)) (rfl : ([] : List Nat) = [])) (And.intro (And.intro (con_sw 1000 3 (impl_EmptyBox_ok v8 a1 v10 h11)) (rfl : ([] : List Nat) = [])) (And.intro (laws_eqThingS_ok v10.1 v6.1 v12 h13) (And.intro h14 (And.intro h15 (And.intro (And.intro (con_sw 1000 4 (laws_toThingS_ok a0 v16 h17)) (rfl : ([] : List Nat) = [])) (And.intro (laws_eqThingS_ok v8 v16 v18 h19) (And.intro h20 (And.intro (And.intro (con_sw 900 2 (laws_markThingS_ok v8 1 v21 h22)) (rfl : ([2] : List Nat) = [2])) (And.intro h23 (And.intro (laws_eqThingS_ok v10.1 v6.1 v24 h25) (And.intro h26 (And.intro h27 (And.intro (And.intro (con_sw 900 3 (laws_markThingS_ok v10.1 1 v28 h29)) (rfl : ([3] : List Nat) = [3])) (And.intro (laws_heldThingS_ok v28.2 1 v30 h31) (And.intro h32 (And.intro h33 (And.intro (And.intro (con_sw 1000 5 (laws_toThingS_ok a0 v34 h35)) (rfl : ([] : List Nat) = [])) (And.intro (And.intro (con_sw 1000 6 (impl_EmptyBox_ok v34 a1 v36 h37)) (rfl : ([] : List Nat) = [])) (And.intro (laws_eqThingS_ok v36.1 v6.1 v38 h39) (And.intro h40 (And.intro h41 (And.intro (laws_heldThingS_ok v28.2 1 v42 h43) (And.intro h44 (And.intro h45 True.intro))))))))))))))))))))))))))))) (by kernel_rfl)
                          · have hE : some true = some r := hM
                            have hE := Option.some.inj hE
                            subst hE
                            exact pr R 9999 [.call false [] (.o (.c (.v (.int .i64 v1)))) [] [], .as 20 false, .call false [] (.o (.c (.sl 0))) [] [(0, .row 49 6 (v4.map Thing.enc))], .call false [] (.tup [.c (.sl 1), .c (.v (.int .i64 v6.2))]) [] [(1, .row 49 6 (v6.1.map Thing.enc))], .call false [] (.o (.c (.sl 2))) [] [(2, .row 49 6 (v8.map Thing.enc))], .call false [] (.tup [.c (.sl 3), .c (.v (.int .i64 v10.2))]) [] [(3, .row 49 6 (v10.1.map Thing.enc))], .call false [] (.o (.c (.v (.bool v12)))) [] [], .as 40 false, .as 44 false, .call false [] (.o (.c (.sl 4))) [] [(4, .row 49 6 (v16.map Thing.enc))], .call false [] (.o (.c (.v (.bool v18)))) [] [], .as 49 false, .call false [2] (.o (.c (.v (.int .i64 v21.1)))) [(2, .row 49 6 (v21.2.map Thing.enc))] [], .as 55 false, .call false [] (.o (.c (.v (.bool v24)))) [] [], .as 61 false, .as 65 false, .call false [3] (.o (.c (.v (.int .i64 v28.1)))) [(3, .row 49 6 (v28.2.map Thing.enc))] [], .call false [] (.o (.c (.v (.int .i64 v30)))) [] [], .as 73 false, .as 76 false, .call false [] (.o (.c (.sl 5))) [] [(5, .row 49 6 (v34.map Thing.enc))], .call false [] (.tup [.c (.sl 6), .c (.v (.int .i64 v36.2))]) [] [(6, .row 49 6 (v36.1.map Thing.enc))], .call false [] (.o (.c (.v (.bool v38)))) [] [], .as 88 false, .as 92 false, .call false [] (.o (.c (.v (.int .i64 v42)))) [] [], .as 97 false, .as 100 false] [] [] [] (And.intro (laws_szThingS_ok a0 1048576 v1 h2) (And.intro h3 (And.intro (And.intro (con_sw 1000 0 (laws_toThingS_ok a0 v4 h5)) (rfl : ([] : List Nat) = [])) (And.intro (And.intro (con_sw 1000 1 (spec_EmptyBox_ok v4 a1 v6 h7)) (rfl : ([] : List Nat) = [])) (And.intro (And.intro (con_sw 1000 2 (laws_toThingS_ok a0 v8 h9)) (rfl : ([] : List Nat) = [])) (And.intro (And.intro (con_sw 1000 3 (impl_EmptyBox_ok v8 a1 v10 h11)) (rfl : ([] : List Nat) = [])) (And.intro (laws_eqThingS_ok v10.1 v6.1 v12 h13) (And.intro h14 (And.intro h15 (And.intro (And.intro (con_sw 1000 4 (laws_toThingS_ok a0 v16 h17)) (rfl : ([] : List Nat) = [])) (And.intro (laws_eqThingS_ok v8 v16 v18 h19) (And.intro h20 (And.intro (And.intro (con_sw 900 2 (laws_markThingS_ok v8 1 v21 h22)) (rfl : ([2] : List Nat) = [2])) (And.intro h23 (And.intro (laws_eqThingS_ok v10.1 v6.1 v24 h25) (And.intro h26 (And.intro h27 (And.intro (And.intro (con_sw 900 3 (laws_markThingS_ok v10.1 1 v28 h29)) (rfl : ([3] : List Nat) = [3])) (And.intro (laws_heldThingS_ok v28.2 1 v30 h31) (And.intro h32 (And.intro h33 (And.intro (And.intro (con_sw 1000 5 (laws_toThingS_ok a0 v34 h35)) (rfl : ([] : List Nat) = [])) (And.intro (And.intro (con_sw 1000 6 (impl_EmptyBox_ok v34 a1 v36 h37)) (rfl : ([] : List Nat) = [])) (And.intro (laws_eqThingS_ok v36.1 v6.1 v38 h39) (And.intro h40 (And.intro h41 (And.intro (laws_heldThingS_ok v28.2 1 v42 h43) (And.intro h44 (And.intro h45 True.intro))))))))))))))))))))))))))))) (by kernel_rfl)

-- loop.example/g03014/spec.PutInto
def spec_PutInto_L1_b (a0 : (List Thing)) (a2 : Int) (v1 : (List Thing)) (v3 : Int) (v28 : Thing) (s30 : Int) : Option (Ctl Int Unit ((List Thing) × Int)) :=
  bif (decide (s30 < ((List.set v1 (Int.toNat v3) (Thing.mk v28.Id v28.Own v28.Room a2 v28.Box v28.Sealed)).length : Int))) then
  (gi (List.set v1 (Int.toNat v3) (Thing.mk v28.Id v28.Own v28.Room a2 v28.Box v28.Sealed)) s30).bind fun v37 =>
  (spec_l5Depth (List.set v1 (Int.toNat v3) (Thing.mk v28.Id v28.Own v28.Room a2 v28.Box v28.Sealed)) v37.Id).bind fun v39 =>
  bif (decide (v39 > 4)) then
  (spec_l5Copy a0).bind fun v42 =>
  some (.ret (v42, 4))
  else
  some (.next (w64 (s30 + 1)))
  else
  some (.brk ())
def spec_PutInto_L1 (a0 : (List Thing)) (a2 : Int) (v1 : (List Thing)) (v3 : Int) (v28 : Thing) (s : Int) : Option (Ctl Int Unit ((List Thing) × Int)) := spec_PutInto_L1_b a0 a2 v1 v3 v28 s
def spec_PutInto_L1_s (a0 : (List Thing)) (a2 : Int) (v1 : (List Thing)) (v3 : Int) (v28 : Thing) (s30 : Int) : St := ⟨[(0, .o (.c (.rs 6 (a0.map Thing.enc)))), (8, .o (.c (.sl 0))), (11, .o (.c (.v (.int .i64 s30))))], [(0, .row 49 6 ((List.set v1 (Int.toNat v3) (Thing.mk v28.Id v28.Own v28.Room a2 v28.Box v28.Sealed)).map Thing.enc))]⟩
def spec_PutInto_L1_S (a0 : (List Thing)) (a2 : Int) (v1 : (List Thing)) (v3 : Int) (v28 : Thing) (s : Int) : St := spec_PutInto_L1_s a0 a2 v1 v3 v28 s
def spec_PutInto_L1_a (a0 : (List Thing)) (a2 : Int) (v1 : (List Thing)) (v3 : Int) (v28 : Thing) : Option ((List Thing) × Int) :=
  (spec_AreThings (List.set v1 (Int.toNat v3) (Thing.mk v28.Id v28.Own v28.Room a2 v28.Box v28.Sealed))).bind fun v31 =>
  bif (!v31) then
  (spec_l5Copy a0).bind fun v34 =>
  some (v34, 5)
  else
  some (List.set v1 (Int.toNat v3) (Thing.mk v28.Id v28.Own v28.Room a2 v28.Box v28.Sealed), 0)
def spec_PutInto_L1_k (a0 : (List Thing)) (a2 : Int) (v1 : (List Thing)) (v3 : Int) (v28 : Thing) (x : (Unit) ⊕ ((List Thing) × Int)) : Option ((List Thing) × Int) := match x with
  | .inl t => spec_PutInto_L1_a a0 a2 v1 v3 v28
  | .inr y => some y
def spec_PutInto (a0 : (List Thing)) (a1 : Int) (a2 : Int) : Option ((List Thing) × Int) :=
  (spec_l5Copy a0).bind fun v1 =>
  (spec_FindThing a0 a1).bind fun v3 =>
  (spec_FindThing a0 a2).bind fun v5 =>
  (spec_AreThings a0).bind fun v7 =>
  bif (!v7) then
  some (v1, 1)
  else
  bif (decide (v3 < 0)) then
  some (v1, 1)
  else
  bif (decide (v5 < 0)) then
  some (v1, 1)
  else
  (gi a0 v5).bind fun v12 =>
  bif (!v12.Box) then
  some (v1, 1)
  else
  (spec_l5Locked a0 a1).bind fun v15 =>
  bif v15 then
  some (v1, 2)
  else
  (spec_l5Locked a0 a2).bind fun v18 =>
  bif v18 then
  some (v1, 2)
  else
  (gi a0 v5).bind fun v21 =>
  bif v21.Sealed then
  some (v1, 2)
  else
  bif (a1 == a2) then
  some (v1, 3)
  else
  (spec_l5Around a0 a2 a1).bind fun v25 =>
  bif v25 then
  some (v1, 3)
  else
  (gi v1 v3).bind fun v28 =>
  (loopM (spec_PutInto_L1 a0 a2 v1 v3 v28) big 0).bind (spec_PutInto_L1_k a0 a2 v1 v3 v28)
theorem spec_PutInto_ok (a0 : (List Thing)) (a1 : Int) (a2 : Int) (r : (List Thing) × Int) (hM : spec_PutInto a0 a1 a2 = some r) :
    Con Try.prog 52 [.c (.rs 6 (a0.map Thing.enc)), .c (.v (.int .i64 a1)), .c (.v (.int .i64 a2))] [] (.tup [.c (.sl 1000), .c (.v (.int .i64 r.2))]) [] [(1000, .row 49 6 (r.1.map Thing.enc))] := by
  unfold spec_PutInto at hM
  refine cn (N := 96) (pids := []) Try_mixed Try.func52 (by kernel_rfl) (by kernel_rfl) (by kernel_rfl) rfl fun ρ g w R => ?_
  obtain ⟨v1, h2, hM⟩ := bind_some hM
  obtain ⟨v3, h4, hM⟩ := bind_some hM
  obtain ⟨v5, h6, hM⟩ := bind_some hM
  obtain ⟨v7, h8, hM⟩ := bind_some hM
  rcases cond_cases hM with ⟨h9, hM⟩ | ⟨h9, hM⟩
  · have hE : some (v1, 1) = some r := hM
    have hE := Option.some.inj hE
    subst hE
    exact pr R 9999 [.call false [] (.o (.c (.sl 0))) [] [(0, .row 49 6 (v1.map Thing.enc))], .call false [] (.o (.c (.v (.int .i64 v3)))) [] [], .call false [] (.o (.c (.v (.int .i64 v5)))) [] [], .call false [] (.o (.c (.v (.bool v7)))) [] [], .as 24 true] [.sw 0 1000] [] [1000] (And.intro (And.intro (con_sw 1000 0 (spec_l5Copy_ok a0 v1 h2)) (rfl : ([] : List Nat) = [])) (And.intro (spec_FindThing_ok a0 a1 v3 h4) (And.intro (spec_FindThing_ok a0 a2 v5 h6) (And.intro (spec_AreThings_ok a0 v7 h8) (And.intro h9 True.intro))))) (by kernel_rfl)
  · rcases cond_cases hM with ⟨h10, hM⟩ | ⟨h10, hM⟩
    · have hE : some (v1, 1) = some r := hM
      have hE := Option.some.inj hE
      subst hE
      exact pr R 9999 [.call false [] (.o (.c (.sl 0))) [] [(0, .row 49 6 (v1.map Thing.enc))], .call false [] (.o (.c (.v (.int .i64 v3)))) [] [], .call false [] (.o (.c (.v (.int .i64 v5)))) [] [], .call false [] (.o (.c (.v (.bool v7)))) [] [], .as 24 false, .as 28 true] [.sw 0 1000] [] [1000] (And.intro (And.intro (con_sw 1000 0 (spec_l5Copy_ok a0 v1 h2)) (rfl : ([] : List Nat) = [])) (And.intro (spec_FindThing_ok a0 a1 v3 h4) (And.intro (spec_FindThing_ok a0 a2 v5 h6) (And.intro (spec_AreThings_ok a0 v7 h8) (And.intro h9 (And.intro h10 True.intro)))))) (by kernel_rfl)
    · rcases cond_cases hM with ⟨h11, hM⟩ | ⟨h11, hM⟩
      · have hE : some (v1, 1) = some r := hM
        have hE := Option.some.inj hE
        subst hE
        exact pr R 9999 [.call false [] (.o (.c (.sl 0))) [] [(0, .row 49 6 (v1.map Thing.enc))], .call false [] (.o (.c (.v (.int .i64 v3)))) [] [], .call false [] (.o (.c (.v (.int .i64 v5)))) [] [], .call false [] (.o (.c (.v (.bool v7)))) [] [], .as 24 false, .as 28 false, .as 32 true] [.sw 0 1000] [] [1000] (And.intro (And.intro (con_sw 1000 0 (spec_l5Copy_ok a0 v1 h2)) (rfl : ([] : List Nat) = [])) (And.intro (spec_FindThing_ok a0 a1 v3 h4) (And.intro (spec_FindThing_ok a0 a2 v5 h6) (And.intro (spec_AreThings_ok a0 v7 h8) (And.intro h9 (And.intro h10 (And.intro h11 True.intro))))))) (by kernel_rfl)
      · obtain ⟨v12, h13, hM⟩ := bind_some hM
        rcases cond_cases hM with ⟨h14, hM⟩ | ⟨h14, hM⟩
        · have hE : some (v1, 1) = some r := hM
          have hE := Option.some.inj hE
          subst hE
          exact pr R 9999 [.call false [] (.o (.c (.sl 0))) [] [(0, .row 49 6 (v1.map Thing.enc))], .call false [] (.o (.c (.v (.int .i64 v3)))) [] [], .call false [] (.o (.c (.v (.int .i64 v5)))) [] [], .call false [] (.o (.c (.v (.bool v7)))) [] [], .as 24 false, .as 28 false, .as 32 false, .ix (Thing.enc v12), .as 20 true] [.sw 0 1000] [] [1000] (And.intro (And.intro (con_sw 1000 0 (spec_l5Copy_ok a0 v1 h2)) (rfl : ([] : List Nat) = [])) (And.intro (spec_FindThing_ok a0 a1 v3 h4) (And.intro (spec_FindThing_ok a0 a2 v5 h6) (And.intro (spec_AreThings_ok a0 v7 h8) (And.intro h9 (And.intro h10 (And.intro h11 (And.intro (gi_map Thing.enc h13) (And.intro h14 True.intro))))))))) (by kernel_rfl)
        · obtain ⟨v15, h16, hM⟩ := bind_some hM
          rcases cond_cases hM with ⟨h17, hM⟩ | ⟨h17, hM⟩
          · have hE : some (v1, 2) = some r := hM
            have hE := Option.some.inj hE
            subst hE
            exact pr R 9999 [.call false [] (.o (.c (.sl 0))) [] [(0, .row 49 6 (v1.map Thing.enc))], .call false [] (.o (.c (.v (.int .i64 v3)))) [] [], .call false [] (.o (.c (.v (.int .i64 v5)))) [] [], .call false [] (.o (.c (.v (.bool v7)))) [] [], .as 24 false, .as 28 false, .as 32 false, .ix (Thing.enc v12), .as 20 false, .call false [] (.o (.c (.v (.bool v15)))) [] [], .as 45 true] [.sw 0 1000] [] [1000] (And.intro (And.intro (con_sw 1000 0 (spec_l5Copy_ok a0 v1 h2)) (rfl : ([] : List Nat) = [])) (And.intro (spec_FindThing_ok a0 a1 v3 h4) (And.intro (spec_FindThing_ok a0 a2 v5 h6) (And.intro (spec_AreThings_ok a0 v7 h8) (And.intro h9 (And.intro h10 (And.intro h11 (And.intro (gi_map Thing.enc h13) (And.intro h14 (And.intro (spec_l5Locked_ok a0 a1 v15 h16) (And.intro h17 True.intro))))))))))) (by kernel_rfl)
          · obtain ⟨v18, h19, hM⟩ := bind_some hM
            rcases cond_cases hM with ⟨h20, hM⟩ | ⟨h20, hM⟩
            · have hE : some (v1, 2) = some r := hM
              have hE := Option.some.inj hE
              subst hE
              exact pr R 9999 [.call false [] (.o (.c (.sl 0))) [] [(0, .row 49 6 (v1.map Thing.enc))], .call false [] (.o (.c (.v (.int .i64 v3)))) [] [], .call false [] (.o (.c (.v (.int .i64 v5)))) [] [], .call false [] (.o (.c (.v (.bool v7)))) [] [], .as 24 false, .as 28 false, .as 32 false, .ix (Thing.enc v12), .as 20 false, .call false [] (.o (.c (.v (.bool v15)))) [] [], .as 45 false, .call false [] (.o (.c (.v (.bool v18)))) [] [], .as 50 true] [.sw 0 1000] [] [1000] (And.intro (And.intro (con_sw 1000 0 (spec_l5Copy_ok a0 v1 h2)) (rfl : ([] : List Nat) = [])) (And.intro (spec_FindThing_ok a0 a1 v3 h4) (And.intro (spec_FindThing_ok a0 a2 v5 h6) (And.intro (spec_AreThings_ok a0 v7 h8) (And.intro h9 (And.intro h10 (And.intro h11 (And.intro (gi_map Thing.enc h13) (And.intro h14 (And.intro (spec_l5Locked_ok a0 a1 v15 h16) (And.intro h17 (And.intro (spec_l5Locked_ok a0 a2 v18 h19) (And.intro h20 True.intro))))))))))))) (by kernel_rfl)
            · obtain ⟨v21, h22, hM⟩ := bind_some hM
              rcases cond_cases hM with ⟨h23, hM⟩ | ⟨h23, hM⟩
              · have hE : some (v1, 2) = some r := hM
                have hE := Option.some.inj hE
                subst hE
                exact pr R 9999 [.call false [] (.o (.c (.sl 0))) [] [(0, .row 49 6 (v1.map Thing.enc))], .call false [] (.o (.c (.v (.int .i64 v3)))) [] [], .call false [] (.o (.c (.v (.int .i64 v5)))) [] [], .call false [] (.o (.c (.v (.bool v7)))) [] [], .as 24 false, .as 28 false, .as 32 false, .ix (Thing.enc v12), .as 20 false, .call false [] (.o (.c (.v (.bool v15)))) [] [], .as 45 false, .call false [] (.o (.c (.v (.bool v18)))) [] [], .as 50 false, .ix (Thing.enc v21), .as 41 true] [.sw 0 1000] [] [1000] (And.intro (And.intro (con_sw 1000 0 (spec_l5Copy_ok a0 v1 h2)) (rfl : ([] : List Nat) = [])) (And.intro (spec_FindThing_ok a0 a1 v3 h4) (And.intro (spec_FindThing_ok a0 a2 v5 h6) (And.intro (spec_AreThings_ok a0 v7 h8) (And.intro h9 (And.intro h10 (And.intro h11 (And.intro (gi_map Thing.enc h13) (And.intro h14 (And.intro (spec_l5Locked_ok a0 a1 v15 h16) (And.intro h17 (And.intro (spec_l5Locked_ok a0 a2 v18 h19) (And.intro h20 (And.intro (gi_map Thing.enc h22) (And.intro h23 True.intro))))))))))))))) (by kernel_rfl)
              · rcases cond_cases hM with ⟨h24, hM⟩ | ⟨h24, hM⟩
                · have hE : some (v1, 3) = some r := hM
                  have hE := Option.some.inj hE
                  subst hE
                  exact pr R 9999 [.call false [] (.o (.c (.sl 0))) [] [(0, .row 49 6 (v1.map Thing.enc))], .call false [] (.o (.c (.v (.int .i64 v3)))) [] [], .call false [] (.o (.c (.v (.int .i64 v5)))) [] [], .call false [] (.o (.c (.v (.bool v7)))) [] [], .as 24 false, .as 28 false, .as 32 false, .ix (Thing.enc v12), .as 20 false, .call false [] (.o (.c (.v (.bool v15)))) [] [], .as 45 false, .call false [] (.o (.c (.v (.bool v18)))) [] [], .as 50 false, .ix (Thing.enc v21), .as 41 false, .as 62 true] [.sw 0 1000] [] [1000] (And.intro (And.intro (con_sw 1000 0 (spec_l5Copy_ok a0 v1 h2)) (rfl : ([] : List Nat) = [])) (And.intro (spec_FindThing_ok a0 a1 v3 h4) (And.intro (spec_FindThing_ok a0 a2 v5 h6) (And.intro (spec_AreThings_ok a0 v7 h8) (And.intro h9 (And.intro h10 (And.intro h11 (And.intro (gi_map Thing.enc h13) (And.intro h14 (And.intro (spec_l5Locked_ok a0 a1 v15 h16) (And.intro h17 (And.intro (spec_l5Locked_ok a0 a2 v18 h19) (And.intro h20 (And.intro (gi_map Thing.enc h22) (And.intro h23 (And.intro h24 True.intro)))))))))))))))) (by kernel_rfl)
                · obtain ⟨v25, h26, hM⟩ := bind_some hM
                  rcases cond_cases hM with ⟨h27, hM⟩ | ⟨h27, hM⟩
                  · have hE : some (v1, 3) = some r := hM
                    have hE := Option.some.inj hE
                    subst hE
                    exact pr R 9999 [.call false [] (.o (.c (.sl 0))) [] [(0, .row 49 6 (v1.map Thing.enc))], .call false [] (.o (.c (.v (.int .i64 v3)))) [] [], .call false [] (.o (.c (.v (.int .i64 v5)))) [] [], .call false [] (.o (.c (.v (.bool v7)))) [] [], .as 24 false, .as 28 false, .as 32 false, .ix (Thing.enc v12), .as 20 false, .call false [] (.o (.c (.v (.bool v15)))) [] [], .as 45 false, .call false [] (.o (.c (.v (.bool v18)))) [] [], .as 50 false, .ix (Thing.enc v21), .as 41 false, .as 62 false, .call false [] (.o (.c (.v (.bool v25)))) [] [], .as 58 true] [.sw 0 1000] [] [1000] (And.intro (And.intro (con_sw 1000 0 (spec_l5Copy_ok a0 v1 h2)) (rfl : ([] : List Nat) = [])) (And.intro (spec_FindThing_ok a0 a1 v3 h4) (And.intro (spec_FindThing_ok a0 a2 v5 h6) (And.intro (spec_AreThings_ok a0 v7 h8) (And.intro h9 (And.intro h10 (And.intro h11 (And.intro (gi_map Thing.enc h13) (And.intro h14 (And.intro (spec_l5Locked_ok a0 a1 v15 h16) (And.intro h17 (And.intro (spec_l5Locked_ok a0 a2 v18 h19) (And.intro h20 (And.intro (gi_map Thing.enc h22) (And.intro h23 (And.intro h24 (And.intro (spec_l5Around_ok a0 a2 a1 v25 h26) (And.intro h27 True.intro)))))))))))))))))) (by kernel_rfl)
                  · obtain ⟨v28, h29, hM⟩ := bind_some hM
                    have K1 : ∀ (_ : Unit), spec_PutInto_L1_a a0 a2 v1 v3 v28 = some r → Gr R [.code (cAt Try.f52 [1, 1, 1, 1, 1, 1, 1])] (⟨[(0, .o (.c (.rs 6 (a0.map Thing.enc)))), (8, .o (.c (.sl 0)))], [(0, .row 49 6 ((List.set v1 (Int.toNat v3) (Thing.mk v28.Id v28.Own v28.Room a2 v28.Box v28.Sealed)).map Thing.enc))]⟩) := by
                      intro _ hM
                      unfold spec_PutInto_L1_a at hM
                      obtain ⟨v31, h32, hM⟩ := bind_some hM
                      rcases cond_cases hM with ⟨h33, hM⟩ | ⟨h33, hM⟩
                      · obtain ⟨v34, h35, hM⟩ := bind_some hM
                        have hE : some (v34, 5) = some r := hM
                        have hE := Option.some.inj hE
                        subst hE
                        exact pr R 9999 [.call false [] (.o (.c (.v (.bool v31)))) [] [], .as 92 true, .call false [] (.o (.c (.sl 1))) [] [(1, .row 49 6 (v34.map Thing.enc))]] [.sw 1 1000] [] [1000] (And.intro (spec_AreThings_ok (List.set v1 (Int.toNat v3) (Thing.mk v28.Id v28.Own v28.Room a2 v28.Box v28.Sealed)) v31 h32) (And.intro h33 (And.intro (And.intro (con_sw 1000 1 (spec_l5Copy_ok a0 v34 h35)) (rfl : ([] : List Nat) = [])) True.intro))) (by kernel_rfl)
                      · have hE : some (List.set v1 (Int.toNat v3) (Thing.mk v28.Id v28.Own v28.Room a2 v28.Box v28.Sealed), 0) = some r := hM
                        have hE := Option.some.inj hE
                        subst hE
                        exact pr R 9999 [.call false [] (.o (.c (.v (.bool v31)))) [] [], .as 92 false] [.sw 0 1000] [] [1000] (And.intro (spec_AreThings_ok (List.set v1 (Int.toNat v3) (Thing.mk v28.Id v28.Own v28.Room a2 v28.Box v28.Sealed)) v31 h32) (And.intro h33 True.intro)) (by kernel_rfl)
                    refine pc R 9999 [.call false [] (.o (.c (.sl 0))) [] [(0, .row 49 6 (v1.map Thing.enc))], .call false [] (.o (.c (.v (.int .i64 v3)))) [] [], .call false [] (.o (.c (.v (.int .i64 v5)))) [] [], .call false [] (.o (.c (.v (.bool v7)))) [] [], .as 24 false, .as 28 false, .as 32 false, .ix (Thing.enc v12), .as 20 false, .call false [] (.o (.c (.v (.bool v15)))) [] [], .as 45 false, .call false [] (.o (.c (.v (.bool v18)))) [] [], .as 50 false, .ix (Thing.enc v21), .as 41 false, .as 62 false, .call false [] (.o (.c (.v (.bool v25)))) [] [], .as 58 false, .ix (Thing.enc v28), .nm ((List.set v1 (Int.toNat v3) (Thing.mk v28.Id v28.Own v28.Room a2 v28.Box v28.Sealed)).map Thing.enc)] [.keep [0, 8, 11] [0]] (k' := [.code (.loop (cAt Try.f52 [1, 1, 1, 1, 1, 1, 0, 1, 0, 0])), .blk 1, .code (cAt Try.f52 [1, 1, 1, 1, 1, 1, 1])]) (S' := spec_PutInto_L1_S a0 a2 v1 v3 v28 0) (And.intro (And.intro (con_sw 1000 0 (spec_l5Copy_ok a0 v1 h2)) (rfl : ([] : List Nat) = [])) (And.intro (spec_FindThing_ok a0 a1 v3 h4) (And.intro (spec_FindThing_ok a0 a2 v5 h6) (And.intro (spec_AreThings_ok a0 v7 h8) (And.intro h9 (And.intro h10 (And.intro h11 (And.intro (gi_map Thing.enc h13) (And.intro h14 (And.intro (spec_l5Locked_ok a0 a1 v15 h16) (And.intro h17 (And.intro (spec_l5Locked_ok a0 a2 v18 h19) (And.intro h20 (And.intro (gi_map Thing.enc h22) (And.intro h23 (And.intro h24 (And.intro (spec_l5Around_ok a0 a2 a1 v25 h26) (And.intro h27 (And.intro (gi_lt Thing.enc h29) (And.intro (And.intro (gi_map Thing.enc h29).2 (set_map Thing.enc v1 (Int.toNat v3) (Thing.mk v28.Id v28.Own v28.Room a2 v28.Box v28.Sealed))) True.intro)))))))))))))))))))) (by kernel_rfl) ?_
                    refine lq (spec_PutInto_L1_S a0 a2 v1 v3 v28) (body := spec_PutInto_L1 a0 a2 v1 v3 v28) (k := spec_PutInto_L1_k a0 a2 v1 v3 v28) hM fun m1 s c1 hM hK1 => ?_
                    obtain ⟨s30, hs⟩ : ∃ z, z = s := ⟨_, rfl⟩
                    subst hs
                    have hM : spec_PutInto_L1_b a0 a2 v1 v3 v28 s30 = some c1 := hM
                    unfold spec_PutInto_L1_b at hM
                    rcases cond_cases hM with ⟨h36, hM⟩ | ⟨h36, hM⟩
                    · obtain ⟨v37, h38, hM⟩ := bind_some hM
                      obtain ⟨v39, h40, hM⟩ := bind_some hM
                      rcases cond_cases hM with ⟨h41, hM⟩ | ⟨h41, hM⟩
                      · obtain ⟨v42, h43, hM⟩ := bind_some hM
                        have hE : some (Ctl.ret (v42, 4)) = some c1 := hM
                        have hE := Option.some.inj hE
                        subst hE
                        have hE : some (v42, 4) = some r := hK1
                        have hE := Option.some.inj hE
                        subst hE
                        exact pr R 9999 [.ln ((List.set v1 (Int.toNat v3) (Thing.mk v28.Id v28.Own v28.Room a2 v28.Box v28.Sealed)).length), .as 77 true, .ix (Thing.enc v37), .call false [] (.o (.c (.v (.int .i64 v39)))) [] [], .as 87 true, .call false [] (.o (.c (.sl 2))) [] [(2, .row 49 6 (v42.map Thing.enc))]] [.sw 2 1000] [] [1000] (And.intro (lenm Thing.enc (List.set v1 (Int.toNat v3) (Thing.mk v28.Id v28.Own v28.Room a2 v28.Box v28.Sealed))) (And.intro h36 (And.intro (gi_lt Thing.enc h38) (And.intro ((gi_map Thing.enc h38).2) (And.intro (spec_l5Depth_ok (List.set v1 (Int.toNat v3) (Thing.mk v28.Id v28.Own v28.Room a2 v28.Box v28.Sealed)) v37.Id v39 h40) (And.intro h41 (And.intro (And.intro (con_sw 1000 2 (spec_l5Copy_ok a0 v42 h43)) (rfl : ([] : List Nat) = [])) True.intro))))))) (by kernel_rfl)
                      · have hE : some (Ctl.next (w64 (s30 + 1))) = some c1 := hM
                        have hE := Option.some.inj hE
                        subst hE
                        exact pc R 9999 [.ln ((List.set v1 (Int.toNat v3) (Thing.mk v28.Id v28.Own v28.Room a2 v28.Box v28.Sealed)).length), .as 77 true, .ix (Thing.enc v37), .call false [] (.o (.c (.v (.int .i64 v39)))) [] [], .as 87 false] [.keep [0, 8, 11] [0]] (And.intro (lenm Thing.enc (List.set v1 (Int.toNat v3) (Thing.mk v28.Id v28.Own v28.Room a2 v28.Box v28.Sealed))) (And.intro h36 (And.intro (gi_lt Thing.enc h38) (And.intro ((gi_map Thing.enc h38).2) (And.intro (spec_l5Depth_ok (List.set v1 (Int.toNat v3) (Thing.mk v28.Id v28.Own v28.Room a2 v28.Box v28.Sealed)) v37.Id v39 h40) (And.intro h41 True.intro)))))) (by kernel_rfl) (li (Sf := spec_PutInto_L1_S a0 a2 v1 v3 v28) (M := Mk (spec_PutInto_L1 a0 a2 v1 v3 v28) (spec_PutInto_L1_k a0 a2 v1 v3 v28) r) (k := [.blk 1, .code (cAt Try.f52 [1, 1, 1, 1, 1, 1, 1])]) (Nat.lt_succ_self m1) hK1)
                    · have hE : some (Ctl.brk ()) = some c1 := hM
                      have hE := Option.some.inj hE
                      subst hE
                      exact pc R 5 [.ln ((List.set v1 (Int.toNat v3) (Thing.mk v28.Id v28.Own v28.Room a2 v28.Box v28.Sealed)).length), .as 77 false] [.keep [0, 8] [0]] (And.intro (lenm Thing.enc (List.set v1 (Int.toNat v3) (Thing.mk v28.Id v28.Own v28.Room a2 v28.Box v28.Sealed))) (And.intro h36 True.intro)) (by kernel_rfl) (K1 () hK1)
end Go.Sx
