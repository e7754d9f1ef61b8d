/- The functions of the program as plain Lean, and that each runs so (printed by wip/gen). -/
import Derived.Test.YtgpdelkcedmghaaGxW1
namespace Go.Sx
open Go.Proofs
set_option linter.unusedVariables false

-- loop.example/g03014/impl.WayEnds
def impl_WayEnds_L1_b (a0 : Network) (a1 : (List Trip)) (s4 : Int) (s5 : Int) : Option (Ctl (Int × Int) Int Int) :=
  bif (decide (s5 < (a1.length : Int))) then
  (gi a1 s5).bind fun v8 =>
  (impl_IsTrip a0 v8).bind fun v10 =>
  bif (!v10) then
  some (.ret (-1))
  else
  (impl_ends a0 v8).bind fun v13 =>
  some (.next (v13, w64 (s5 + 1)))
  else
  some (.brk s4)
def impl_WayEnds_L1 (a0 : Network) (a1 : (List Trip)) (s : Int × Int) : Option (Ctl (Int × Int) Int Int) := impl_WayEnds_L1_b a0 a1 s.1 s.2
def impl_WayEnds_L1_s (a0 : Network) (a1 : (List Trip)) (s4 : Int) (s5 : Int) : St := ⟨[(2, .o (.c (.v (.int .i64 s4)))), (3, .o (.c (.ptr 0 0))), (12, .o (.c (.rs 2 (a1.map Trip.enc)))), (13, .o (.c (.v (.int .i64 (a1.length : Int))))), (14, .o (.c (.v (.int .i64 s5))))], [(0, .box 54 [.rs 6 (a0.Legs.map Leg.enc), .rs 1 (a0.Off.map encI), .v (.int .i64 a0.Change)])]⟩
def impl_WayEnds_L1_S (a0 : Network) (a1 : (List Trip)) (s : Int × Int) : St := impl_WayEnds_L1_s a0 a1 s.1 s.2
def impl_WayEnds_L1_a (s6 : Int) : Option Int :=
  some s6
def impl_WayEnds_L1_k (x : (Int) ⊕ (Int)) : Option Int := match x with
  | .inl t => impl_WayEnds_L1_a t
  | .inr y => some y
def impl_WayEnds (a0 : Network) (a1 : (List Trip)) (a2 : Int) : Option Int :=
  (impl_IsNetwork a0).bind fun v1 =>
  bif (!v1) then
  some (-1)
  else
  (loopM (impl_WayEnds_L1 a0 a1) big (a2, 0)).bind (impl_WayEnds_L1_k)
theorem impl_WayEnds_ok (a0 : Network) (a1 : (List Trip)) (a2 : Int) (r : Int) (hM : impl_WayEnds a0 a1 a2 = some r) :
    Con Try.prog 39 [.agg [.rs 6 (a0.Legs.map Leg.enc), .rs 1 (a0.Off.map encI), .v (.int .i64 a0.Change)], .c (.rs 2 (a1.map Trip.enc)), .c (.v (.int .i64 a2))] [] (.o (.c (.v (.int .i64 r)))) [] [] := by
  unfold impl_WayEnds at hM
  refine cn (N := 27) (pids := []) Try_mixed Try.func39 (by kernel_rfl) (by kernel_rfl) (by kernel_rfl) rfl fun ρ g w R => ?_
  obtain ⟨v1, h2, hM⟩ := bind_some hM
  rcases cond_cases hM with ⟨h3, hM⟩ | ⟨h3, hM⟩
  · have hE : some (-1) = some r := hM
    have hE := Option.some.inj hE
    subst hE
    exact pr R 9999 [.new 0, .call false [] (.o (.c (.v (.bool v1)))) [] [], .as 11 true] [] [] [] (And.intro (impl_IsNetwork_ok a0 v1 h2) (And.intro h3 True.intro)) (by kernel_rfl)
  · have K1 : ∀ (s6 : Int), impl_WayEnds_L1_a s6 = some r → Gr R [.code (cAt Try.f39 [1, 1, 1])] (⟨[(2, .o (.c (.v (.int .i64 s6))))], []⟩) := by
      intro s6 hM
      unfold impl_WayEnds_L1_a at hM
      have hE : some s6 = some r := hM
      have hE := Option.some.inj hE
      subst hE
      exact pr R 9999 [] [] [] [] True.intro (by kernel_rfl)
    refine pc R 9999 [.new 0, .call false [] (.o (.c (.v (.bool v1)))) [] [], .as 11 false, .ln (a1.length)] [.keep [2, 3, 12, 13, 14] [0]] (k' := [.code (.loop (cAt Try.f39 [1, 1, 0, 1, 0, 0])), .blk 0, .code (cAt Try.f39 [1, 1, 1])]) (S' := impl_WayEnds_L1_S a0 a1 (a2, 0)) (And.intro (impl_IsNetwork_ok a0 v1 h2) (And.intro h3 (And.intro (lenm Trip.enc a1) True.intro))) (by kernel_rfl) ?_
    refine lq (impl_WayEnds_L1_S a0 a1) (body := impl_WayEnds_L1 a0 a1) (k := impl_WayEnds_L1_k) hM fun m1 s c1 hM hK1 => ?_
    obtain ⟨s4, s5⟩ := s
    have hM : impl_WayEnds_L1_b a0 a1 s4 s5 = some c1 := hM
    unfold impl_WayEnds_L1_b at hM
    rcases cond_cases hM with ⟨h7, hM⟩ | ⟨h7, hM⟩
    · obtain ⟨v8, h9, hM⟩ := bind_some hM
      obtain ⟨v10, h11, hM⟩ := bind_some hM
      rcases cond_cases hM with ⟨h12, hM⟩ | ⟨h12, hM⟩
      · have hE : some (Ctl.ret (-1)) = some c1 := hM
        have hE := Option.some.inj hE
        subst hE
        have hE : some (-1) = some r := hK1
        have hE := Option.some.inj hE
        subst hE
        exact pr R 9999 [.as 15 true, .ix (Trip.enc v8), .new 1, .call false [] (.o (.c (.v (.bool v10)))) [] [], .as 21 true] [] [] [] (And.intro h7 (And.intro (gi_map Trip.enc h9) (And.intro (impl_IsTrip_ok a0 v8 v10 h11) (And.intro h12 True.intro)))) (by kernel_rfl)
      · obtain ⟨v13, h14, hM⟩ := bind_some hM
        have hE : some (Ctl.next (v13, w64 (s5 + 1))) = some c1 := hM
        have hE := Option.some.inj hE
        subst hE
        exact pc R 9999 [.as 15 true, .ix (Trip.enc v8), .new 1, .call false [] (.o (.c (.v (.bool v10)))) [] [], .as 21 false, .call false [] (.o (.c (.v (.int .i64 v13)))) [] []] [.keep [2, 3, 12, 13, 14] [0]] (And.intro h7 (And.intro (gi_map Trip.enc h9) (And.intro (impl_IsTrip_ok a0 v8 v10 h11) (And.intro h12 (And.intro (impl_ends_ok a0 v8 v13 h14) True.intro))))) (by kernel_rfl) (li (Sf := impl_WayEnds_L1_S a0 a1) (M := Mk (impl_WayEnds_L1 a0 a1) (impl_WayEnds_L1_k) r) (k := [.blk 0, .code (cAt Try.f39 [1, 1, 1])]) (Nat.lt_succ_self m1) hK1)
    · have hE : some (Ctl.brk s4) = some c1 := hM
      have hE := Option.some.inj hE
      subst hE
      exact pc R 5 [.as 15 false] [.keep [2] []] (And.intro h7 True.intro) (by kernel_rfl) (K1 s4 hK1)

-- loop.example/g03014/laws.eqLeg
def laws_eqLeg (a0 : Leg) (a1 : Leg) : Option Bool :=
  bif (!(a0.From.toList == a1.From.toList)) then
  some false
  else
  bif (!(a0.To.toList == a1.To.toList)) then
  some false
  else
  bif (a0.Start != a1.Start) then
  some false
  else
  bif (a0.Takes != a1.Takes) then
  some false
  else
  bif (a0.Days != a1.Days) then
  some false
  else
  bif (a0.Room != a1.Room) then
  some false
  else
  some true
theorem laws_eqLeg_ok (a0 : Leg) (a1 : Leg) (r : Bool) (hM : laws_eqLeg a0 a1 = some r) :
    Con Try.prog 88 [.c (.v (.agg (Leg.enc a0).toArray)), .c (.v (.agg (Leg.enc a1).toArray))] [] (.o (.c (.v (.bool r)))) [] [] := by
  unfold laws_eqLeg at hM
  refine cn (N := 35) (pids := []) Try_mixed Try.func88 (by kernel_rfl) (by kernel_rfl) (by kernel_rfl) rfl fun ρ g w R => ?_
  rcases cond_cases hM with ⟨h1, hM⟩ | ⟨h1, hM⟩
  · have hE : some false = some r := hM
    have hE := Option.some.inj hE
    subst hE
    exact pr R 9999 [.new 0, .new 1, .as 9 true] [] [] [] (And.intro h1 True.intro) (by kernel_rfl)
  · rcases cond_cases hM with ⟨h2, hM⟩ | ⟨h2, hM⟩
    · have hE : some false = some r := hM
      have hE := Option.some.inj hE
      subst hE
      exact pr R 9999 [.new 0, .new 1, .as 9 false, .as 14 true] [] [] [] (And.intro h1 (And.intro h2 True.intro)) (by kernel_rfl)
    · rcases cond_cases hM with ⟨h3, hM⟩ | ⟨h3, hM⟩
      · have hE : some false = some r := hM
        have hE := Option.some.inj hE
        subst hE
        exact pr R 9999 [.new 0, .new 1, .as 9 false, .as 14 false, .as 19 true] [] [] [] (And.intro h1 (And.intro h2 (And.intro h3 True.intro))) (by kernel_rfl)
      · rcases cond_cases hM with ⟨h4, hM⟩ | ⟨h4, hM⟩
        · have hE : some false = some r := hM
          have hE := Option.some.inj hE
          subst hE
          exact pr R 9999 [.new 0, .new 1, .as 9 false, .as 14 false, .as 19 false, .as 24 true] [] [] [] (And.intro h1 (And.intro h2 (And.intro h3 (And.intro h4 True.intro)))) (by kernel_rfl)
        · rcases cond_cases hM with ⟨h5, hM⟩ | ⟨h5, hM⟩
          · have hE : some false = some r := hM
            have hE := Option.some.inj hE
            subst hE
            exact pr R 9999 [.new 0, .new 1, .as 9 false, .as 14 false, .as 19 false, .as 24 false, .as 29 true] [] [] [] (And.intro h1 (And.intro h2 (And.intro h3 (And.intro h4 (And.intro h5 True.intro))))) (by kernel_rfl)
          · rcases cond_cases hM with ⟨h6, hM⟩ | ⟨h6, hM⟩
            · have hE : some false = some r := hM
              have hE := Option.some.inj hE
              subst hE
              exact pr R 9999 [.new 0, .new 1, .as 9 false, .as 14 false, .as 19 false, .as 24 false, .as 29 false, .as 34 true] [] [] [] (And.intro h1 (And.intro h2 (And.intro h3 (And.intro h4 (And.intro h5 (And.intro h6 True.intro)))))) (by kernel_rfl)
            · have hE : some true = some r := hM
              have hE := Option.some.inj hE
              subst hE
              exact pr R 9999 [.new 0, .new 1, .as 9 false, .as 14 false, .as 19 false, .as 24 false, .as 29 false, .as 34 false] [] [] [] (And.intro h1 (And.intro h2 (And.intro h3 (And.intro h4 (And.intro h5 (And.intro h6 True.intro)))))) (by kernel_rfl)

-- loop.example/g03014/laws.eqLegS
def laws_eqLegS_L1_b (a0 : (List Leg)) (a1 : (List Leg)) (s2 : Int) : Option (Ctl Int Unit Bool) :=
  bif (decide (s2 < (a0.length : Int))) then
  (gi a0 s2).bind fun v4 =>
  (gi a1 s2).bind fun v6 =>
  (laws_eqLeg v4 v6).bind fun v8 =>
  bif (!v8) then
  some (.ret false)
  else
  some (.next (w64 (s2 + 1)))
  else
  some (.brk ())
def laws_eqLegS_L1 (a0 : (List Leg)) (a1 : (List Leg)) (s : Int) : Option (Ctl Int Unit Bool) := laws_eqLegS_L1_b a0 a1 s
def laws_eqLegS_L1_s (a0 : (List Leg)) (a1 : (List Leg)) (s2 : Int) : St := ⟨[(0, .o (.c (.rs 6 (a0.map Leg.enc)))), (1, .o (.c (.rs 6 (a1.map Leg.enc)))), (5, .o (.c (.v (.int .i64 s2))))], []⟩
def laws_eqLegS_L1_S (a0 : (List Leg)) (a1 : (List Leg)) (s : Int) : St := laws_eqLegS_L1_s a0 a1 s
def laws_eqLegS_L1_a : Option Bool :=
  some true
def laws_eqLegS_L1_k (x : (Unit) ⊕ (Bool)) : Option Bool := match x with
  | .inl t => laws_eqLegS_L1_a
  | .inr y => some y
def laws_eqLegS (a0 : (List Leg)) (a1 : (List Leg)) : Option Bool :=
  bif ((a0.length : Int) != (a1.length : Int)) then
  some false
  else
  (loopM (laws_eqLegS_L1 a0 a1) big 0).bind (laws_eqLegS_L1_k)
theorem laws_eqLegS_ok (a0 : (List Leg)) (a1 : (List Leg)) (r : Bool) (hM : laws_eqLegS a0 a1 = some r) :
    Con Try.prog 70 [.c (.rs 6 (a0.map Leg.enc)), .c (.rs 6 (a1.map Leg.enc))] [] (.o (.c (.v (.bool r)))) [] [] := by
  unfold laws_eqLegS at hM
  refine cn (N := 27) (pids := []) Try_mixed Try.func70 (by kernel_rfl) (by kernel_rfl) (by kernel_rfl) rfl fun ρ g w R => ?_
  rcases cond_cases hM with ⟨h1, hM⟩ | ⟨h1, hM⟩
  · have hE : some false = some r := hM
    have hE := Option.some.inj hE
    subst hE
    exact pr R 9999 [.ln (a0.length), .ln (a1.length), .as 10 true] [] [] [] (And.intro (lenm Leg.enc a0) (And.intro (lenm Leg.enc a1) (And.intro h1 True.intro))) (by kernel_rfl)
  · have K1 : ∀ (_ : Unit), laws_eqLegS_L1_a = some r → Gr R [.code (cAt Try.f70 [1, 1, 1])] (⟨[], []⟩) := by
      intro _ hM
      unfold laws_eqLegS_L1_a at hM
      have hE : some true = some r := hM
      have hE := Option.some.inj hE
      subst hE
      exact pr R 9999 [] [] [] [] True.intro (by kernel_rfl)
    refine pc R 9999 [.ln (a0.length), .ln (a1.length), .as 10 false] [.keep [0, 1, 5] []] (k' := [.code (.loop (cAt Try.f70 [1, 1, 0, 1, 0, 0])), .blk 0, .code (cAt Try.f70 [1, 1, 1])]) (S' := laws_eqLegS_L1_S a0 a1 0) (And.intro (lenm Leg.enc a0) (And.intro (lenm Leg.enc a1) (And.intro h1 True.intro))) (by kernel_rfl) ?_
    refine lq (laws_eqLegS_L1_S a0 a1) (body := laws_eqLegS_L1 a0 a1) (k := laws_eqLegS_L1_k) hM fun m1 s c1 hM hK1 => ?_
    obtain ⟨s2, hs⟩ : ∃ z, z = s := ⟨_, rfl⟩
    subst hs
    have hM : laws_eqLegS_L1_b a0 a1 s2 = some c1 := hM
    unfold laws_eqLegS_L1_b at hM
    rcases cond_cases hM with ⟨h3, hM⟩ | ⟨h3, hM⟩
    · obtain ⟨v4, h5, hM⟩ := bind_some hM
      obtain ⟨v6, h7, hM⟩ := bind_some hM
      obtain ⟨v8, h9, hM⟩ := bind_some hM
      rcases cond_cases hM with ⟨h10, hM⟩ | ⟨h10, hM⟩
      · have hE : some (Ctl.ret false) = some c1 := hM
        have hE := Option.some.inj hE
        subst hE
        have hE : some false = some r := hK1
        have hE := Option.some.inj hE
        subst hE
        exact pr R 9999 [.ln (a0.length), .as 14 true, .ix (Leg.enc v4), .ix (Leg.enc v6), .call false [] (.o (.c (.v (.bool v8)))) [] [], .as 26 true] [] [] [] (And.intro (lenm Leg.enc a0) (And.intro h3 (And.intro (gi_map Leg.enc h5) (And.intro (gi_map Leg.enc h7) (And.intro (laws_eqLeg_ok v4 v6 v8 h9) (And.intro h10 True.intro)))))) (by kernel_rfl)
      · have hE : some (Ctl.next (w64 (s2 + 1))) = some c1 := hM
        have hE := Option.some.inj hE
        subst hE
        exact pc R 9999 [.ln (a0.length), .as 14 true, .ix (Leg.enc v4), .ix (Leg.enc v6), .call false [] (.o (.c (.v (.bool v8)))) [] [], .as 26 false] [.keep [0, 1, 5] []] (And.intro (lenm Leg.enc a0) (And.intro h3 (And.intro (gi_map Leg.enc h5) (And.intro (gi_map Leg.enc h7) (And.intro (laws_eqLeg_ok v4 v6 v8 h9) (And.intro h10 True.intro)))))) (by kernel_rfl) (li (Sf := laws_eqLegS_L1_S a0 a1) (M := Mk (laws_eqLegS_L1 a0 a1) (laws_eqLegS_L1_k) r) (k := [.blk 0, .code (cAt Try.f70 [1, 1, 1])]) (Nat.lt_succ_self m1) hK1)
    · have hE : some (Ctl.brk ()) = some c1 := hM
      have hE := Option.some.inj hE
      subst hE
      exact pc R 5 [.ln (a0.length), .as 14 false] [.keep [] []] (And.intro (lenm Leg.enc a0) (And.intro h3 True.intro)) (by kernel_rfl) (K1 () hK1)

-- loop.example/g03014/laws.eqNetwork
def laws_eqNetwork (a0 : Network) (a1 : Network) : Option Bool :=
  (laws_eqLegS a0.Legs a1.Legs).bind fun v1 =>
  bif (!v1) then
  some false
  else
  (laws_eqIntS a0.Off a1.Off).bind fun v4 =>
  bif (!v4) then
  some false
  else
  bif (a0.Change != a1.Change) then
  some false
  else
  some true
theorem laws_eqNetwork_ok (a0 : Network) (a1 : Network) (r : Bool) (hM : laws_eqNetwork a0 a1 = some r) :
    Con Try.prog 40 [.agg [.rs 6 (a0.Legs.map Leg.enc), .rs 1 (a0.Off.map encI), .v (.int .i64 a0.Change)], .agg [.rs 6 (a1.Legs.map Leg.enc), .rs 1 (a1.Off.map encI), .v (.int .i64 a1.Change)]] [] (.o (.c (.v (.bool r)))) [] [] := by
  unfold laws_eqNetwork at hM
  refine cn (N := 22) (pids := []) Try_mixed Try.func40 (by kernel_rfl) (by kernel_rfl) (by kernel_rfl) rfl fun ρ g w R => ?_
  obtain ⟨v1, h2, hM⟩ := bind_some hM
  rcases cond_cases hM with ⟨h3, hM⟩ | ⟨h3, hM⟩
  · have hE : some false = some r := hM
    have hE := Option.some.inj hE
    subst hE
    exact pr R 9999 [.new 0, .new 1, .call false [] (.o (.c (.v (.bool v1)))) [] [], .as 10 true] [] [] [] (And.intro (laws_eqLegS_ok a0.Legs a1.Legs v1 h2) (And.intro h3 True.intro)) (by kernel_rfl)
  · obtain ⟨v4, h5, hM⟩ := bind_some hM
    rcases cond_cases hM with ⟨h6, hM⟩ | ⟨h6, hM⟩
    · have hE : some false = some r := hM
      have hE := Option.some.inj hE
      subst hE
      exact pr R 9999 [.new 0, .new 1, .call false [] (.o (.c (.v (.bool v1)))) [] [], .as 10 false, .call false [] (.o (.c (.v (.bool v4)))) [] [], .as 16 true] [] [] [] (And.intro (laws_eqLegS_ok a0.Legs a1.Legs v1 h2) (And.intro h3 (And.intro (laws_eqIntS_ok a0.Off a1.Off v4 h5) (And.intro h6 True.intro)))) (by kernel_rfl)
    · rcases cond_cases hM with ⟨h7, hM⟩ | ⟨h7, hM⟩
      · have hE : some false = some r := hM
        have hE := Option.some.inj hE
        subst hE
        exact pr R 9999 [.new 0, .new 1, .call false [] (.o (.c (.v (.bool v1)))) [] [], .as 10 false, .call false [] (.o (.c (.v (.bool v4)))) [] [], .as 16 false, .as 21 true] [] [] [] (And.intro (laws_eqLegS_ok a0.Legs a1.Legs v1 h2) (And.intro h3 (And.intro (laws_eqIntS_ok a0.Off a1.Off v4 h5) (And.intro h6 (And.intro h7 True.intro))))) (by kernel_rfl)
      · have hE : some true = some r := hM
        have hE := Option.some.inj hE
        subst hE
        exact pr R 9999 [.new 0, .new 1, .call false [] (.o (.c (.v (.bool v1)))) [] [], .as 10 false, .call false [] (.o (.c (.v (.bool v4)))) [] [], .as 16 false, .as 21 false] [] [] [] (And.intro (laws_eqLegS_ok a0.Legs a1.Legs v1 h2) (And.intro h3 (And.intro (laws_eqIntS_ok a0.Off a1.Off v4 h5) (And.intro h6 (And.intro h7 True.intro))))) (by kernel_rfl)

-- loop.example/g03014/laws.FnExactWayEnds
def laws_FnExactWayEnds_x1 (a1 : (List Trip)) (v15 : (List Trip)) (v22 : Bool) : St := ⟨[(1, .o (.c (.rs 2 (a1.map Trip.enc)))), (10, .o (.c (.sl 7))), (43, .o (.c (.v (.bool (!v22)))))], [(7, .row 31 2 (v15.map Trip.enc))]⟩
def laws_FnExactWayEnds (a0 : Network) (a1 : (List Trip)) (a2 : Int) : Option Bool :=
  (laws_szNetwork a0 1048576).bind fun v1 =>
  bif (decide (v1 < 0)) then
  some true
  else
  (laws_szTripS a1 v1).bind fun v4 =>
  bif (decide (v4 < 0)) then
  some true
  else
  (laws_toNetwork a0).bind fun v7 =>
  (laws_toTripS a1).bind fun v9 =>
  (spec_WayEnds v7 v9 a2).bind fun v11 =>
  (laws_toNetwork a0).bind fun v13 =>
  (laws_toTripS a1).bind fun v15 =>
  (impl_WayEnds v13 v15 a2).bind fun v17 =>
  bif (v17 != v11) then
  some false
  else
  (laws_toNetwork a0).bind fun v20 =>
  (laws_eqNetwork v13 v20).bind fun v22 =>
  bif (!v22) then
  some false
  else
  (laws_toTripS a1).bind fun v25 =>
  (laws_eqTripS v15 v25).bind fun v27 =>
  bif (!v27) then
  some false
  else
  some true
theorem laws_FnExactWayEnds_ok (a0 : Network) (a1 : (List Trip)) (a2 : Int) (r : Bool) (hM : laws_FnExactWayEnds a0 a1 a2 = some r) :
    Con Try.prog 7 [.agg [.rs 6 (a0.Legs.map Leg.enc), .rs 1 (a0.Off.map encI), .v (.int .i64 a0.Change)], .c (.rs 2 (a1.map Trip.enc)), .c (.v (.int .i64 a2))] [] (.o (.c (.v (.bool r)))) [] [] := by
  unfold laws_FnExactWayEnds at hM
  refine cn (N := 49) (pids := []) Try_mixed Try.func7 (by kernel_rfl) (by kernel_rfl) (by kernel_rfl) rfl fun ρ g w R => ?_
  obtain ⟨v1, h2, hM⟩ := bind_some hM
  rcases cond_cases hM with ⟨h3, hM⟩ | ⟨h3, hM⟩
  · have hE : some true = some r := hM
    have hE := Option.some.inj hE
    subst hE
    exact pr R 9999 [.new 0, .call false [] (.o (.c (.v (.int .i64 v1)))) [] [], .as 16 true] [] [] [] (And.intro (laws_szNetwork_ok a0 1048576 v1 h2) (And.intro h3 True.intro)) (by kernel_rfl)
  · obtain ⟨v4, h5, hM⟩ := bind_some hM
    rcases cond_cases hM with ⟨h6, hM⟩ | ⟨h6, hM⟩
    · have hE : some true = some r := hM
      have hE := Option.some.inj hE
      subst hE
      exact pr R 9999 [.new 0, .call false [] (.o (.c (.v (.int .i64 v1)))) [] [], .as 16 false, .call false [] (.o (.c (.v (.int .i64 v4)))) [] [], .as 21 true] [] [] [] (And.intro (laws_szNetwork_ok a0 1048576 v1 h2) (And.intro h3 (And.intro (laws_szTripS_ok a1 v1 v4 h5) (And.intro h6 True.intro)))) (by kernel_rfl)
    · obtain ⟨v7, h8, hM⟩ := bind_some hM
      obtain ⟨v9, h10, hM⟩ := bind_some hM
      obtain ⟨v11, h12, hM⟩ := bind_some hM
      obtain ⟨v13, h14, hM⟩ := bind_some hM
      obtain ⟨v15, h16, hM⟩ := bind_some hM
      obtain ⟨v17, h18, hM⟩ := bind_some hM
      rcases cond_cases hM with ⟨h19, hM⟩ | ⟨h19, hM⟩
      · have hE : some false = some r := hM
        have hE := Option.some.inj hE
        subst hE
        exact pr R 9999 [.new 0, .call false [] (.o (.c (.v (.int .i64 v1)))) [] [], .as 16 false, .call false [] (.o (.c (.v (.int .i64 v4)))) [] [], .as 21 false, .call false [] (.o (.agg [.sl 1, .sl 2, .v (.int .i64 v7.Change)])) [] [(1, .row 89 6 (v7.Legs.map Leg.enc)), (2, .row 3 1 (v7.Off.map encI))], .call false [] (.o (.c (.sl 3))) [] [(3, .row 31 2 (v9.map Trip.enc))], .call false [] (.o (.c (.v (.int .i64 v11)))) [] [], .call false [] (.o (.agg [.sl 4, .sl 5, .v (.int .i64 v13.Change)])) [] [(4, .row 89 6 (v13.Legs.map Leg.enc)), (5, .row 3 1 (v13.Off.map encI))], .new 6, .call false [] (.o (.c (.sl 7))) [] [(7, .row 31 2 (v15.map Trip.enc))], .call false [] (.o (.c (.v (.int .i64 v17)))) [] [], .as 38 true] [] [] [] (And.intro (laws_szNetwork_ok a0 1048576 v1 h2) (And.intro h3 (And.intro (laws_szTripS_ok a1 v1 v4 h5) (And.intro h6 (And.intro (And.intro (con_sw 1001 2 (con_sw 1000 1 (laws_toNetwork_ok a0 v7 h8))) (rfl : ([] : List Nat) = [])) (And.intro (And.intro (con_sw 1000 3 (laws_toTripS_ok a1 v9 h10)) (rfl : ([] : List Nat) = [])) (And.intro (spec_WayEnds_ok v7 v9 a2 v11 h12) (And.intro (And.intro (con_sw 1001 5 (con_sw 1000 4 (laws_toNetwork_ok a0 v13 h14))) (rfl : ([] : List Nat) = [])) (And.intro (And.intro (con_sw 1000 7 (laws_toTripS_ok a1 v15 h16)) (rfl : ([] : List Nat) = [])) (And.intro (impl_WayEnds_ok v13 v15 a2 v17 h18) (And.intro h19 True.intro))))))))))) (by kernel_rfl)
      · obtain ⟨v20, h21, hM⟩ := bind_some hM
        obtain ⟨v22, h23, hM⟩ := bind_some hM
        rcases cond_cases hM with ⟨h24, hM⟩ | ⟨h24, hM⟩
        · have hE : some false = some r := hM
          have hE := Option.some.inj hE
          subst hE
          exact pr R 9999 [.new 0, .call false [] (.o (.c (.v (.int .i64 v1)))) [] [], .as 16 false, .call false [] (.o (.c (.v (.int .i64 v4)))) [] [], .as 21 false, .call false [] (.o (.agg [.sl 1, .sl 2, .v (.int .i64 v7.Change)])) [] [(1, .row 89 6 (v7.Legs.map Leg.enc)), (2, .row 3 1 (v7.Off.map encI))], .call false [] (.o (.c (.sl 3))) [] [(3, .row 31 2 (v9.map Trip.enc))], .call false [] (.o (.c (.v (.int .i64 v11)))) [] [], .call false [] (.o (.agg [.sl 4, .sl 5, .v (.int .i64 v13.Change)])) [] [(4, .row 89 6 (v13.Legs.map Leg.enc)), (5, .row 3 1 (v13.Off.map encI))], .new 6, .call false [] (.o (.c (.sl 7))) [] [(7, .row 31 2 (v15.map Trip.enc))], .call false [] (.o (.c (.v (.int .i64 v17)))) [] [], .as 38 false, .xo [[], [], [.call false [] (.o (.agg [.sl 8, .sl 9, .v (.int .i64 v20.Change)])) [] [(8, .row 89 6 (v20.Legs.map Leg.enc)), (9, .row 3 1 (v20.Off.map encI))]], [.call false [] (.o (.c (.v (.bool v22)))) [] []], []] [.keep [1, 10, 43] [7]] (laws_FnExactWayEnds_x1 a1 v15 v22), .as 43 true] [] [] [] (And.intro (laws_szNetwork_ok a0 1048576 v1 h2) (And.intro h3 (And.intro (laws_szTripS_ok a1 v1 v4 h5) (And.intro h6 (And.intro (And.intro (con_sw 1001 2 (con_sw 1000 1 (laws_toNetwork_ok a0 v7 h8))) (rfl : ([] : List Nat) = [])) (And.intro (And.intro (con_sw 1000 3 (laws_toTripS_ok a1 v9 h10)) (rfl : ([] : List Nat) = [])) (And.intro (spec_WayEnds_ok v7 v9 a2 v11 h12) (And.intro (And.intro (con_sw 1001 5 (con_sw 1000 4 (laws_toNetwork_ok a0 v13 h14))) (rfl : ([] : List Nat) = [])) (And.intro (And.intro (con_sw 1000 7 (laws_toTripS_ok a1 v15 h16)) (rfl : ([] : List Nat) = [])) (And.intro (impl_WayEnds_ok v13 v15 a2 v17 h18) (And.intro h19 (And.intro (And.intro (con_sw 1001 9 (con_sw 1000 8 (laws_toNetwork_ok a0 v20 h21))) (rfl : ([] : List Nat) = [])) (And.intro (laws_eqNetwork_ok v13 v20 v22 h23) (And.intro (rfl : (laws_FnExactWayEnds_x1 a1 v15 v22) = (laws_FnExactWayEnds_x1 a1 v15 v22)) (And.intro (And.intro (con_sw 1001 9 (con_sw 1000 8 (laws_toNetwork_ok a0 v20 h21))) (rfl : ([] : List Nat) = [])) (And.intro (laws_eqNetwork_ok v13 v20 v22 h23) (And.intro (rfl : (laws_FnExactWayEnds_x1 a1 v15 v22) = (laws_FnExactWayEnds_x1 a1 v15 v22)) (And.intro (And.intro (con_sw 1001 9 (con_sw 1000 8 (laws_toNetwork_ok a0 v20 h21))) (rfl : ([] : List Nat) = [])) (And.intro (laws_eqNetwork_ok v13 v20 v22 h23) (And.intro (rfl : (laws_FnExactWayEnds_x1 a1 v15 v22) = (laws_FnExactWayEnds_x1 a1 v15 v22)) (And.intro h24 True.intro))))))))))))))))))))) (by kernel_rfl)
        · obtain ⟨v25, h26, hM⟩ := bind_some hM
          obtain ⟨v27, h28, hM⟩ := bind_some hM
          rcases cond_cases hM with ⟨h29, hM⟩ | ⟨h29, hM⟩
          · have hE : some false = some r := hM
            have hE := Option.some.inj hE
            subst hE
            exact pr R 9999 [.new 0, .call false [] (.o (.c (.v (.int .i64 v1)))) [] [], .as 16 false, .call false [] (.o (.c (.v (.int .i64 v4)))) [] [], .as 21 false, .call false [] (.o (.agg [.sl 1, .sl 2, .v (.int .i64 v7.Change)])) [] [(1, .row 89 6 (v7.Legs.map Leg.enc)), (2, .row 3 1 (v7.Off.map encI))], .call false [] (.o (.c (.sl 3))) [] [(3, .row 31 2 (v9.map Trip.enc))], .call false [] (.o (.c (.v (.int .i64 v11)))) [] [], .call false [] (.o (.agg [.sl 4, .sl 5, .v (.int .i64 v13.Change)])) [] [(4, .row 89 6 (v13.Legs.map Leg.enc)), (5, .row 3 1 (v13.Off.map encI))], .new 6, .call false [] (.o (.c (.sl 7))) [] [(7, .row 31 2 (v15.map Trip.enc))], .call false [] (.o (.c (.v (.int .i64 v17)))) [] [], .as 38 false, .xo [[], [], [.call false [] (.o (.agg [.sl 8, .sl 9, .v (.int .i64 v20.Change)])) [] [(8, .row 89 6 (v20.Legs.map Leg.enc)), (9, .row 3 1 (v20.Off.map encI))]], [.call false [] (.o (.c (.v (.bool v22)))) [] []], []] [.keep [1, 10, 43] [7]] (laws_FnExactWayEnds_x1 a1 v15 v22), .as 43 false, .call false [] (.o (.c (.sl 10))) [] [(10, .row 31 2 (v25.map Trip.enc))], .call false [] (.o (.c (.v (.bool v27)))) [] [], .as 48 true] [] [] [] (And.intro (laws_szNetwork_ok a0 1048576 v1 h2) (And.intro h3 (And.intro (laws_szTripS_ok a1 v1 v4 h5) (And.intro h6 (And.intro (And.intro (con_sw 1001 2 (con_sw 1000 1 (laws_toNetwork_ok a0 v7 h8))) (rfl : ([] : List Nat) = [])) (And.intro (And.intro (con_sw 1000 3 (laws_toTripS_ok a1 v9 h10)) (rfl : ([] : List Nat) = [])) (And.intro (spec_WayEnds_ok v7 v9 a2 v11 h12) (And.intro (And.intro (con_sw 1001 5 (con_sw 1000 4 (laws_toNetwork_ok a0 v13 h14))) (rfl : ([] : List Nat) = [])) (And.intro (And.intro (con_sw 1000 7 (laws_toTripS_ok a1 v15 h16)) (rfl : ([] : List Nat) = [])) (And.intro (impl_WayEnds_ok v13 v15 a2 v17 h18) (And.intro h19 (And.intro (And.intro (con_sw 1001 9 (con_sw 1000 8 (laws_toNetwork_ok a0 v20 h21))) (rfl : ([] : List Nat) = [])) (And.intro (laws_eqNetwork_ok v13 v20 v22 h23) (And.intro (rfl : (laws_FnExactWayEnds_x1 a1 v15 v22) = (laws_FnExactWayEnds_x1 a1 v15 v22)) (And.intro (And.intro (con_sw 1001 9 (con_sw 1000 8 (laws_toNetwork_ok a0 v20 h21))) (rfl : ([] : List Nat) = [])) (And.intro (laws_eqNetwork_ok v13 v20 v22 h23) (And.intro (rfl : (laws_FnExactWayEnds_x1 a1 v15 v22) = (laws_FnExactWayEnds_x1 a1 v15 v22)) (And.intro (And.intro (con_sw 1001 9 (con_sw 1000 8 (laws_toNetwork_ok a0 v20 h21))) (rfl : ([] : List Nat) = [])) (And.intro (laws_eqNetwork_ok v13 v20 v22 h23) (And.intro (rfl : (laws_FnExactWayEnds_x1 a1 v15 v22) = (laws_FnExactWayEnds_x1 a1 v15 v22)) (And.intro h24 (And.intro (And.intro (con_sw 1000 10 (laws_toTripS_ok a1 v25 h26)) (rfl : ([] : List Nat) = [])) (And.intro (laws_eqTripS_ok v15 v25 v27 h28) (And.intro h29 True.intro)))))))))))))))))))))))) (by kernel_rfl)
          · have hE : some true = some r := hM
            have hE := Option.some.inj hE
            subst hE
            exact pr R 9999 [.new 0, .call false [] (.o (.c (.v (.int .i64 v1)))) [] [], .as 16 false, .call false [] (.o (.c (.v (.int .i64 v4)))) [] [], .as 21 false, .call false [] (.o (.agg [.sl 1, .sl 2, .v (.int .i64 v7.Change)])) [] [(1, .row 89 6 (v7.Legs.map Leg.enc)), (2, .row 3 1 (v7.Off.map encI))], .call false [] (.o (.c (.sl 3))) [] [(3, .row 31 2 (v9.map Trip.enc))], .call false [] (.o (.c (.v (.int .i64 v11)))) [] [], .call false [] (.o (.agg [.sl 4, .sl 5, .v (.int .i64 v13.Change)])) [] [(4, .row 89 6 (v13.Legs.map Leg.enc)), (5, .row 3 1 (v13.Off.map encI))], .new 6, .call false [] (.o (.c (.sl 7))) [] [(7, .row 31 2 (v15.map Trip.enc))], .call false [] (.o (.c (.v (.int .i64 v17)))) [] [], .as 38 false, .xo [[], [], [.call false [] (.o (.agg [.sl 8, .sl 9, .v (.int .i64 v20.Change)])) [] [(8, .row 89 6 (v20.Legs.map Leg.enc)), (9, .row 3 1 (v20.Off.map encI))]], [.call false [] (.o (.c (.v (.bool v22)))) [] []], []] [.keep [1, 10, 43] [7]] (laws_FnExactWayEnds_x1 a1 v15 v22), .as 43 false, .call false [] (.o (.c (.sl 10))) [] [(10, .row 31 2 (v25.map Trip.enc))], .call false [] (.o (.c (.v (.bool v27)))) [] [], .as 48 false] [] [] [] (And.intro (laws_szNetwork_ok a0 1048576 v1 h2) (And.intro h3 (And.intro (laws_szTripS_ok a1 v1 v4 h5) (And.intro h6 (And.intro (And.intro (con_sw 1001 2 (con_sw 1000 1 (laws_toNetwork_ok a0 v7 h8))) (rfl : ([] : List Nat) = [])) (And.intro (And.intro (con_sw 1000 3 (laws_toTripS_ok a1 v9 h10)) (rfl : ([] : List Nat) = [])) (And.intro (spec_WayEnds_ok v7 v9 a2 v11 h12) (And.intro (And.intro (con_sw 1001 5 (con_sw 1000 4 (laws_toNetwork_ok a0 v13 h14))) (rfl : ([] : List Nat) = [])) (And.intro (And.intro (con_sw 1000 7 (laws_toTripS_ok a1 v15 h16)) (rfl : ([] : List Nat) = [])) (And.intro (impl_WayEnds_ok v13 v15 a2 v17 h18) (And.intro h19 (And.intro (And.intro (con_sw 1001 9 (con_sw 1000 8 (laws_toNetwork_ok a0 v20 h21))) (rfl : ([] : List Nat) = [])) (And.intro (laws_eqNetwork_ok v13 v20 v22 h23) (And.intro (rfl : (laws_FnExactWayEnds_x1 a1 v15 v22) = (laws_FnExactWayEnds_x1 a1 v15 v22)) (And.intro (And.intro (con_sw 1001 9 (con_sw 1000 8 (laws_toNetwork_ok a0 v20 h21))) (rfl : ([] : List Nat) = [])) (And.intro (laws_eqNetwork_ok v13 v20 v22 h23) (And.intro (rfl : (laws_FnExactWayEnds_x1 a1 v15 v22) = (laws_FnExactWayEnds_x1 a1 v15 v22)) (And.intro (And.intro (con_sw 1001 9 (con_sw 1000 8 (laws_toNetwork_ok a0 v20 h21))) (rfl : ([] : List Nat) = [])) (And.intro (laws_eqNetwork_ok v13 v20 v22 h23) (And.intro (rfl : (laws_FnExactWayEnds_x1 a1 v15 v22) = (laws_FnExactWayEnds_x1 a1 v15 v22)) (And.intro h24 (And.intro (And.intro (con_sw 1000 10 (laws_toTripS_ok a1 v25 h26)) (rfl : ([] : List Nat) = [])) (And.intro (laws_eqTripS_ok v15 v25 v27 h28) (And.intro h29 True.intro)))))))))))))))))))))))) (by kernel_rfl)

-- loop.example/g03014/spec.SlackOf
def spec_SlackOf_L1_b (a0 : Network) (a1 : (List Trip)) (s4 : Int) (s5 : Int) : Option (Ctl (Int × Int) Int Int) :=
  bif (decide (s5 < (a1.length : Int))) then
  (gi a1 s5).bind fun v8 =>
  (spec_IsTrip a0 v8).bind fun v10 =>
  bif (!v10) then
  some (.ret (-1))
  else
  bif (decide (s5 > 0)) then
  (gi a1 s5).bind fun v14 =>
  (spec_l3Starts a0 v14).bind fun v16 =>
  (gi a1 (w64 (s5 - 1))).bind fun v18 =>
  (spec_l3Ends a0 v18).bind fun v20 =>
  bif (decide ((w64 ((w64 (v16 - v20)) - a0.Change)) < s4)) then
  some (.next (w64 ((w64 (v16 - v20)) - a0.Change), w64 (s5 + 1)))
  else
  some (.next (s4, w64 (s5 + 1)))
  else
  some (.next (s4, w64 (s5 + 1)))
  else
  some (.brk s4)
def spec_SlackOf_L1 (a0 : Network) (a1 : (List Trip)) (s : Int × Int) : Option (Ctl (Int × Int) Int Int) := spec_SlackOf_L1_b a0 a1 s.1 s.2
def spec_SlackOf_L1_s (a0 : Network) (a1 : (List Trip)) (s4 : Int) (s5 : Int) : St := ⟨[(1, .o (.c (.rs 2 (a1.map Trip.enc)))), (2, .o (.c (.ptr 0 0))), (5, .o (.c (.v (.int .i64 s4)))), (6, .o (.c (.v (.int .i64 s5))))], [(0, .box 54 [.rs 6 (a0.Legs.map Leg.enc), .rs 1 (a0.Off.map encI), .v (.int .i64 a0.Change)])]⟩
def spec_SlackOf_L1_S (a0 : Network) (a1 : (List Trip)) (s : Int × Int) : St := spec_SlackOf_L1_s a0 a1 s.1 s.2
def spec_SlackOf_L1_a (s6 : Int) : Option Int :=
  some s6
def spec_SlackOf_L1_k (x : (Int) ⊕ (Int)) : Option Int := match x with
  | .inl t => spec_SlackOf_L1_a t
  | .inr y => some y
def spec_SlackOf (a0 : Network) (a1 : (List Trip)) : Option Int :=
  (spec_IsNetwork a0).bind fun v1 =>
  bif (!v1) then
  some (-1)
  else
  (loopM (spec_SlackOf_L1 a0 a1) big (100000, 0)).bind (spec_SlackOf_L1_k)
theorem spec_SlackOf_ok (a0 : Network) (a1 : (List Trip)) (r : Int) (hM : spec_SlackOf a0 a1 = some r) :
    Con Try.prog 41 [.agg [.rs 6 (a0.Legs.map Leg.enc), .rs 1 (a0.Off.map encI), .v (.int .i64 a0.Change)], .c (.rs 2 (a1.map Trip.enc))] [] (.o (.c (.v (.int .i64 r)))) [] [] := by
  unfold spec_SlackOf at hM
  refine cn (N := 48) (pids := []) Try_mixed Try.func41 (by kernel_rfl) (by kernel_rfl) (by kernel_rfl) rfl fun ρ g w R => ?_
  obtain ⟨v1, h2, hM⟩ := bind_some hM
  rcases cond_cases hM with ⟨h3, hM⟩ | ⟨h3, hM⟩
  · have hE : some (-1) = some r := hM
    have hE := Option.some.inj hE
    subst hE
    exact pr R 9999 [.new 0, .call false [] (.o (.c (.v (.bool v1)))) [] [], .as 10 true] [] [] [] (And.intro (spec_IsNetwork_ok a0 v1 h2) (And.intro h3 True.intro)) (by kernel_rfl)
  · have K1 : ∀ (s6 : Int), spec_SlackOf_L1_a s6 = some r → Gr R [.code (cAt Try.f41 [1, 1, 1, 1])] (⟨[(5, .o (.c (.v (.int .i64 s6))))], []⟩) := by
      intro s6 hM
      unfold spec_SlackOf_L1_a at hM
      have hE : some s6 = some r := hM
      have hE := Option.some.inj hE
      subst hE
      exact pr R 9999 [] [] [] [] True.intro (by kernel_rfl)
    refine pc R 9999 [.new 0, .call false [] (.o (.c (.v (.bool v1)))) [] [], .as 10 false] [.keep [1, 2, 5, 6] [0]] (k' := [.code (.loop (cAt Try.f41 [1, 1, 1, 0, 1, 0, 0])), .blk 0, .code (cAt Try.f41 [1, 1, 1, 1])]) (S' := spec_SlackOf_L1_S a0 a1 (100000, 0)) (And.intro (spec_IsNetwork_ok a0 v1 h2) (And.intro h3 True.intro)) (by kernel_rfl) ?_
    refine lq (spec_SlackOf_L1_S a0 a1) (body := spec_SlackOf_L1 a0 a1) (k := spec_SlackOf_L1_k) hM fun m1 s c1 hM hK1 => ?_
    obtain ⟨s4, s5⟩ := s
    have hM : spec_SlackOf_L1_b a0 a1 s4 s5 = some c1 := hM
    unfold spec_SlackOf_L1_b at hM
    rcases cond_cases hM with ⟨h7, hM⟩ | ⟨h7, hM⟩
    · obtain ⟨v8, h9, hM⟩ := bind_some hM
      obtain ⟨v10, h11, hM⟩ := bind_some hM
      rcases cond_cases hM with ⟨h12, hM⟩ | ⟨h12, hM⟩
      · have hE : some (Ctl.ret (-1)) = some c1 := hM
        have hE := Option.some.inj hE
        subst hE
        have hE : some (-1) = some r := hK1
        have hE := Option.some.inj hE
        subst hE
        exact pr R 9999 [.ln (a1.length), .as 14 true, .ix (Trip.enc v8), .call false [] (.o (.c (.v (.bool v10)))) [] [], .as 23 true] [] [] [] (And.intro (lenm Trip.enc a1) (And.intro h7 (And.intro (gi_map Trip.enc h9) (And.intro (spec_IsTrip_ok a0 v8 v10 h11) (And.intro h12 True.intro))))) (by kernel_rfl)
      · rcases cond_cases hM with ⟨h13, hM⟩ | ⟨h13, hM⟩
        · obtain ⟨v14, h15, hM⟩ := bind_some hM
          obtain ⟨v16, h17, hM⟩ := bind_some hM
          obtain ⟨v18, h19, hM⟩ := bind_some hM
          obtain ⟨v20, h21, hM⟩ := bind_some hM
          rcases cond_cases hM with ⟨h22, hM⟩ | ⟨h22, hM⟩
          · have hE : some (Ctl.next (w64 ((w64 (v16 - v20)) - a0.Change), w64 (s5 + 1))) = some c1 := hM
            have hE := Option.some.inj hE
            subst hE
            exact pc R 9999 [.ln (a1.length), .as 14 true, .ix (Trip.enc v8), .call false [] (.o (.c (.v (.bool v10)))) [] [], .as 23 false, .as 25 true, .ix (Trip.enc v14), .call false [] (.o (.c (.v (.int .i64 v16)))) [] [], .ix (Trip.enc v18), .call false [] (.o (.c (.v (.int .i64 v20)))) [] [], .as 45 true] [.keep [1, 2, 5, 6] [0]] (And.intro (lenm Trip.enc a1) (And.intro h7 (And.intro (gi_map Trip.enc h9) (And.intro (spec_IsTrip_ok a0 v8 v10 h11) (And.intro h12 (And.intro h13 (And.intro (gi_map Trip.enc h15) (And.intro (spec_l3Starts_ok a0 v14 v16 h17) (And.intro (gi_map Trip.enc h19) (And.intro (spec_l3Ends_ok a0 v18 v20 h21) (And.intro h22 True.intro))))))))))) (by kernel_rfl) (li (Sf := spec_SlackOf_L1_S a0 a1) (M := Mk (spec_SlackOf_L1 a0 a1) (spec_SlackOf_L1_k) r) (k := [.blk 0, .code (cAt Try.f41 [1, 1, 1, 1])]) (Nat.lt_succ_self m1) hK1)
          · have hE : some (Ctl.next (s4, w64 (s5 + 1))) = some c1 := hM
            have hE := Option.some.inj hE
            subst hE
            exact pc R 9999 [.ln (a1.length), .as 14 true, .ix (Trip.enc v8), .call false [] (.o (.c (.v (.bool v10)))) [] [], .as 23 false, .as 25 true, .ix (Trip.enc v14), .call false [] (.o (.c (.v (.int .i64 v16)))) [] [], .ix (Trip.enc v18), .call false [] (.o (.c (.v (.int .i64 v20)))) [] [], .as 45 false] [.keep [1, 2, 5, 6] [0]] (And.intro (lenm Trip.enc a1) (And.intro h7 (And.intro (gi_map Trip.enc h9) (And.intro (spec_IsTrip_ok a0 v8 v10 h11) (And.intro h12 (And.intro h13 (And.intro (gi_map Trip.enc h15) (And.intro (spec_l3Starts_ok a0 v14 v16 h17) (And.intro (gi_map Trip.enc h19) (And.intro (spec_l3Ends_ok a0 v18 v20 h21) (And.intro h22 True.intro))))))))))) (by kernel_rfl) (li (Sf := spec_SlackOf_L1_S a0 a1) (M := Mk (spec_SlackOf_L1 a0 a1) (spec_SlackOf_L1_k) r) (k := [.blk 0, .code (cAt Try.f41 [1, 1, 1, 1])]) (Nat.lt_succ_self m1) hK1)
        · have hE : some (Ctl.next (s4, w64 (s5 + 1))) = some c1 := hM
          have hE := Option.some.inj hE
          subst hE
          exact pc R 9999 [.ln (a1.length), .as 14 true, .ix (Trip.enc v8), .call false [] (.o (.c (.v (.bool v10)))) [] [], .as 23 false, .as 25 false] [.keep [1, 2, 5, 6] [0]] (And.intro (lenm Trip.enc a1) (And.intro h7 (And.intro (gi_map Trip.enc h9) (And.intro (spec_IsTrip_ok a0 v8 v10 h11) (And.intro h12 (And.intro h13 True.intro)))))) (by kernel_rfl) (li (Sf := spec_SlackOf_L1_S a0 a1) (M := Mk (spec_SlackOf_L1 a0 a1) (spec_SlackOf_L1_k) r) (k := [.blk 0, .code (cAt Try.f41 [1, 1, 1, 1])]) (Nat.lt_succ_self m1) hK1)
    · have hE : some (Ctl.brk s4) = some c1 := hM
      have hE := Option.some.inj hE
      subst hE
      exact pc R 5 [.ln (a1.length), .as 14 false] [.keep [5] []] (And.intro (lenm Trip.enc a1) (And.intro h7 True.intro)) (by kernel_rfl) (K1 s4 hK1)

-- loop.example/g03014/impl.SlackOf
def impl_SlackOf_L2_b (a0 : Network) (a1 : (List Trip)) (s5 : Int) (s6 : Int) : Option (Ctl (Int × Int) Int Int) :=
  bif (decide (s6 < (a1.length : Int))) then
  (gi a1 s6).bind fun v9 =>
  (impl_starts a0 v9).bind fun v11 =>
  (gi a1 (w64 (s6 - 1))).bind fun v13 =>
  (impl_ends a0 v13).bind fun v15 =>
  some (.next (if (w64 ((w64 (v11 - v15)) - a0.Change)) < s5 then (w64 ((w64 (v11 - v15)) - a0.Change)) else s5, w64 (s6 + 1)))
  else
  some (.brk s5)
def impl_SlackOf_L2 (a0 : Network) (a1 : (List Trip)) (s : Int × Int) : Option (Ctl (Int × Int) Int Int) := impl_SlackOf_L2_b a0 a1 s.1 s.2
def impl_SlackOf_L2_s (a0 : Network) (a1 : (List Trip)) (s5 : Int) (s6 : Int) : St := ⟨[(1, .o (.c (.rs 2 (a1.map Trip.enc)))), (2, .o (.c (.ptr 0 0))), (7, .o (.c (.v (.int .i64 s5)))), (8, .o (.c (.v (.int .i64 s6))))], [(0, .box 54 [.rs 6 (a0.Legs.map Leg.enc), .rs 1 (a0.Off.map encI), .v (.int .i64 a0.Change)])]⟩
def impl_SlackOf_L2_S (a0 : Network) (a1 : (List Trip)) (s : Int × Int) : St := impl_SlackOf_L2_s a0 a1 s.1 s.2
def impl_SlackOf_L2_a (s7 : Int) : Option Int :=
  some s7
def impl_SlackOf_L2_k (x : (Int) ⊕ (Int)) : Option Int := match x with
  | .inl t => impl_SlackOf_L2_a t
  | .inr y => some y
def impl_SlackOf_L1_b (a0 : Network) (a1 : (List Trip)) (s4 : Int) : Option (Ctl Int Unit Int) :=
  bif (decide (s4 < (a1.length : Int))) then
  (gi a1 s4).bind fun v18 =>
  (impl_IsTrip a0 v18).bind fun v20 =>
  bif (!v20) then
  some (.ret (-1))
  else
  some (.next (w64 (s4 + 1)))
  else
  some (.brk ())
def impl_SlackOf_L1 (a0 : Network) (a1 : (List Trip)) (s : Int) : Option (Ctl Int Unit Int) := impl_SlackOf_L1_b a0 a1 s
def impl_SlackOf_L1_s (a0 : Network) (a1 : (List Trip)) (s4 : Int) : St := ⟨[(1, .o (.c (.rs 2 (a1.map Trip.enc)))), (2, .o (.c (.ptr 0 0))), (12, .o (.c (.rs 2 (a1.map Trip.enc)))), (13, .o (.c (.v (.int .i64 (a1.length : Int))))), (14, .o (.c (.v (.int .i64 s4))))], [(0, .box 54 [.rs 6 (a0.Legs.map Leg.enc), .rs 1 (a0.Off.map encI), .v (.int .i64 a0.Change)])]⟩
def impl_SlackOf_L1_S (a0 : Network) (a1 : (List Trip)) (s : Int) : St := impl_SlackOf_L1_s a0 a1 s
def impl_SlackOf_L1_a (a0 : Network) (a1 : (List Trip)) : Option Int :=
  (loopM (impl_SlackOf_L2 a0 a1) big (100000, 1)).bind (impl_SlackOf_L2_k)
def impl_SlackOf_L1_k (a0 : Network) (a1 : (List Trip)) (x : (Unit) ⊕ (Int)) : Option Int := match x with
  | .inl t => impl_SlackOf_L1_a a0 a1
  | .inr y => some y
def impl_SlackOf (a0 : Network) (a1 : (List Trip)) : Option Int :=
  (impl_IsNetwork a0).bind fun v1 =>
  bif (!v1) then
  some (-1)
  else
  (loopM (impl_SlackOf_L1 a0 a1) big 0).bind (impl_SlackOf_L1_k a0 a1)
theorem impl_SlackOf_ok (a0 : Network) (a1 : (List Trip)) (r : Int) (hM : impl_SlackOf a0 a1 = some r) :
    Con Try.prog 42 [.agg [.rs 6 (a0.Legs.map Leg.enc), .rs 1 (a0.Off.map encI), .v (.int .i64 a0.Change)], .c (.rs 2 (a1.map Trip.enc))] [] (.o (.c (.v (.int .i64 r)))) [] [] := by
  unfold impl_SlackOf at hM
  refine cn (N := 49) (pids := []) Try_mixed Try.func42 (by kernel_rfl) (by kernel_rfl) (by kernel_rfl) rfl fun ρ g w R => ?_
  obtain ⟨v1, h2, hM⟩ := bind_some hM
  rcases cond_cases hM with ⟨h3, hM⟩ | ⟨h3, hM⟩
  · have hE : some (-1) = some r := hM
    have hE := Option.some.inj hE
    subst hE
    exact pr R 9999 [.new 0, .call false [] (.o (.c (.v (.bool v1)))) [] [], .as 11 true] [] [] [] (And.intro (impl_IsNetwork_ok a0 v1 h2) (And.intro h3 True.intro)) (by kernel_rfl)
  · have K1 : ∀ (_ : Unit), impl_SlackOf_L1_a a0 a1 = some r → Gr R [.code (cAt Try.f42 [1, 1, 1])] (⟨[(1, .o (.c (.rs 2 (a1.map Trip.enc)))), (2, .o (.c (.ptr 0 0)))], [(0, .box 54 [.rs 6 (a0.Legs.map Leg.enc), .rs 1 (a0.Off.map encI), .v (.int .i64 a0.Change)])]⟩) := by
      intro _ hM
      unfold impl_SlackOf_L1_a at hM
      have K2 : ∀ (s7 : Int), impl_SlackOf_L2_a s7 = some r → Gr R [.code (cAt Try.f42 [1, 1, 1, 1, 1])] (⟨[(7, .o (.c (.v (.int .i64 s7))))], []⟩) := by
        intro s7 hM
        unfold impl_SlackOf_L2_a at hM
        have hE : some s7 = some r := hM
        have hE := Option.some.inj hE
        subst hE
        exact pr R 9999 [] [] [] [] True.intro (by kernel_rfl)
      refine pc R 9999 [] [.keep [1, 2, 7, 8] [0]] (k' := [.code (.loop (cAt Try.f42 [1, 1, 1, 1, 0, 1, 0, 0])), .blk 2, .code (cAt Try.f42 [1, 1, 1, 1, 1])]) (S' := impl_SlackOf_L2_S a0 a1 (100000, 1)) True.intro (by kernel_rfl) ?_
      refine lq (impl_SlackOf_L2_S a0 a1) (body := impl_SlackOf_L2 a0 a1) (k := impl_SlackOf_L2_k) hM fun m2 s c2 hM hK2 => ?_
      obtain ⟨s5, s6⟩ := s
      have hM : impl_SlackOf_L2_b a0 a1 s5 s6 = some c2 := hM
      unfold impl_SlackOf_L2_b at hM
      rcases cond_cases hM with ⟨h8, hM⟩ | ⟨h8, hM⟩
      · obtain ⟨v9, h10, hM⟩ := bind_some hM
        obtain ⟨v11, h12, hM⟩ := bind_some hM
        obtain ⟨v13, h14, hM⟩ := bind_some hM
        obtain ⟨v15, h16, hM⟩ := bind_some hM
        have hE : some (Ctl.next (if (w64 ((w64 (v11 - v15)) - a0.Change)) < s5 then (w64 ((w64 (v11 - v15)) - a0.Change)) else s5, w64 (s6 + 1))) = some c2 := hM
        have hE := Option.some.inj hE
        subst hE
        exact pc R 9999 [.ln (a1.length), .as 26 true, .ix (Trip.enc v9), .call false [] (.o (.c (.v (.int .i64 v11)))) [] [], .ix (Trip.enc v13), .call false [] (.o (.c (.v (.int .i64 v15)))) [] []] [.keep [1, 2, 7, 8] [0]] (And.intro (lenm Trip.enc a1) (And.intro h8 (And.intro (gi_map Trip.enc h10) (And.intro (impl_starts_ok a0 v9 v11 h12) (And.intro (gi_map Trip.enc h14) (And.intro (impl_ends_ok a0 v13 v15 h16) True.intro)))))) (by kernel_rfl) (li (Sf := impl_SlackOf_L2_S a0 a1) (M := Mk (impl_SlackOf_L2 a0 a1) (impl_SlackOf_L2_k) r) (k := [.blk 2, .code (cAt Try.f42 [1, 1, 1, 1, 1])]) (Nat.lt_succ_self m2) hK2)
      · have hE : some (Ctl.brk s5) = some c2 := hM
        have hE := Option.some.inj hE
        subst hE
        exact pc R 5 [.ln (a1.length), .as 26 false] [.keep [7] []] (And.intro (lenm Trip.enc a1) (And.intro h8 True.intro)) (by kernel_rfl) (K2 s5 hK2)
    refine pc R 9999 [.new 0, .call false [] (.o (.c (.v (.bool v1)))) [] [], .as 11 false, .ln (a1.length)] [.keep [1, 2, 12, 13, 14] [0]] (k' := [.code (.loop (cAt Try.f42 [1, 1, 0, 1, 0, 0])), .blk 0, .code (cAt Try.f42 [1, 1, 1])]) (S' := impl_SlackOf_L1_S a0 a1 0) (And.intro (impl_IsNetwork_ok a0 v1 h2) (And.intro h3 (And.intro (lenm Trip.enc a1) True.intro))) (by kernel_rfl) ?_
    refine lq (impl_SlackOf_L1_S a0 a1) (body := impl_SlackOf_L1 a0 a1) (k := impl_SlackOf_L1_k a0 a1) hM fun m1 s c1 hM hK1 => ?_
    obtain ⟨s4, hs⟩ : ∃ z, z = s := ⟨_, rfl⟩
    subst hs
    have hM : impl_SlackOf_L1_b a0 a1 s4 = some c1 := hM
    unfold impl_SlackOf_L1_b at hM
    rcases cond_cases hM with ⟨h17, hM⟩ | ⟨h17, hM⟩
    · obtain ⟨v18, h19, hM⟩ := bind_some hM
      obtain ⟨v20, h21, hM⟩ := bind_some hM
      rcases cond_cases hM with ⟨h22, hM⟩ | ⟨h22, hM⟩
      · have hE : some (Ctl.ret (-1)) = some c1 := hM
        have hE := Option.some.inj hE
        subst hE
        have hE : some (-1) = some r := hK1
        have hE := Option.some.inj hE
        subst hE
        exact pr R 9999 [.as 15 true, .ix (Trip.enc v18), .new 1, .call false [] (.o (.c (.v (.bool v20)))) [] [], .as 21 true] [] [] [] (And.intro h17 (And.intro (gi_map Trip.enc h19) (And.intro (impl_IsTrip_ok a0 v18 v20 h21) (And.intro h22 True.intro)))) (by kernel_rfl)
      · have hE : some (Ctl.next (w64 (s4 + 1))) = some c1 := hM
        have hE := Option.some.inj hE
        subst hE
        exact pc R 9999 [.as 15 true, .ix (Trip.enc v18), .new 1, .call false [] (.o (.c (.v (.bool v20)))) [] [], .as 21 false] [.keep [1, 2, 12, 13, 14] [0]] (And.intro h17 (And.intro (gi_map Trip.enc h19) (And.intro (impl_IsTrip_ok a0 v18 v20 h21) (And.intro h22 True.intro)))) (by kernel_rfl) (li (Sf := impl_SlackOf_L1_S a0 a1) (M := Mk (impl_SlackOf_L1 a0 a1) (impl_SlackOf_L1_k a0 a1) r) (k := [.blk 0, .code (cAt Try.f42 [1, 1, 1])]) (Nat.lt_succ_self m1) hK1)
    · have hE : some (Ctl.brk ()) = some c1 := hM
      have hE := Option.some.inj hE
      subst hE
      exact pc R 5 [.as 15 false] [.keep [1, 2] [0]] (And.intro h17 True.intro) (by kernel_rfl) (K1 () hK1)

-- loop.example/g03014/laws.FnExactSlackOf
def laws_FnExactSlackOf_x1 (a1 : (List Trip)) (v15 : (List Trip)) (v22 : Bool) : St := ⟨[(1, .o (.c (.rs 2 (a1.map Trip.enc)))), (8, .o (.c (.sl 7))), (39, .o (.c (.v (.bool (!v22)))))], [(7, .row 31 2 (v15.map Trip.enc))]⟩
def laws_FnExactSlackOf (a0 : Network) (a1 : (List Trip)) : Option Bool :=
  (laws_szNetwork a0 1048576).bind fun v1 =>
  bif (decide (v1 < 0)) then
  some true
  else
  (laws_szTripS a1 v1).bind fun v4 =>
  bif (decide (v4 < 0)) then
  some true
  else
  (laws_toNetwork a0).bind fun v7 =>
  (laws_toTripS a1).bind fun v9 =>
  (spec_SlackOf v7 v9).bind fun v11 =>
  (laws_toNetwork a0).bind fun v13 =>
  (laws_toTripS a1).bind fun v15 =>
  (impl_SlackOf v13 v15).bind fun v17 =>
  bif (v17 != v11) then
  some false
  else
  (laws_toNetwork a0).bind fun v20 =>
  (laws_eqNetwork v13 v20).bind fun v22 =>
  bif (!v22) then
  some false
  else
  (laws_toTripS a1).bind fun v25 =>
  (laws_eqTripS v15 v25).bind fun v27 =>
  bif (!v27) then
  some false
  else
  some true
theorem laws_FnExactSlackOf_ok (a0 : Network) (a1 : (List Trip)) (r : Bool) (hM : laws_FnExactSlackOf a0 a1 = some r) :
    Con Try.prog 8 [.agg [.rs 6 (a0.Legs.map Leg.enc), .rs 1 (a0.Off.map encI), .v (.int .i64 a0.Change)], .c (.rs 2 (a1.map Trip.enc))] [] (.o (.c (.v (.bool r)))) [] [] := by
  unfold laws_FnExactSlackOf at hM
  refine cn (N := 45) (pids := []) Try_mixed Try.func8 (by kernel_rfl) (by kernel_rfl) (by kernel_rfl) rfl fun ρ g w R => ?_
  obtain ⟨v1, h2, hM⟩ := bind_some hM
  rcases cond_cases hM with ⟨h3, hM⟩ | ⟨h3, hM⟩
  · have hE : some true = some r := hM
    have hE := Option.some.inj hE
    subst hE
    exact pr R 9999 [.new 0, .call false [] (.o (.c (.v (.int .i64 v1)))) [] [], .as 14 true] [] [] [] (And.intro (laws_szNetwork_ok a0 1048576 v1 h2) (And.intro h3 True.intro)) (by kernel_rfl)
  · obtain ⟨v4, h5, hM⟩ := bind_some hM
    rcases cond_cases hM with ⟨h6, hM⟩ | ⟨h6, hM⟩
    · have hE : some true = some r := hM
      have hE := Option.some.inj hE
      subst hE
      exact pr R 9999 [.new 0, .call false [] (.o (.c (.v (.int .i64 v1)))) [] [], .as 14 false, .call false [] (.o (.c (.v (.int .i64 v4)))) [] [], .as 19 true] [] [] [] (And.intro (laws_szNetwork_ok a0 1048576 v1 h2) (And.intro h3 (And.intro (laws_szTripS_ok a1 v1 v4 h5) (And.intro h6 True.intro)))) (by kernel_rfl)
    · obtain ⟨v7, h8, hM⟩ := bind_some hM
      obtain ⟨v9, h10, hM⟩ := bind_some hM
      obtain ⟨v11, h12, hM⟩ := bind_some hM
      obtain ⟨v13, h14, hM⟩ := bind_some hM
      obtain ⟨v15, h16, hM⟩ := bind_some hM
      obtain ⟨v17, h18, hM⟩ := bind_some hM
      rcases cond_cases hM with ⟨h19, hM⟩ | ⟨h19, hM⟩
      · have hE : some false = some r := hM
        have hE := Option.some.inj hE
        subst hE
        exact pr R 9999 [.new 0, .call false [] (.o (.c (.v (.int .i64 v1)))) [] [], .as 14 false, .call false [] (.o (.c (.v (.int .i64 v4)))) [] [], .as 19 false, .call false [] (.o (.agg [.sl 1, .sl 2, .v (.int .i64 v7.Change)])) [] [(1, .row 89 6 (v7.Legs.map Leg.enc)), (2, .row 3 1 (v7.Off.map encI))], .call false [] (.o (.c (.sl 3))) [] [(3, .row 31 2 (v9.map Trip.enc))], .call false [] (.o (.c (.v (.int .i64 v11)))) [] [], .call false [] (.o (.agg [.sl 4, .sl 5, .v (.int .i64 v13.Change)])) [] [(4, .row 89 6 (v13.Legs.map Leg.enc)), (5, .row 3 1 (v13.Off.map encI))], .new 6, .call false [] (.o (.c (.sl 7))) [] [(7, .row 31 2 (v15.map Trip.enc))], .call false [] (.o (.c (.v (.int .i64 v17)))) [] [], .as 34 true] [] [] [] (And.intro (laws_szNetwork_ok a0 1048576 v1 h2) (And.intro h3 (And.intro (laws_szTripS_ok a1 v1 v4 h5) (And.intro h6 (And.intro (And.intro (con_sw 1001 2 (con_sw 1000 1 (laws_toNetwork_ok a0 v7 h8))) (rfl : ([] : List Nat) = [])) (And.intro (And.intro (con_sw 1000 3 (laws_toTripS_ok a1 v9 h10)) (rfl : ([] : List Nat) = [])) (And.intro (spec_SlackOf_ok v7 v9 v11 h12) (And.intro (And.intro (con_sw 1001 5 (con_sw 1000 4 (laws_toNetwork_ok a0 v13 h14))) (rfl : ([] : List Nat) = [])) (And.intro (And.intro (con_sw 1000 7 (laws_toTripS_ok a1 v15 h16)) (rfl : ([] : List Nat) = [])) (And.intro (impl_SlackOf_ok v13 v15 v17 h18) (And.intro h19 True.intro))))))))))) (by kernel_rfl)
      · obtain ⟨v20, h21, hM⟩ := bind_some hM
        obtain ⟨v22, h23, hM⟩ := bind_some hM
        rcases cond_cases hM with ⟨h24, hM⟩ | ⟨h24, hM⟩
        · have hE : some false = some r := hM
          have hE := Option.some.inj hE
          subst hE
          exact pr R 9999 [.new 0, .call false [] (.o (.c (.v (.int .i64 v1)))) [] [], .as 14 false, .call false [] (.o (.c (.v (.int .i64 v4)))) [] [], .as 19 false, .call false [] (.o (.agg [.sl 1, .sl 2, .v (.int .i64 v7.Change)])) [] [(1, .row 89 6 (v7.Legs.map Leg.enc)), (2, .row 3 1 (v7.Off.map encI))], .call false [] (.o (.c (.sl 3))) [] [(3, .row 31 2 (v9.map Trip.enc))], .call false [] (.o (.c (.v (.int .i64 v11)))) [] [], .call false [] (.o (.agg [.sl 4, .sl 5, .v (.int .i64 v13.Change)])) [] [(4, .row 89 6 (v13.Legs.map Leg.enc)), (5, .row 3 1 (v13.Off.map encI))], .new 6, .call false [] (.o (.c (.sl 7))) [] [(7, .row 31 2 (v15.map Trip.enc))], .call false [] (.o (.c (.v (.int .i64 v17)))) [] [], .as 34 false, .xo [[], [], [.call false [] (.o (.agg [.sl 8, .sl 9, .v (.int .i64 v20.Change)])) [] [(8, .row 89 6 (v20.Legs.map Leg.enc)), (9, .row 3 1 (v20.Off.map encI))]], [.call false [] (.o (.c (.v (.bool v22)))) [] []], []] [.keep [1, 8, 39] [7]] (laws_FnExactSlackOf_x1 a1 v15 v22), .as 39 true] [] [] [] (And.intro (laws_szNetwork_ok a0 1048576 v1 h2) (And.intro h3 (And.intro (laws_szTripS_ok a1 v1 v4 h5) (And.intro h6 (And.intro (And.intro (con_sw 1001 2 (con_sw 1000 1 (laws_toNetwork_ok a0 v7 h8))) (rfl : ([] : List Nat) = [])) (And.intro (And.intro (con_sw 1000 3 (laws_toTripS_ok a1 v9 h10)) (rfl : ([] : List Nat) = [])) (And.intro (spec_SlackOf_ok v7 v9 v11 h12) (And.intro (And.intro (con_sw 1001 5 (con_sw 1000 4 (laws_toNetwork_ok a0 v13 h14))) (rfl : ([] : List Nat) = [])) (And.intro (And.intro (con_sw 1000 7 (laws_toTripS_ok a1 v15 h16)) (rfl : ([] : List Nat) = [])) (And.intro (impl_SlackOf_ok v13 v15 v17 h18) (And.intro h19 (And.intro (And.intro (con_sw 1001 9 (con_sw 1000 8 (laws_toNetwork_ok a0 v20 h21))) (rfl : ([] : List Nat) = [])) (And.intro (laws_eqNetwork_ok v13 v20 v22 h23) (And.intro (rfl : (laws_FnExactSlackOf_x1 a1 v15 v22) = (laws_FnExactSlackOf_x1 a1 v15 v22)) (And.intro (And.intro (con_sw 1001 9 (con_sw 1000 8 (laws_toNetwork_ok a0 v20 h21))) (rfl : ([] : List Nat) = [])) (And.intro (laws_eqNetwork_ok v13 v20 v22 h23) (And.intro (rfl : (laws_FnExactSlackOf_x1 a1 v15 v22) = (laws_FnExactSlackOf_x1 a1 v15 v22)) (And.intro (And.intro (con_sw 1001 9 (con_sw 1000 8 (laws_toNetwork_ok a0 v20 h21))) (rfl : ([] : List Nat) = [])) (And.intro (laws_eqNetwork_ok v13 v20 v22 h23) (And.intro (rfl : (laws_FnExactSlackOf_x1 a1 v15 v22) = (laws_FnExactSlackOf_x1 a1 v15 v22)) (And.intro h24 True.intro))))))))))))))))))))) (by kernel_rfl)
        · obtain ⟨v25, h26, hM⟩ := bind_some hM
          obtain ⟨v27, h28, hM⟩ := bind_some hM
          rcases cond_cases hM with ⟨h29, hM⟩ | ⟨h29, hM⟩
          · have hE : some false = some r := hM
            have hE := Option.some.inj hE
            subst hE
            exact pr R 9999 [.new 0, .call false [] (.o (.c (.v (.int .i64 v1)))) [] [], .as 14 false, .call false [] (.o (.c (.v (.int .i64 v4)))) [] [], .as 19 false, .call false [] (.o (.agg [.sl 1, .sl 2, .v (.int .i64 v7.Change)])) [] [(1, .row 89 6 (v7.Legs.map Leg.enc)), (2, .row 3 1 (v7.Off.map encI))], .call false [] (.o (.c (.sl 3))) [] [(3, .row 31 2 (v9.map Trip.enc))], .call false [] (.o (.c (.v (.int .i64 v11)))) [] [], .call false [] (.o (.agg [.sl 4, .sl 5, .v (.int .i64 v13.Change)])) [] [(4, .row 89 6 (v13.Legs.map Leg.enc)), (5, .row 3 1 (v13.Off.map encI))], .new 6, .call false [] (.o (.c (.sl 7))) [] [(7, .row 31 2 (v15.map Trip.enc))], .call false [] (.o (.c (.v (.int .i64 v17)))) [] [], .as 34 false, .xo [[], [], [.call false [] (.o (.agg [.sl 8, .sl 9, .v (.int .i64 v20.Change)])) [] [(8, .row 89 6 (v20.Legs.map Leg.enc)), (9, .row 3 1 (v20.Off.map encI))]], [.call false [] (.o (.c (.v (.bool v22)))) [] []], []] [.keep [1, 8, 39] [7]] (laws_FnExactSlackOf_x1 a1 v15 v22), .as 39 false, .call false [] (.o (.c (.sl 10))) [] [(10, .row 31 2 (v25.map Trip.enc))], .call false [] (.o (.c (.v (.bool v27)))) [] [], .as 44 true] [] [] [] (And.intro (laws_szNetwork_ok a0 1048576 v1 h2) (And.intro h3 (And.intro (laws_szTripS_ok a1 v1 v4 h5) (And.intro h6 (And.intro (And.intro (con_sw 1001 2 (con_sw 1000 1 (laws_toNetwork_ok a0 v7 h8))) (rfl : ([] : List Nat) = [])) (And.intro (And.intro (con_sw 1000 3 (laws_toTripS_ok a1 v9 h10)) (rfl : ([] : List Nat) = [])) (And.intro (spec_SlackOf_ok v7 v9 v11 h12) (And.intro (And.intro (con_sw 1001 5 (con_sw 1000 4 (laws_toNetwork_ok a0 v13 h14))) (rfl : ([] : List Nat) = [])) (And.intro (And.intro (con_sw 1000 7 (laws_toTripS_ok a1 v15 h16)) (rfl : ([] : List Nat) = [])) (And.intro (impl_SlackOf_ok v13 v15 v17 h18) (And.intro h19 (And.intro (And.intro (con_sw 1001 9 (con_sw 1000 8 (laws_toNetwork_ok a0 v20 h21))) (rfl : ([] : List Nat) = [])) (And.intro (laws_eqNetwork_ok v13 v20 v22 h23) (And.intro (rfl : (laws_FnExactSlackOf_x1 a1 v15 v22) = (laws_FnExactSlackOf_x1 a1 v15 v22)) (And.intro (And.intro (con_sw 1001 9 (con_sw 1000 8 (laws_toNetwork_ok a0 v20 h21))) (rfl : ([] : List Nat) = [])) (And.intro (laws_eqNetwork_ok v13 v20 v22 h23) (And.intro (rfl : (laws_FnExactSlackOf_x1 a1 v15 v22) = (laws_FnExactSlackOf_x1 a1 v15 v22)) (And.intro (And.intro (con_sw 1001 9 (con_sw 1000 8 (laws_toNetwork_ok a0 v20 h21))) (rfl : ([] : List Nat) = [])) (And.intro (laws_eqNetwork_ok v13 v20 v22 h23) (And.intro (rfl : (laws_FnExactSlackOf_x1 a1 v15 v22) = (laws_FnExactSlackOf_x1 a1 v15 v22)) (And.intro h24 (And.intro (And.intro (con_sw 1000 10 (laws_toTripS_ok a1 v25 h26)) (rfl : ([] : List Nat) = [])) (And.intro (laws_eqTripS_ok v15 v25 v27 h28) (And.intro h29 True.intro)))))))))))))))))))))))) (by kernel_rfl)
          · have hE : some true = some r := hM
            have hE := Option.some.inj hE
            subst hE
            exact pr R 9999 [.new 0, .call false [] (.o (.c (.v (.int .i64 v1)))) [] [], .as 14 false, .call false [] (.o (.c (.v (.int .i64 v4)))) [] [], .as 19 false, .call false [] (.o (.agg [.sl 1, .sl 2, .v (.int .i64 v7.Change)])) [] [(1, .row 89 6 (v7.Legs.map Leg.enc)), (2, .row 3 1 (v7.Off.map encI))], .call false [] (.o (.c (.sl 3))) [] [(3, .row 31 2 (v9.map Trip.enc))], .call false [] (.o (.c (.v (.int .i64 v11)))) [] [], .call false [] (.o (.agg [.sl 4, .sl 5, .v (.int .i64 v13.Change)])) [] [(4, .row 89 6 (v13.Legs.map Leg.enc)), (5, .row 3 1 (v13.Off.map encI))], .new 6, .call false [] (.o (.c (.sl 7))) [] [(7, .row 31 2 (v15.map Trip.enc))], .call false [] (.o (.c (.v (.int .i64 v17)))) [] [], .as 34 false, .xo [[], [], [.call false [] (.o (.agg [.sl 8, .sl 9, .v (.int .i64 v20.Change)])) [] [(8, .row 89 6 (v20.Legs.map Leg.enc)), (9, .row 3 1 (v20.Off.map encI))]], [.call false [] (.o (.c (.v (.bool v22)))) [] []], []] [.keep [1, 8, 39] [7]] (laws_FnExactSlackOf_x1 a1 v15 v22), .as 39 false, .call false [] (.o (.c (.sl 10))) [] [(10, .row 31 2 (v25.map Trip.enc))], .call false [] (.o (.c (.v (.bool v27)))) [] [], .as 44 false] [] [] [] (And.intro (laws_szNetwork_ok a0 1048576 v1 h2) (And.intro h3 (And.intro (laws_szTripS_ok a1 v1 v4 h5) (And.intro h6 (And.intro (And.intro (con_sw 1001 2 (con_sw 1000 1 (laws_toNetwork_ok a0 v7 h8))) (rfl : ([] : List Nat) = [])) (And.intro (And.intro (con_sw 1000 3 (laws_toTripS_ok a1 v9 h10)) (rfl : ([] : List Nat) = [])) (And.intro (spec_SlackOf_ok v7 v9 v11 h12) (And.intro (And.intro (con_sw 1001 5 (con_sw 1000 4 (laws_toNetwork_ok a0 v13 h14))) (rfl : ([] : List Nat) = [])) (And.intro (And.intro (con_sw 1000 7 (laws_toTripS_ok a1 v15 h16)) (rfl : ([] : List Nat) = [])) (And.intro (impl_SlackOf_ok v13 v15 v17 h18) (And.intro h19 (And.intro (And.intro (con_sw 1001 9 (con_sw 1000 8 (laws_toNetwork_ok a0 v20 h21))) (rfl : ([] : List Nat) = [])) (And.intro (laws_eqNetwork_ok v13 v20 v22 h23) (And.intro (rfl : (laws_FnExactSlackOf_x1 a1 v15 v22) = (laws_FnExactSlackOf_x1 a1 v15 v22)) (And.intro (And.intro (con_sw 1001 9 (con_sw 1000 8 (laws_toNetwork_ok a0 v20 h21))) (rfl : ([] : List Nat) = [])) (And.intro (laws_eqNetwork_ok v13 v20 v22 h23) (And.intro (rfl : (laws_FnExactSlackOf_x1 a1 v15 v22) = (laws_FnExactSlackOf_x1 a1 v15 v22)) (And.intro (And.intro (con_sw 1001 9 (con_sw 1000 8 (laws_toNetwork_ok a0 v20 h21))) (rfl : ([] : List Nat) = [])) (And.intro (laws_eqNetwork_ok v13 v20 v22 h23) (And.intro (rfl : (laws_FnExactSlackOf_x1 a1 v15 v22) = (laws_FnExactSlackOf_x1 a1 v15 v22)) (And.intro h24 (And.intro (And.intro (con_sw 1000 10 (laws_toTripS_ok a1 v25 h26)) (rfl : ([] : List Nat) = [])) (And.intro (laws_eqTripS_ok v15 v25 v27 h28) (And.intro h29 True.intro)))))))))))))))))))))))) (by kernel_rfl)

-- loop.example/g03014/spec.l6Before
def spec_l6Before (a0 : Booking) (a1 : Booking) : Option Bool :=
  bif (a0.Trip.Day != a1.Trip.Day) then
  some (decide (a0.Trip.Day < a1.Trip.Day))
  else
  bif (a0.Trip.Leg != a1.Trip.Leg) then
  some (decide (a0.Trip.Leg < a1.Trip.Leg))
  else
  some (decide (a0.Thing < a1.Thing))
theorem spec_l6Before_ok (a0 : Booking) (a1 : Booking) (r : Bool) (hM : spec_l6Before a0 a1 = some r) :
    Con Try.prog 75 [.c (.v (.agg (Booking.enc a0).toArray)), .c (.v (.agg (Booking.enc a1).toArray))] [] (.o (.c (.v (.bool r)))) [] [] := by
  unfold spec_l6Before at hM
  refine cn (N := 40) (pids := []) Try_mixed Try.func75 (by kernel_rfl) (by kernel_rfl) (by kernel_rfl) rfl fun ρ g w R => ?_
  rcases cond_cases hM with ⟨h1, hM⟩ | ⟨h1, hM⟩
  · have hE : some (decide (a0.Trip.Day < a1.Trip.Day)) = some r := hM
    have hE := Option.some.inj hE
    subst hE
    exact pr R 9999 [.new 0, .new 1, .as 5 true] [] [] [] (And.intro h1 True.intro) (by kernel_rfl)
  · rcases cond_cases hM with ⟨h2, hM⟩ | ⟨h2, hM⟩
    · have hE : some (decide (a0.Trip.Leg < a1.Trip.Leg)) = some r := hM
      have hE := Option.some.inj hE
      subst hE
      exact pr R 9999 [.new 0, .new 1, .as 5 false, .as 20 true] [] [] [] (And.intro h1 (And.intro h2 True.intro)) (by kernel_rfl)
    · have hE : some (decide (a0.Thing < a1.Thing)) = some r := hM
      have hE := Option.some.inj hE
      subst hE
      exact pr R 9999 [.new 0, .new 1, .as 5 false, .as 20 false] [] [] [] (And.intro h1 (And.intro h2 True.intro)) (by kernel_rfl)

-- loop.example/g03014/spec.AreBookings
def spec_AreBookings_L2_b (a0 : Network) (a1 : (List Booking)) (s6 : Int) : Option (Ctl Int Unit Bool) :=
  bif (decide (s6 < (a1.length : Int))) then
  (gi a1 s6).bind fun v8 =>
  (spec_LoadOf a1 v8.Trip).bind fun v10 =>
  (gi a1 s6).bind fun v12 =>
  (gi a0.Legs v12.Trip.Leg).bind fun v14 =>
  bif (decide (v10 > v14.Room)) then
  some (.ret false)
  else
  some (.next (w64 (s6 + 1)))
  else
  some (.brk ())
def spec_AreBookings_L2 (a0 : Network) (a1 : (List Booking)) (s : Int) : Option (Ctl Int Unit Bool) := spec_AreBookings_L2_b a0 a1 s
def spec_AreBookings_L2_s (a0 : Network) (a1 : (List Booking)) (s6 : Int) : St := ⟨[(1, .o (.c (.rs 4 (a1.map Booking.enc)))), (2, .o (.c (.ptr 0 0))), (7, .o (.c (.v (.int .i64 s6))))], [(0, .box 54 [.rs 6 (a0.Legs.map Leg.enc), .rs 1 (a0.Off.map encI), .v (.int .i64 a0.Change)])]⟩
def spec_AreBookings_L2_S (a0 : Network) (a1 : (List Booking)) (s : Int) : St := spec_AreBookings_L2_s a0 a1 s
def spec_AreBookings_L2_a : Option Bool :=
  some true
def spec_AreBookings_L2_k (x : (Unit) ⊕ (Bool)) : Option Bool := match x with
  | .inl t => spec_AreBookings_L2_a
  | .inr y => some y
def spec_AreBookings_L1_b (a0 : Network) (a1 : (List Booking)) (s5 : Int) : Option (Ctl Int Unit Bool) :=
  bif (decide (s5 < (a1.length : Int))) then
  (gi a1 s5).bind fun v18 =>
  (spec_l3Runs a0 v18.Trip.Leg v18.Trip.Day).bind fun v20 =>
  bif (!v20) then
  some (.ret false)
  else
  (spec_l1In v18.Thing 1 9999).bind fun v23 =>
  bif (!v23) then
  some (.ret false)
  else
  (spec_l1In v18.Weight 1 1000000).bind fun v26 =>
  bif (!v26) then
  some (.ret false)
  else
  bif (decide (s5 > 0)) then
  (gi a1 (w64 (s5 - 1))).bind fun v30 =>
  (spec_l6Before v30 v18).bind fun v32 =>
  bif (!v32) then
  some (.ret false)
  else
  some (.next (w64 (s5 + 1)))
  else
  some (.next (w64 (s5 + 1)))
  else
  some (.brk ())
def spec_AreBookings_L1 (a0 : Network) (a1 : (List Booking)) (s : Int) : Option (Ctl Int Unit Bool) := spec_AreBookings_L1_b a0 a1 s
def spec_AreBookings_L1_s (a0 : Network) (a1 : (List Booking)) (s5 : Int) : St := ⟨[(1, .o (.c (.rs 4 (a1.map Booking.enc)))), (2, .o (.c (.ptr 0 0))), (5, .o (.c (.v (.int .i64 s5))))], [(0, .box 54 [.rs 6 (a0.Legs.map Leg.enc), .rs 1 (a0.Off.map encI), .v (.int .i64 a0.Change)])]⟩
def spec_AreBookings_L1_S (a0 : Network) (a1 : (List Booking)) (s : Int) : St := spec_AreBookings_L1_s a0 a1 s
def spec_AreBookings_L1_a (a0 : Network) (a1 : (List Booking)) : Option Bool :=
  (loopM (spec_AreBookings_L2 a0 a1) big 0).bind (spec_AreBookings_L2_k)
def spec_AreBookings_L1_k (a0 : Network) (a1 : (List Booking)) (x : (Unit) ⊕ (Bool)) : Option Bool := match x with
  | .inl t => spec_AreBookings_L1_a a0 a1
  | .inr y => some y
def spec_AreBookings (a0 : Network) (a1 : (List Booking)) : Option Bool :=
  (spec_IsNetwork a0).bind fun v1 =>
  bif (!v1) then
  some false
  else
  bif (decide ((a1.length : Int) > 120)) then
  some false
  else
  (loopM (spec_AreBookings_L1 a0 a1) big 0).bind (spec_AreBookings_L1_k a0 a1)
theorem spec_AreBookings_ok (a0 : Network) (a1 : (List Booking)) (r : Bool) (hM : spec_AreBookings a0 a1 = some r) :
    Con Try.prog 43 [.agg [.rs 6 (a0.Legs.map Leg.enc), .rs 1 (a0.Off.map encI), .v (.int .i64 a0.Change)], .c (.rs 4 (a1.map Booking.enc))] [] (.o (.c (.v (.bool r)))) [] [] := by
  unfold spec_AreBookings at hM
  refine cn (N := 86) (pids := []) Try_mixed Try.func43 (by kernel_rfl) (by kernel_rfl) (by kernel_rfl) rfl fun ρ g w R => ?_
  obtain ⟨v1, h2, hM⟩ := bind_some hM
  rcases cond_cases hM with ⟨h3, hM⟩ | ⟨h3, hM⟩
  · have hE : some false = some r := hM
    have hE := Option.some.inj hE
    subst hE
    exact pr R 9999 [.new 0, .call false [] (.o (.c (.v (.bool v1)))) [] [], .as 11 true] [] [] [] (And.intro (spec_IsNetwork_ok a0 v1 h2) (And.intro h3 True.intro)) (by kernel_rfl)
  · rcases cond_cases hM with ⟨h4, hM⟩ | ⟨h4, hM⟩
    · have hE : some false = some r := hM
      have hE := Option.some.inj hE
      subst hE
      exact pr R 9999 [.new 0, .call false [] (.o (.c (.v (.bool v1)))) [] [], .as 11 false, .ln (a1.length), .as 15 true] [] [] [] (And.intro (spec_IsNetwork_ok a0 v1 h2) (And.intro h3 (And.intro (lenm Booking.enc a1) (And.intro h4 True.intro)))) (by kernel_rfl)
    · have K1 : ∀ (_ : Unit), spec_AreBookings_L1_a a0 a1 = some r → Gr R [.code (cAt Try.f43 [1, 1, 1])] (⟨[(1, .o (.c (.rs 4 (a1.map Booking.enc)))), (2, .o (.c (.ptr 0 0)))], [(0, .box 54 [.rs 6 (a0.Legs.map Leg.enc), .rs 1 (a0.Off.map encI), .v (.int .i64 a0.Change)])]⟩) := by
        intro _ hM
        unfold spec_AreBookings_L1_a at hM
        have K2 : ∀ (_ : Unit), spec_AreBookings_L2_a = some r → Gr R [.code (cAt Try.f43 [1, 1, 1, 1])] (⟨[], []⟩) := by
          intro _ hM
          unfold spec_AreBookings_L2_a at hM
          have hE : some true = some r := hM
          have hE := Option.some.inj hE
          subst hE
          exact pr R 9999 [] [] [] [] True.intro (by kernel_rfl)
        refine pc R 9999 [] [.keep [1, 2, 7] [0]] (k' := [.code (.loop (cAt Try.f43 [1, 1, 1, 0, 1, 0, 0])), .blk 2, .code (cAt Try.f43 [1, 1, 1, 1])]) (S' := spec_AreBookings_L2_S a0 a1 0) True.intro (by kernel_rfl) ?_
        refine lq (spec_AreBookings_L2_S a0 a1) (body := spec_AreBookings_L2 a0 a1) (k := spec_AreBookings_L2_k) hM fun m2 s c2 hM hK2 => ?_
        obtain ⟨s6, hs⟩ : ∃ z, z = s := ⟨_, rfl⟩
        subst hs
        have hM : spec_AreBookings_L2_b a0 a1 s6 = some c2 := hM
        unfold spec_AreBookings_L2_b at hM
        rcases cond_cases hM with ⟨h7, hM⟩ | ⟨h7, hM⟩
        · obtain ⟨v8, h9, hM⟩ := bind_some hM
          obtain ⟨v10, h11, hM⟩ := bind_some hM
          obtain ⟨v12, h13, hM⟩ := bind_some hM
          obtain ⟨v14, h15, hM⟩ := bind_some hM
          rcases cond_cases hM with ⟨h16, hM⟩ | ⟨h16, hM⟩
          · have hE : some (Ctl.ret false) = some c2 := hM
            have hE := Option.some.inj hE
            subst hE
            have hE : some false = some r := hK2
            have hE := Option.some.inj hE
            subst hE
            exact pr R 9999 [.ln (a1.length), .as 64 true, .ix (Booking.enc v8), .call false [] (.o (.c (.v (.int .i64 v10)))) [] [], .ix (Booking.enc v12), .ix (Leg.enc v14), .as 85 true] [] [] [] (And.intro (lenm Booking.enc a1) (And.intro h7 (And.intro (gi_map Booking.enc h9) (And.intro (spec_LoadOf_ok a1 v8.Trip v10 h11) (And.intro (gi_map Booking.enc h13) (And.intro (gi_map Leg.enc h15) (And.intro h16 True.intro))))))) (by kernel_rfl)
          · have hE : some (Ctl.next (w64 (s6 + 1))) = some c2 := hM
            have hE := Option.some.inj hE
            subst hE
            exact pc R 9999 [.ln (a1.length), .as 64 true, .ix (Booking.enc v8), .call false [] (.o (.c (.v (.int .i64 v10)))) [] [], .ix (Booking.enc v12), .ix (Leg.enc v14), .as 85 false] [.keep [1, 2, 7] [0]] (And.intro (lenm Booking.enc a1) (And.intro h7 (And.intro (gi_map Booking.enc h9) (And.intro (spec_LoadOf_ok a1 v8.Trip v10 h11) (And.intro (gi_map Booking.enc h13) (And.intro (gi_map Leg.enc h15) (And.intro h16 True.intro))))))) (by kernel_rfl) (li (Sf := spec_AreBookings_L2_S a0 a1) (M := Mk (spec_AreBookings_L2 a0 a1) (spec_AreBookings_L2_k) r) (k := [.blk 2, .code (cAt Try.f43 [1, 1, 1, 1])]) (Nat.lt_succ_self m2) hK2)
        · have hE : some (Ctl.brk ()) = some c2 := hM
          have hE := Option.some.inj hE
          subst hE
          exact pc R 5 [.ln (a1.length), .as 64 false] [.keep [] []] (And.intro (lenm Booking.enc a1) (And.intro h7 True.intro)) (by kernel_rfl) (K2 () hK2)
      refine pc R 9999 [.new 0, .call false [] (.o (.c (.v (.bool v1)))) [] [], .as 11 false, .ln (a1.length), .as 15 false] [.keep [1, 2, 5] [0]] (k' := [.code (.loop (cAt Try.f43 [1, 1, 0, 1, 0, 0])), .blk 0, .code (cAt Try.f43 [1, 1, 1])]) (S' := spec_AreBookings_L1_S a0 a1 0) (And.intro (spec_IsNetwork_ok a0 v1 h2) (And.intro h3 (And.intro (lenm Booking.enc a1) (And.intro h4 True.intro)))) (by kernel_rfl) ?_
      refine lq (spec_AreBookings_L1_S a0 a1) (body := spec_AreBookings_L1 a0 a1) (k := spec_AreBookings_L1_k a0 a1) hM fun m1 s c1 hM hK1 => ?_
      obtain ⟨s5, hs⟩ : ∃ z, z = s := ⟨_, rfl⟩
      subst hs
      have hM : spec_AreBookings_L1_b a0 a1 s5 = some c1 := hM
      unfold spec_AreBookings_L1_b at hM
      rcases cond_cases hM with ⟨h17, hM⟩ | ⟨h17, hM⟩
      · obtain ⟨v18, h19, hM⟩ := bind_some hM
        obtain ⟨v20, h21, hM⟩ := bind_some hM
        rcases cond_cases hM with ⟨h22, hM⟩ | ⟨h22, hM⟩
        · have hE : some (Ctl.ret false) = some c1 := hM
          have hE := Option.some.inj hE
          subst hE
          have hE : some false = some r := hK1
          have hE := Option.some.inj hE
          subst hE
          exact pr R 9999 [.ln (a1.length), .as 19 true, .ix (Booking.enc v18), .new 1, .call false [] (.o (.c (.v (.bool v20)))) [] [], .as 35 true] [] [] [] (And.intro (lenm Booking.enc a1) (And.intro h17 (And.intro (gi_map Booking.enc h19) (And.intro (spec_l3Runs_ok a0 v18.Trip.Leg v18.Trip.Day v20 h21) (And.intro h22 True.intro))))) (by kernel_rfl)
        · obtain ⟨v23, h24, hM⟩ := bind_some hM
          rcases cond_cases hM with ⟨h25, hM⟩ | ⟨h25, hM⟩
          · have hE : some (Ctl.ret false) = some c1 := hM
            have hE := Option.some.inj hE
            subst hE
            have hE : some false = some r := hK1
            have hE := Option.some.inj hE
            subst hE
            exact pr R 9999 [.ln (a1.length), .as 19 true, .ix (Booking.enc v18), .new 1, .call false [] (.o (.c (.v (.bool v20)))) [] [], .as 35 false, .call false [] (.o (.c (.v (.bool v23)))) [] [], .as 41 true] [] [] [] (And.intro (lenm Booking.enc a1) (And.intro h17 (And.intro (gi_map Booking.enc h19) (And.intro (spec_l3Runs_ok a0 v18.Trip.Leg v18.Trip.Day v20 h21) (And.intro h22 (And.intro (spec_l1In_ok v18.Thing 1 9999 v23 h24) (And.intro h25 True.intro))))))) (by kernel_rfl)
          · obtain ⟨v26, h27, hM⟩ := bind_some hM
            rcases cond_cases hM with ⟨h28, hM⟩ | ⟨h28, hM⟩
            · have hE : some (Ctl.ret false) = some c1 := hM
              have hE := Option.some.inj hE
              subst hE
              have hE : some false = some r := hK1
              have hE := Option.some.inj hE
              subst hE
              exact pr R 9999 [.ln (a1.length), .as 19 true, .ix (Booking.enc v18), .new 1, .call false [] (.o (.c (.v (.bool v20)))) [] [], .as 35 false, .call false [] (.o (.c (.v (.bool v23)))) [] [], .as 41 false, .call false [] (.o (.c (.v (.bool v26)))) [] [], .as 47 true] [] [] [] (And.intro (lenm Booking.enc a1) (And.intro h17 (And.intro (gi_map Booking.enc h19) (And.intro (spec_l3Runs_ok a0 v18.Trip.Leg v18.Trip.Day v20 h21) (And.intro h22 (And.intro (spec_l1In_ok v18.Thing 1 9999 v23 h24) (And.intro h25 (And.intro (spec_l1In_ok v18.Weight 1 1000000 v26 h27) (And.intro h28 True.intro))))))))) (by kernel_rfl)
            · rcases cond_cases hM with ⟨h29, hM⟩ | ⟨h29, hM⟩
              · obtain ⟨v30, h31, hM⟩ := bind_some hM
                obtain ⟨v32, h33, hM⟩ := bind_some hM
                rcases cond_cases hM with ⟨h34, hM⟩ | ⟨h34, hM⟩
                · have hE : some (Ctl.ret false) = some c1 := hM
                  have hE := Option.some.inj hE
                  subst hE
                  have hE : some false = some r := hK1
                  have hE := Option.some.inj hE
                  subst hE
                  exact pr R 9999 [.ln (a1.length), .as 19 true, .ix (Booking.enc v18), .new 1, .call false [] (.o (.c (.v (.bool v20)))) [] [], .as 35 false, .call false [] (.o (.c (.v (.bool v23)))) [] [], .as 41 false, .call false [] (.o (.c (.v (.bool v26)))) [] [], .as 47 false, .as 50 true, .ix (Booking.enc v30), .call false [] (.o (.c (.v (.bool v32)))) [] [], .as 60 true] [] [] [] (And.intro (lenm Booking.enc a1) (And.intro h17 (And.intro (gi_map Booking.enc h19) (And.intro (spec_l3Runs_ok a0 v18.Trip.Leg v18.Trip.Day v20 h21) (And.intro h22 (And.intro (spec_l1In_ok v18.Thing 1 9999 v23 h24) (And.intro h25 (And.intro (spec_l1In_ok v18.Weight 1 1000000 v26 h27) (And.intro h28 (And.intro h29 (And.intro (gi_map Booking.enc h31) (And.intro (spec_l6Before_ok v30 v18 v32 h33) (And.intro h34 True.intro))))))))))))) (by kernel_rfl)
                · have hE : some (Ctl.next (w64 (s5 + 1))) = some c1 := hM
                  have hE := Option.some.inj hE
                  subst hE
                  exact pc R 9999 [.ln (a1.length), .as 19 true, .ix (Booking.enc v18), .new 1, .call false [] (.o (.c (.v (.bool v20)))) [] [], .as 35 false, .call false [] (.o (.c (.v (.bool v23)))) [] [], .as 41 false, .call false [] (.o (.c (.v (.bool v26)))) [] [], .as 47 false, .as 50 true, .ix (Booking.enc v30), .call false [] (.o (.c (.v (.bool v32)))) [] [], .as 60 false] [.keep [1, 2, 5] [0]] (And.intro (lenm Booking.enc a1) (And.intro h17 (And.intro (gi_map Booking.enc h19) (And.intro (spec_l3Runs_ok a0 v18.Trip.Leg v18.Trip.Day v20 h21) (And.intro h22 (And.intro (spec_l1In_ok v18.Thing 1 9999 v23 h24) (And.intro h25 (And.intro (spec_l1In_ok v18.Weight 1 1000000 v26 h27) (And.intro h28 (And.intro h29 (And.intro (gi_map Booking.enc h31) (And.intro (spec_l6Before_ok v30 v18 v32 h33) (And.intro h34 True.intro))))))))))))) (by kernel_rfl) (li (Sf := spec_AreBookings_L1_S a0 a1) (M := Mk (spec_AreBookings_L1 a0 a1) (spec_AreBookings_L1_k a0 a1) r) (k := [.blk 0, .code (cAt Try.f43 [1, 1, 1])]) (Nat.lt_succ_self m1) hK1)
              · have hE : some (Ctl.next (w64 (s5 + 1))) = some c1 := hM
                have hE := Option.some.inj hE
                subst hE
                exact pc R 9999 [.ln (a1.length), .as 19 true, .ix (Booking.enc v18), .new 1, .call false [] (.o (.c (.v (.bool v20)))) [] [], .as 35 false, .call false [] (.o (.c (.v (.bool v23)))) [] [], .as 41 false, .call false [] (.o (.c (.v (.bool v26)))) [] [], .as 47 false, .as 50 false] [.keep [1, 2, 5] [0]] (And.intro (lenm Booking.enc a1) (And.intro h17 (And.intro (gi_map Booking.enc h19) (And.intro (spec_l3Runs_ok a0 v18.Trip.Leg v18.Trip.Day v20 h21) (And.intro h22 (And.intro (spec_l1In_ok v18.Thing 1 9999 v23 h24) (And.intro h25 (And.intro (spec_l1In_ok v18.Weight 1 1000000 v26 h27) (And.intro h28 (And.intro h29 True.intro)))))))))) (by kernel_rfl) (li (Sf := spec_AreBookings_L1_S a0 a1) (M := Mk (spec_AreBookings_L1 a0 a1) (spec_AreBookings_L1_k a0 a1) r) (k := [.blk 0, .code (cAt Try.f43 [1, 1, 1])]) (Nat.lt_succ_self m1) hK1)
      · have hE : some (Ctl.brk ()) = some c1 := hM
        have hE := Option.some.inj hE
        subst hE
        exact pc R 5 [.ln (a1.length), .as 19 false] [.keep [1, 2] [0]] (And.intro (lenm Booking.enc a1) (And.intro h17 True.intro)) (by kernel_rfl) (K1 () hK1)

-- loop.example/g03014/impl.compareInts
def impl_compareInts (a0 : Int) (a1 : Int) : Option Int :=
  bif (decide (a0 < a1)) then
  some (-1)
  else
  bif (decide (a0 > a1)) then
  some 1
  else
  some 0
theorem impl_compareInts_ok (a0 : Int) (a1 : Int) (r : Int) (hM : impl_compareInts a0 a1 = some r) :
    Con Try.prog 91 [.c (.v (.int .i64 a0)), .c (.v (.int .i64 a1))] [] (.o (.c (.v (.int .i64 r)))) [] [] := by
  unfold impl_compareInts at hM
  refine cn (N := 13) (pids := []) Try_mixed Try.func91 (by kernel_rfl) (by kernel_rfl) (by kernel_rfl) rfl fun ρ g w R => ?_
  rcases cond_cases hM with ⟨h1, hM⟩ | ⟨h1, hM⟩
  · have hE : some (-1) = some r := hM
    have hE := Option.some.inj hE
    subst hE
    exact pr R 9999 [.as 5 true] [] [] [] (And.intro h1 True.intro) (by kernel_rfl)
  · rcases cond_cases hM with ⟨h2, hM⟩ | ⟨h2, hM⟩
    · have hE : some 1 = some r := hM
      have hE := Option.some.inj hE
      subst hE
      exact pr R 9999 [.as 5 false, .as 9 true] [] [] [] (And.intro h1 (And.intro h2 True.intro)) (by kernel_rfl)
    · have hE : some 0 = some r := hM
      have hE := Option.some.inj hE
      subst hE
      exact pr R 9999 [.as 5 false, .as 9 false] [] [] [] (And.intro h1 (And.intro h2 True.intro)) (by kernel_rfl)

-- loop.example/g03014/impl.first
def impl_first_L1_b (a0 : (List Int)) (s1 : Int) : Option (Ctl Int Unit Int) :=
  bif (decide (s1 < (a0.length : Int))) then
  (gi a0 s1).bind fun v3 =>
  bif (v3 != 0) then
  some (.ret v3)
  else
  some (.next (w64 (s1 + 1)))
  else
  some (.brk ())
def impl_first_L1 (a0 : (List Int)) (s : Int) : Option (Ctl Int Unit Int) := impl_first_L1_b a0 s
def impl_first_L1_s (a0 : (List Int)) (s1 : Int) : St := ⟨[(5, .o (.c (.rs 1 (a0.map encI)))), (6, .o (.c (.v (.int .i64 (a0.length : Int))))), (7, .o (.c (.v (.int .i64 s1))))], []⟩
def impl_first_L1_S (a0 : (List Int)) (s : Int) : St := impl_first_L1_s a0 s
def impl_first_L1_a : Option Int :=
  some 0
def impl_first_L1_k (x : (Unit) ⊕ (Int)) : Option Int := match x with
  | .inl t => impl_first_L1_a
  | .inr y => some y
def impl_first (a0 : (List Int)) : Option Int :=
  (loopM (impl_first_L1 a0) big 0).bind (impl_first_L1_k)
theorem impl_first_ok (a0 : (List Int)) (r : Int) (hM : impl_first a0 = some r) :
    Con Try.prog 90 [.c (.rs 1 (a0.map encI))] [] (.o (.c (.v (.int .i64 r)))) [] [] := by
  unfold impl_first at hM
  refine cn (N := 15) (pids := []) Try_mixed Try.func90 (by kernel_rfl) (by kernel_rfl) (by kernel_rfl) rfl fun ρ g w R => ?_
  have K1 : ∀ (_ : Unit), impl_first_L1_a = some r → Gr R [.code (cAt Try.f90 [1, 1])] (⟨[], []⟩) := by
    intro _ hM
    unfold impl_first_L1_a at hM
    have hE : some 0 = some r := hM
    have hE := Option.some.inj hE
    subst hE
    exact pr R 9999 [] [] [] [] True.intro (by kernel_rfl)
  refine pc R 9999 [.ln (a0.length)] [.keep [5, 6, 7] []] (k' := [.code (.loop (cAt Try.f90 [1, 0, 1, 0, 0])), .blk 0, .code (cAt Try.f90 [1, 1])]) (S' := impl_first_L1_S a0 0) (And.intro (lenm encI a0) True.intro) (by kernel_rfl) ?_
  refine lq (impl_first_L1_S a0) (body := impl_first_L1 a0) (k := impl_first_L1_k) hM fun m1 s c1 hM hK1 => ?_
  obtain ⟨s1, hs⟩ : ∃ z, z = s := ⟨_, rfl⟩
  subst hs
  have hM : impl_first_L1_b a0 s1 = some c1 := hM
  unfold impl_first_L1_b at hM
  rcases cond_cases hM with ⟨h2, hM⟩ | ⟨h2, hM⟩
  · obtain ⟨v3, h4, hM⟩ := bind_some hM
    rcases cond_cases hM with ⟨h5, hM⟩ | ⟨h5, hM⟩
    · have hE : some (Ctl.ret v3) = some c1 := hM
      have hE := Option.some.inj hE
      subst hE
      have hE : some v3 = some r := hK1
      have hE := Option.some.inj hE
      subst hE
      exact pr R 9999 [.as 8 true, .ix (encI v3), .as 12 true] [] [] [] (And.intro h2 (And.intro (gi_map encI h4) (And.intro h5 True.intro))) (by kernel_rfl)
    · have hE : some (Ctl.next (w64 (s1 + 1))) = some c1 := hM
      have hE := Option.some.inj hE
      subst hE
      exact pc R 9999 [.as 8 true, .ix (encI v3), .as 12 false] [.keep [5, 6, 7] []] (And.intro h2 (And.intro (gi_map encI h4) (And.intro h5 True.intro))) (by kernel_rfl) (li (Sf := impl_first_L1_S a0) (M := Mk (impl_first_L1 a0) (impl_first_L1_k) r) (k := [.blk 0, .code (cAt Try.f90 [1, 1])]) (Nat.lt_succ_self m1) hK1)
  · have hE : some (Ctl.brk ()) = some c1 := hM
    have hE := Option.some.inj hE
    subst hE
    exact pc R 5 [.as 8 false] [.keep [] []] (And.intro h2 True.intro) (by kernel_rfl) (K1 () hK1)

-- loop.example/g03014/impl.compareBookings
def impl_compareBookings (a0 : Booking) (a1 : Booking) : Option Int :=
  (impl_compareInts a0.Trip.Day a1.Trip.Day).bind fun v1 =>
  (impl_compareInts a0.Trip.Leg a1.Trip.Leg).bind fun v3 =>
  (impl_compareInts a0.Thing a1.Thing).bind fun v5 =>
  (impl_first ([v1, v3, v5] : List Int)).bind fun v7 =>
  some v7
theorem impl_compareBookings_ok (a0 : Booking) (a1 : Booking) (r : Int) (hM : impl_compareBookings a0 a1 = some r) :
    Con Try.prog 76 [.c (.v (.agg (Booking.enc a0).toArray)), .c (.v (.agg (Booking.enc a1).toArray))] [] (.o (.c (.v (.int .i64 r)))) [] [] := by
  unfold impl_compareBookings at hM
  refine cn (N := 26) (pids := []) Try_mixed Try.func76 (by kernel_rfl) (by kernel_rfl) (by kernel_rfl) rfl fun ρ g w R => ?_
  obtain ⟨v1, h2, hM⟩ := bind_some hM
  obtain ⟨v3, h4, hM⟩ := bind_some hM
  obtain ⟨v5, h6, hM⟩ := bind_some hM
  obtain ⟨v7, h8, hM⟩ := bind_some hM
  have hE : some v7 = some r := hM
  have hE := Option.some.inj hE
  subst hE
  exact pr R 9999 [.new 0, .new 1, .call false [] (.o (.c (.v (.int .i64 v1)))) [] [], .call false [] (.o (.c (.v (.int .i64 v3)))) [] [], .call false [] (.o (.c (.v (.int .i64 v5)))) [] [], .new 2, .call false [] (.o (.c (.v (.int .i64 v7)))) [] []] [] [] [] (And.intro (impl_compareInts_ok a0.Trip.Day a1.Trip.Day v1 h2) (And.intro (impl_compareInts_ok a0.Trip.Leg a1.Trip.Leg v3 h4) (And.intro (impl_compareInts_ok a0.Thing a1.Thing v5 h6) (And.intro (impl_first_ok ([v1, v3, v5] : List Int) v7 h8) True.intro)))) (by kernel_rfl)

-- loop.example/g03014/impl.AreBookings
def impl_AreBookings_L1_b (a0 : Network) (a1 : (List Booking)) (s5 : Int) : Option (Ctl Int Unit Bool) :=
  bif (decide (s5 < (a1.length : Int))) then
  (gi a1 s5).bind fun v7 =>
  bif (decide (s5 > 0)) then
  (gi a1 (w64 (s5 - 1))).bind fun v10 =>
  (impl_compareBookings v10 v7).bind fun v12 =>
  bif (decide (v12 ≥ 0)) then
  some (.ret false)
  else
  (impl_IsTrip a0 v7.Trip).bind fun v15 =>
  bif (!v15) then
  some (.ret false)
  else
  (impl_within v7.Thing 1 9999).bind fun v18 =>
  bif (!v18) then
  some (.ret false)
  else
  (impl_within v7.Weight 1 1000000).bind fun v21 =>
  bif (!v21) then
  some (.ret false)
  else
  (impl_LoadOf a1 v7.Trip).bind fun v24 =>
  (gi a0.Legs v7.Trip.Leg).bind fun v26 =>
  bif (decide (v24 > v26.Room)) then
  some (.ret false)
  else
  some (.next (w64 (s5 + 1)))
  else
  (impl_IsTrip a0 v7.Trip).bind fun v29 =>
  bif (!v29) then
  some (.ret false)
  else
  (impl_within v7.Thing 1 9999).bind fun v32 =>
  bif (!v32) then
  some (.ret false)
  else
  (impl_within v7.Weight 1 1000000).bind fun v35 =>
  bif (!v35) then
  some (.ret false)
  else
  (impl_LoadOf a1 v7.Trip).bind fun v38 =>
  (gi a0.Legs v7.Trip.Leg).bind fun v40 =>
  bif (decide (v38 > v40.Room)) then
  some (.ret false)
  else
  some (.next (w64 (s5 + 1)))
  else
  some (.brk ())
def impl_AreBookings_L1 (a0 : Network) (a1 : (List Booking)) (s : Int) : Option (Ctl Int Unit Bool) := impl_AreBookings_L1_b a0 a1 s
def impl_AreBookings_L1_s (a0 : Network) (a1 : (List Booking)) (s5 : Int) : St := ⟨[(1, .o (.c (.rs 4 (a1.map Booking.enc)))), (2, .o (.c (.ptr 0 0))), (15, .o (.c (.rs 4 (a1.map Booking.enc)))), (16, .o (.c (.v (.int .i64 (a1.length : Int))))), (17, .o (.c (.v (.int .i64 s5))))], [(0, .box 54 [.rs 6 (a0.Legs.map Leg.enc), .rs 1 (a0.Off.map encI), .v (.int .i64 a0.Change)])]⟩
def impl_AreBookings_L1_S (a0 : Network) (a1 : (List Booking)) (s : Int) : St := impl_AreBookings_L1_s a0 a1 s
def impl_AreBookings_L1_a : Option Bool :=
  some true
def impl_AreBookings_L1_k (x : (Unit) ⊕ (Bool)) : Option Bool := match x with
  | .inl t => impl_AreBookings_L1_a
  | .inr y => some y
def impl_AreBookings (a0 : Network) (a1 : (List Booking)) : Option Bool :=
  (impl_IsNetwork a0).bind fun v1 =>
  bif (!v1) then
  some false
  else
  bif (decide ((a1.length : Int) > 120)) then
  some false
  else
  (loopM (impl_AreBookings_L1 a0 a1) big 0).bind (impl_AreBookings_L1_k)
theorem impl_AreBookings_ok (a0 : Network) (a1 : (List Booking)) (r : Bool) (hM : impl_AreBookings a0 a1 = some r) :
    Con Try.prog 44 [.agg [.rs 6 (a0.Legs.map Leg.enc), .rs 1 (a0.Off.map encI), .v (.int .i64 a0.Change)], .c (.rs 4 (a1.map Booking.enc))] [] (.o (.c (.v (.bool r)))) [] [] := by
  unfold impl_AreBookings at hM
  refine cn (N := 69) (pids := []) Try_mixed Try.func44 (by kernel_rfl) (by kernel_rfl) (by kernel_rfl) rfl fun ρ g w R => ?_
  obtain ⟨v1, h2, hM⟩ := bind_some hM
  rcases cond_cases hM with ⟨h3, hM⟩ | ⟨h3, hM⟩
  · have hE : some false = some r := hM
    have hE := Option.some.inj hE
    subst hE
    exact pr R 9999 [.new 0, .call false [] (.o (.c (.v (.bool v1)))) [] [], .as 10 true] [] [] [] (And.intro (impl_IsNetwork_ok a0 v1 h2) (And.intro h3 True.intro)) (by kernel_rfl)
  · rcases cond_cases hM with ⟨h4, hM⟩ | ⟨h4, hM⟩
    · have hE : some false = some r := hM
      have hE := Option.some.inj hE
      subst hE
      exact pr R 9999 [.new 0, .call false [] (.o (.c (.v (.bool v1)))) [] [], .as 10 false, .ln (a1.length), .as 14 true] [] [] [] (And.intro (impl_IsNetwork_ok a0 v1 h2) (And.intro h3 (And.intro (lenm Booking.enc a1) (And.intro h4 True.intro)))) (by kernel_rfl)
    · have K1 : ∀ (_ : Unit), impl_AreBookings_L1_a = some r → Gr R [.code (cAt Try.f44 [1, 1, 1])] (⟨[], []⟩) := by
        intro _ hM
        unfold impl_AreBookings_L1_a at hM
        have hE : some true = some r := hM
        have hE := Option.some.inj hE
        subst hE
        exact pr R 9999 [] [] [] [] True.intro (by kernel_rfl)
      refine pc R 9999 [.new 0, .call false [] (.o (.c (.v (.bool v1)))) [] [], .as 10 false, .ln (a1.length), .as 14 false, .ln (a1.length)] [.keep [1, 2, 15, 16, 17] [0]] (k' := [.code (.loop (cAt Try.f44 [1, 1, 0, 1, 0, 0])), .blk 0, .code (cAt Try.f44 [1, 1, 1])]) (S' := impl_AreBookings_L1_S a0 a1 0) (And.intro (impl_IsNetwork_ok a0 v1 h2) (And.intro h3 (And.intro (lenm Booking.enc a1) (And.intro h4 (And.intro (lenm Booking.enc a1) True.intro))))) (by kernel_rfl) ?_
      refine lq (impl_AreBookings_L1_S a0 a1) (body := impl_AreBookings_L1 a0 a1) (k := impl_AreBookings_L1_k) hM fun m1 s c1 hM hK1 => ?_
      obtain ⟨s5, hs⟩ : ∃ z, z = s := ⟨_, rfl⟩
      subst hs
      have hM : impl_AreBookings_L1_b a0 a1 s5 = some c1 := hM
      unfold impl_AreBookings_L1_b at hM
      rcases cond_cases hM with ⟨h6, hM⟩ | ⟨h6, hM⟩
      · obtain ⟨v7, h8, hM⟩ := bind_some hM
        rcases cond_cases hM with ⟨h9, hM⟩ | ⟨h9, hM⟩
        · obtain ⟨v10, h11, hM⟩ := bind_some hM
          obtain ⟨v12, h13, hM⟩ := bind_some hM
          rcases cond_cases hM with ⟨h14, hM⟩ | ⟨h14, hM⟩
          · have hE : some (Ctl.ret false) = some c1 := hM
            have hE := Option.some.inj hE
            subst hE
            have hE : some false = some r := hK1
            have hE := Option.some.inj hE
            subst hE
            exact pr R 9999 [.as 18 true, .ix (Booking.enc v7), .new 1, .as 24 true, .ix (Booking.enc v10), .call false [] (.o (.c (.v (.int .i64 v12)))) [] [], .as 34 true] [] [] [] (And.intro h6 (And.intro (gi_map Booking.enc h8) (And.intro h9 (And.intro (gi_map Booking.enc h11) (And.intro (impl_compareBookings_ok v10 v7 v12 h13) (And.intro h14 True.intro)))))) (by kernel_rfl)
          · obtain ⟨v15, h16, hM⟩ := bind_some hM
            rcases cond_cases hM with ⟨h17, hM⟩ | ⟨h17, hM⟩
            · have hE : some (Ctl.ret false) = some c1 := hM
              have hE := Option.some.inj hE
              subst hE
              have hE : some false = some r := hK1
              have hE := Option.some.inj hE
              subst hE
              exact pr R 9999 [.as 18 true, .ix (Booking.enc v7), .new 1, .as 24 true, .ix (Booking.enc v10), .call false [] (.o (.c (.v (.int .i64 v12)))) [] [], .as 34 false, .call false [] (.o (.c (.v (.bool v15)))) [] [], .as 41 true] [] [] [] (And.intro h6 (And.intro (gi_map Booking.enc h8) (And.intro h9 (And.intro (gi_map Booking.enc h11) (And.intro (impl_compareBookings_ok v10 v7 v12 h13) (And.intro h14 (And.intro (impl_IsTrip_ok a0 v7.Trip v15 h16) (And.intro h17 True.intro)))))))) (by kernel_rfl)
            · obtain ⟨v18, h19, hM⟩ := bind_some hM
              rcases cond_cases hM with ⟨h20, hM⟩ | ⟨h20, hM⟩
              · have hE : some (Ctl.ret false) = some c1 := hM
                have hE := Option.some.inj hE
                subst hE
                have hE : some false = some r := hK1
                have hE := Option.some.inj hE
                subst hE
                exact pr R 9999 [.as 18 true, .ix (Booking.enc v7), .new 1, .as 24 true, .ix (Booking.enc v10), .call false [] (.o (.c (.v (.int .i64 v12)))) [] [], .as 34 false, .call false [] (.o (.c (.v (.bool v15)))) [] [], .as 41 false, .call false [] (.o (.c (.v (.bool v18)))) [] [], .as 47 true] [] [] [] (And.intro h6 (And.intro (gi_map Booking.enc h8) (And.intro h9 (And.intro (gi_map Booking.enc h11) (And.intro (impl_compareBookings_ok v10 v7 v12 h13) (And.intro h14 (And.intro (impl_IsTrip_ok a0 v7.Trip v15 h16) (And.intro h17 (And.intro (impl_within_ok v7.Thing 1 9999 v18 h19) (And.intro h20 True.intro)))))))))) (by kernel_rfl)
              · obtain ⟨v21, h22, hM⟩ := bind_some hM
                rcases cond_cases hM with ⟨h23, hM⟩ | ⟨h23, hM⟩
                · have hE : some (Ctl.ret false) = some c1 := hM
                  have hE := Option.some.inj hE
                  subst hE
                  have hE : some false = some r := hK1
                  have hE := Option.some.inj hE
                  subst hE
                  exact pr R 9999 [.as 18 true, .ix (Booking.enc v7), .new 1, .as 24 true, .ix (Booking.enc v10), .call false [] (.o (.c (.v (.int .i64 v12)))) [] [], .as 34 false, .call false [] (.o (.c (.v (.bool v15)))) [] [], .as 41 false, .call false [] (.o (.c (.v (.bool v18)))) [] [], .as 47 false, .call false [] (.o (.c (.v (.bool v21)))) [] [], .as 53 true] [] [] [] (And.intro h6 (And.intro (gi_map Booking.enc h8) (And.intro h9 (And.intro (gi_map Booking.enc h11) (And.intro (impl_compareBookings_ok v10 v7 v12 h13) (And.intro h14 (And.intro (impl_IsTrip_ok a0 v7.Trip v15 h16) (And.intro h17 (And.intro (impl_within_ok v7.Thing 1 9999 v18 h19) (And.intro h20 (And.intro (impl_within_ok v7.Weight 1 1000000 v21 h22) (And.intro h23 True.intro)))))))))))) (by kernel_rfl)
                · obtain ⟨v24, h25, hM⟩ := bind_some hM
                  obtain ⟨v26, h27, hM⟩ := bind_some hM
                  rcases cond_cases hM with ⟨h28, hM⟩ | ⟨h28, hM⟩
                  · have hE : some (Ctl.ret false) = some c1 := hM
                    have hE := Option.some.inj hE
                    subst hE
                    have hE : some false = some r := hK1
                    have hE := Option.some.inj hE
                    subst hE
                    exact pr R 9999 [.as 18 true, .ix (Booking.enc v7), .new 1, .as 24 true, .ix (Booking.enc v10), .call false [] (.o (.c (.v (.int .i64 v12)))) [] [], .as 34 false, .call false [] (.o (.c (.v (.bool v15)))) [] [], .as 41 false, .call false [] (.o (.c (.v (.bool v18)))) [] [], .as 47 false, .call false [] (.o (.c (.v (.bool v21)))) [] [], .as 53 false, .call false [] (.o (.c (.v (.int .i64 v24)))) [] [], .ix (Leg.enc v26), .as 67 true] [] [] [] (And.intro h6 (And.intro (gi_map Booking.enc h8) (And.intro h9 (And.intro (gi_map Booking.enc h11) (And.intro (impl_compareBookings_ok v10 v7 v12 h13) (And.intro h14 (And.intro (impl_IsTrip_ok a0 v7.Trip v15 h16) (And.intro h17 (And.intro (impl_within_ok v7.Thing 1 9999 v18 h19) (And.intro h20 (And.intro (impl_within_ok v7.Weight 1 1000000 v21 h22) (And.intro h23 (And.intro (impl_LoadOf_ok a1 v7.Trip v24 h25) (And.intro (gi_map Leg.enc h27) (And.intro h28 True.intro))))))))))))))) (by kernel_rfl)
                  · have hE : some (Ctl.next (w64 (s5 + 1))) = some c1 := hM
                    have hE := Option.some.inj hE
                    subst hE
                    exact pc R 9999 [.as 18 true, .ix (Booking.enc v7), .new 1, .as 24 true, .ix (Booking.enc v10), .call false [] (.o (.c (.v (.int .i64 v12)))) [] [], .as 34 false, .call false [] (.o (.c (.v (.bool v15)))) [] [], .as 41 false, .call false [] (.o (.c (.v (.bool v18)))) [] [], .as 47 false, .call false [] (.o (.c (.v (.bool v21)))) [] [], .as 53 false, .call false [] (.o (.c (.v (.int .i64 v24)))) [] [], .ix (Leg.enc v26), .as 67 false] [.keep [1, 2, 15, 16, 17] [0]] (And.intro h6 (And.intro (gi_map Booking.enc h8) (And.intro h9 (And.intro (gi_map Booking.enc h11) (And.intro (impl_compareBookings_ok v10 v7 v12 h13) (And.intro h14 (And.intro (impl_IsTrip_ok a0 v7.Trip v15 h16) (And.intro h17 (And.intro (impl_within_ok v7.Thing 1 9999 v18 h19) (And.intro h20 (And.intro (impl_within_ok v7.Weight 1 1000000 v21 h22) (And.intro h23 (And.intro (impl_LoadOf_ok a1 v7.Trip v24 h25) (And.intro (gi_map Leg.enc h27) (And.intro h28 True.intro))))))))))))))) (by kernel_rfl) (li (Sf := impl_AreBookings_L1_S a0 a1) (M := Mk (impl_AreBookings_L1 a0 a1) (impl_AreBookings_L1_k) r) (k := [.blk 0, .code (cAt Try.f44 [1, 1, 1])]) (Nat.lt_succ_self m1) hK1)
        · obtain ⟨v29, h30, hM⟩ := bind_some hM
          rcases cond_cases hM with ⟨h31, hM⟩ | ⟨h31, hM⟩
          · have hE : some (Ctl.ret false) = some c1 := hM
            have hE := Option.some.inj hE
            subst hE
            have hE : some false = some r := hK1
            have hE := Option.some.inj hE
            subst hE
            exact pr R 9999 [.as 18 true, .ix (Booking.enc v7), .new 1, .as 24 false, .call false [] (.o (.c (.v (.bool v29)))) [] [], .as 41 true] [] [] [] (And.intro h6 (And.intro (gi_map Booking.enc h8) (And.intro h9 (And.intro (impl_IsTrip_ok a0 v7.Trip v29 h30) (And.intro h31 True.intro))))) (by kernel_rfl)
          · obtain ⟨v32, h33, hM⟩ := bind_some hM
            rcases cond_cases hM with ⟨h34, hM⟩ | ⟨h34, hM⟩
            · have hE : some (Ctl.ret false) = some c1 := hM
              have hE := Option.some.inj hE
              subst hE
              have hE : some false = some r := hK1
              have hE := Option.some.inj hE
              subst hE
              exact pr R 9999 [.as 18 true, .ix (Booking.enc v7), .new 1, .as 24 false, .call false [] (.o (.c (.v (.bool v29)))) [] [], .as 41 false, .call false [] (.o (.c (.v (.bool v32)))) [] [], .as 47 true] [] [] [] (And.intro h6 (And.intro (gi_map Booking.enc h8) (And.intro h9 (And.intro (impl_IsTrip_ok a0 v7.Trip v29 h30) (And.intro h31 (And.intro (impl_within_ok v7.Thing 1 9999 v32 h33) (And.intro h34 True.intro))))))) (by kernel_rfl)
            · obtain ⟨v35, h36, hM⟩ := bind_some hM
              rcases cond_cases hM with ⟨h37, hM⟩ | ⟨h37, hM⟩
              · have hE : some (Ctl.ret false) = some c1 := hM
                have hE := Option.some.inj hE
                subst hE
                have hE : some false = some r := hK1
                have hE := Option.some.inj hE
                subst hE
                exact pr R 9999 [.as 18 true, .ix (Booking.enc v7), .new 1, .as 24 false, .call false [] (.o (.c (.v (.bool v29)))) [] [], .as 41 false, .call false [] (.o (.c (.v (.bool v32)))) [] [], .as 47 false, .call false [] (.o (.c (.v (.bool v35)))) [] [], .as 53 true] [] [] [] (And.intro h6 (And.intro (gi_map Booking.enc h8) (And.intro h9 (And.intro (impl_IsTrip_ok a0 v7.Trip v29 h30) (And.intro h31 (And.intro (impl_within_ok v7.Thing 1 9999 v32 h33) (And.intro h34 (And.intro (impl_within_ok v7.Weight 1 1000000 v35 h36) (And.intro h37 True.intro))))))))) (by kernel_rfl)
              · obtain ⟨v38, h39, hM⟩ := bind_some hM
                obtain ⟨v40, h41, hM⟩ := bind_some hM
                rcases cond_cases hM with ⟨h42, hM⟩ | ⟨h42, hM⟩
                · have hE : some (Ctl.ret false) = some c1 := hM
                  have hE := Option.some.inj hE
                  subst hE
                  have hE : some false = some r := hK1
                  have hE := Option.some.inj hE
                  subst hE
                  exact pr R 9999 [.as 18 true, .ix (Booking.enc v7), .new 1, .as 24 false, .call false [] (.o (.c (.v (.bool v29)))) [] [], .as 41 false, .call false [] (.o (.c (.v (.bool v32)))) [] [], .as 47 false, .call false [] (.o (.c (.v (.bool v35)))) [] [], .as 53 false, .call false [] (.o (.c (.v (.int .i64 v38)))) [] [], .ix (Leg.enc v40), .as 67 true] [] [] [] (And.intro h6 (And.intro (gi_map Booking.enc h8) (And.intro h9 (And.intro (impl_IsTrip_ok a0 v7.Trip v29 h30) (And.intro h31 (And.intro (impl_within_ok v7.Thing 1 9999 v32 h33) (And.intro h34 (And.intro (impl_within_ok v7.Weight 1 1000000 v35 h36) (And.intro h37 (And.intro (impl_LoadOf_ok a1 v7.Trip v38 h39) (And.intro (gi_map Leg.enc h41) (And.intro h42 True.intro)))))))))))) (by kernel_rfl)
                · have hE : some (Ctl.next (w64 (s5 + 1))) = some c1 := hM
                  have hE := Option.some.inj hE
                  subst hE
                  exact pc R 9999 [.as 18 true, .ix (Booking.enc v7), .new 1, .as 24 false, .call false [] (.o (.c (.v (.bool v29)))) [] [], .as 41 false, .call false [] (.o (.c (.v (.bool v32)))) [] [], .as 47 false, .call false [] (.o (.c (.v (.bool v35)))) [] [], .as 53 false, .call false [] (.o (.c (.v (.int .i64 v38)))) [] [], .ix (Leg.enc v40), .as 67 false] [.keep [1, 2, 15, 16, 17] [0]] (And.intro h6 (And.intro (gi_map Booking.enc h8) (And.intro h9 (And.intro (impl_IsTrip_ok a0 v7.Trip v29 h30) (And.intro h31 (And.intro (impl_within_ok v7.Thing 1 9999 v32 h33) (And.intro h34 (And.intro (impl_within_ok v7.Weight 1 1000000 v35 h36) (And.intro h37 (And.intro (impl_LoadOf_ok a1 v7.Trip v38 h39) (And.intro (gi_map Leg.enc h41) (And.intro h42 True.intro)))))))))))) (by kernel_rfl) (li (Sf := impl_AreBookings_L1_S a0 a1) (M := Mk (impl_AreBookings_L1 a0 a1) (impl_AreBookings_L1_k) r) (k := [.blk 0, .code (cAt Try.f44 [1, 1, 1])]) (Nat.lt_succ_self m1) hK1)
      · have hE : some (Ctl.brk ()) = some c1 := hM
        have hE := Option.some.inj hE
        subst hE
        exact pc R 5 [.as 18 false] [.keep [] []] (And.intro h6 True.intro) (by kernel_rfl) (K1 () hK1)

-- loop.example/g03014/laws.FnExactAreBookings
def laws_FnExactAreBookings_x1 (a1 : (List Booking)) (v15 : (List Booking)) (v22 : Bool) : St := ⟨[(1, .o (.c (.rs 4 (a1.map Booking.enc)))), (8, .o (.c (.sl 7))), (39, .o (.c (.v (.bool (!v22)))))], [(7, .row 74 4 (v15.map Booking.enc))]⟩
def laws_FnExactAreBookings (a0 : Network) (a1 : (List Booking)) : Option Bool :=
  (laws_szNetwork a0 1048576).bind fun v1 =>
  bif (decide (v1 < 0)) then
  some true
  else
  (laws_szBookingS a1 v1).bind fun v4 =>
  bif (decide (v4 < 0)) then
  some true
  else
  (laws_toNetwork a0).bind fun v7 =>
  (laws_toBookingS a1).bind fun v9 =>
  (spec_AreBookings v7 v9).bind fun v11 =>
  (laws_toNetwork a0).bind fun v13 =>
  (laws_toBookingS a1).bind fun v15 =>
  (impl_AreBookings v13 v15).bind fun v17 =>
  bif (!(v17 == v11)) then
  some false
  else
  (laws_toNetwork a0).bind fun v20 =>
  (laws_eqNetwork v13 v20).bind fun v22 =>
  bif (!v22) then
  some false
  else
  (laws_toBookingS a1).bind fun v25 =>
  (laws_eqBookingS v15 v25).bind fun v27 =>
  bif (!v27) then
  some false
  else
  some true
theorem laws_FnExactAreBookings_ok (a0 : Network) (a1 : (List Booking)) (r : Bool) (hM : laws_FnExactAreBookings a0 a1 = some r) :
    Con Try.prog 9 [.agg [.rs 6 (a0.Legs.map Leg.enc), .rs 1 (a0.Off.map encI), .v (.int .i64 a0.Change)], .c (.rs 4 (a1.map Booking.enc))] [] (.o (.c (.v (.bool r)))) [] [] := by
  unfold laws_FnExactAreBookings at hM
  refine cn (N := 45) (pids := []) Try_mixed Try.func9 (by kernel_rfl) (by kernel_rfl) (by kernel_rfl) rfl fun ρ g w R => ?_
  obtain ⟨v1, h2, hM⟩ := bind_some hM
  rcases cond_cases hM with ⟨h3, hM⟩ | ⟨h3, hM⟩
  · have hE : some true = some r := hM
    have hE := Option.some.inj hE
    subst hE
    exact pr R 9999 [.new 0, .call false [] (.o (.c (.v (.int .i64 v1)))) [] [], .as 14 true] [] [] [] (And.intro (laws_szNetwork_ok a0 1048576 v1 h2) (And.intro h3 True.intro)) (by kernel_rfl)
  · obtain ⟨v4, h5, hM⟩ := bind_some hM
    rcases cond_cases hM with ⟨h6, hM⟩ | ⟨h6, hM⟩
    · have hE : some true = some r := hM
      have hE := Option.some.inj hE
      subst hE
      exact pr R 9999 [.new 0, .call false [] (.o (.c (.v (.int .i64 v1)))) [] [], .as 14 false, .call false [] (.o (.c (.v (.int .i64 v4)))) [] [], .as 19 true] [] [] [] (And.intro (laws_szNetwork_ok a0 1048576 v1 h2) (And.intro h3 (And.intro (laws_szBookingS_ok a1 v1 v4 h5) (And.intro h6 True.intro)))) (by kernel_rfl)
    · obtain ⟨v7, h8, hM⟩ := bind_some hM
      obtain ⟨v9, h10, hM⟩ := bind_some hM
      obtain ⟨v11, h12, hM⟩ := bind_some hM
      obtain ⟨v13, h14, hM⟩ := bind_some hM
      obtain ⟨v15, h16, hM⟩ := bind_some hM
      obtain ⟨v17, h18, hM⟩ := bind_some hM
      rcases cond_cases hM with ⟨h19, hM⟩ | ⟨h19, hM⟩
      · have hE : some false = some r := hM
        have hE := Option.some.inj hE
        subst hE
        exact pr R 9999 [.new 0, .call false [] (.o (.c (.v (.int .i64 v1)))) [] [], .as 14 false, .call false [] (.o (.c (.v (.int .i64 v4)))) [] [], .as 19 false, .call false [] (.o (.agg [.sl 1, .sl 2, .v (.int .i64 v7.Change)])) [] [(1, .row 89 6 (v7.Legs.map Leg.enc)), (2, .row 3 1 (v7.Off.map encI))], .call false [] (.o (.c (.sl 3))) [] [(3, .row 74 4 (v9.map Booking.enc))], .call false [] (.o (.c (.v (.bool v11)))) [] [], .call false [] (.o (.agg [.sl 4, .sl 5, .v (.int .i64 v13.Change)])) [] [(4, .row 89 6 (v13.Legs.map Leg.enc)), (5, .row 3 1 (v13.Off.map encI))], .new 6, .call false [] (.o (.c (.sl 7))) [] [(7, .row 74 4 (v15.map Booking.enc))], .call false [] (.o (.c (.v (.bool v17)))) [] [], .as 34 true] [] [] [] (And.intro (laws_szNetwork_ok a0 1048576 v1 h2) (And.intro h3 (And.intro (laws_szBookingS_ok a1 v1 v4 h5) (And.intro h6 (And.intro (And.intro (con_sw 1001 2 (con_sw 1000 1 (laws_toNetwork_ok a0 v7 h8))) (rfl : ([] : List Nat) = [])) (And.intro (And.intro (con_sw 1000 3 (laws_toBookingS_ok a1 v9 h10)) (rfl : ([] : List Nat) = [])) (And.intro (spec_AreBookings_ok v7 v9 v11 h12) (And.intro (And.intro (con_sw 1001 5 (con_sw 1000 4 (laws_toNetwork_ok a0 v13 h14))) (rfl : ([] : List Nat) = [])) (And.intro (And.intro (con_sw 1000 7 (laws_toBookingS_ok a1 v15 h16)) (rfl : ([] : List Nat) = [])) (And.intro (impl_AreBookings_ok v13 v15 v17 h18) (And.intro h19 True.intro))))))))))) (by kernel_rfl)
      · obtain ⟨v20, h21, hM⟩ := bind_some hM
        obtain ⟨v22, h23, hM⟩ := bind_some hM
        rcases cond_cases hM with ⟨h24, hM⟩ | ⟨h24, hM⟩
        · have hE : some false = some r := hM
          have hE := Option.some.inj hE
          subst hE
          exact pr R 9999 [.new 0, .call false [] (.o (.c (.v (.int .i64 v1)))) [] [], .as 14 false, .call false [] (.o (.c (.v (.int .i64 v4)))) [] [], .as 19 false, .call false [] (.o (.agg [.sl 1, .sl 2, .v (.int .i64 v7.Change)])) [] [(1, .row 89 6 (v7.Legs.map Leg.enc)), (2, .row 3 1 (v7.Off.map encI))], .call false [] (.o (.c (.sl 3))) [] [(3, .row 74 4 (v9.map Booking.enc))], .call false [] (.o (.c (.v (.bool v11)))) [] [], .call false [] (.o (.agg [.sl 4, .sl 5, .v (.int .i64 v13.Change)])) [] [(4, .row 89 6 (v13.Legs.map Leg.enc)), (5, .row 3 1 (v13.Off.map encI))], .new 6, .call false [] (.o (.c (.sl 7))) [] [(7, .row 74 4 (v15.map Booking.enc))], .call false [] (.o (.c (.v (.bool v17)))) [] [], .as 34 false, .xo [[], [], [.call false [] (.o (.agg [.sl 8, .sl 9, .v (.int .i64 v20.Change)])) [] [(8, .row 89 6 (v20.Legs.map Leg.enc)), (9, .row 3 1 (v20.Off.map encI))]], [.call false [] (.o (.c (.v (.bool v22)))) [] []], []] [.keep [1, 8, 39] [7]] (laws_FnExactAreBookings_x1 a1 v15 v22), .as 39 true] [] [] [] (And.intro (laws_szNetwork_ok a0 1048576 v1 h2) (And.intro h3 (And.intro (laws_szBookingS_ok a1 v1 v4 h5) (And.intro h6 (And.intro (And.intro (con_sw 1001 2 (con_sw 1000 1 (laws_toNetwork_ok a0 v7 h8))) (rfl : ([] : List Nat) = [])) (And.intro (And.intro (con_sw 1000 3 (laws_toBookingS_ok a1 v9 h10)) (rfl : ([] : List Nat) = [])) (And.intro (spec_AreBookings_ok v7 v9 v11 h12) (And.intro (And.intro (con_sw 1001 5 (con_sw 1000 4 (laws_toNetwork_ok a0 v13 h14))) (rfl : ([] : List Nat) = [])) (And.intro (And.intro (con_sw 1000 7 (laws_toBookingS_ok a1 v15 h16)) (rfl : ([] : List Nat) = [])) (And.intro (impl_AreBookings_ok v13 v15 v17 h18) (And.intro h19 (And.intro (And.intro (con_sw 1001 9 (con_sw 1000 8 (laws_toNetwork_ok a0 v20 h21))) (rfl : ([] : List Nat) = [])) (And.intro (laws_eqNetwork_ok v13 v20 v22 h23) (And.intro (rfl : (laws_FnExactAreBookings_x1 a1 v15 v22) = (laws_FnExactAreBookings_x1 a1 v15 v22)) (And.intro (And.intro (con_sw 1001 9 (con_sw 1000 8 (laws_toNetwork_ok a0 v20 h21))) (rfl : ([] : List Nat) = [])) (And.intro (laws_eqNetwork_ok v13 v20 v22 h23) (And.intro (rfl : (laws_FnExactAreBookings_x1 a1 v15 v22) = (laws_FnExactAreBookings_x1 a1 v15 v22)) (And.intro (And.intro (con_sw 1001 9 (con_sw 1000 8 (laws_toNetwork_ok a0 v20 h21))) (rfl : ([] : List Nat) = [])) (And.intro (laws_eqNetwork_ok v13 v20 v22 h23) (And.intro (rfl : (laws_FnExactAreBookings_x1 a1 v15 v22) = (laws_FnExactAreBookings_x1 a1 v15 v22)) (And.intro h24 True.intro))))))))))))))))))))) (by kernel_rfl)
        · obtain ⟨v25, h26, hM⟩ := bind_some hM
          obtain ⟨v27, h28, hM⟩ := bind_some hM
          rcases cond_cases hM with ⟨h29, hM⟩ | ⟨h29, hM⟩
          · have hE : some false = some r := hM
            have hE := Option.some.inj hE
            subst hE
            exact pr R 9999 [.new 0, .call false [] (.o (.c (.v (.int .i64 v1)))) [] [], .as 14 false, .call false [] (.o (.c (.v (.int .i64 v4)))) [] [], .as 19 false, .call false [] (.o (.agg [.sl 1, .sl 2, .v (.int .i64 v7.Change)])) [] [(1, .row 89 6 (v7.Legs.map Leg.enc)), (2, .row 3 1 (v7.Off.map encI))], .call false [] (.o (.c (.sl 3))) [] [(3, .row 74 4 (v9.map Booking.enc))], .call false [] (.o (.c (.v (.bool v11)))) [] [], .call false [] (.o (.agg [.sl 4, .sl 5, .v (.int .i64 v13.Change)])) [] [(4, .row 89 6 (v13.Legs.map Leg.enc)), (5, .row 3 1 (v13.Off.map encI))], .new 6, .call false [] (.o (.c (.sl 7))) [] [(7, .row 74 4 (v15.map Booking.enc))], .call false [] (.o (.c (.v (.bool v17)))) [] [], .as 34 false, .xo [[], [], [.call false [] (.o (.agg [.sl 8, .sl 9, .v (.int .i64 v20.Change)])) [] [(8, .row 89 6 (v20.Legs.map Leg.enc)), (9, .row 3 1 (v20.Off.map encI))]], [.call false [] (.o (.c (.v (.bool v22)))) [] []], []] [.keep [1, 8, 39] [7]] (laws_FnExactAreBookings_x1 a1 v15 v22), .as 39 false, .call false [] (.o (.c (.sl 10))) [] [(10, .row 74 4 (v25.map Booking.enc))], .call false [] (.o (.c (.v (.bool v27)))) [] [], .as 44 true] [] [] [] (And.intro (laws_szNetwork_ok a0 1048576 v1 h2) (And.intro h3 (And.intro (laws_szBookingS_ok a1 v1 v4 h5) (And.intro h6 (And.intro (And.intro (con_sw 1001 2 (con_sw 1000 1 (laws_toNetwork_ok a0 v7 h8))) (rfl : ([] : List Nat) = [])) (And.intro (And.intro (con_sw 1000 3 (laws_toBookingS_ok a1 v9 h10)) (rfl : ([] : List Nat) = [])) (And.intro (spec_AreBookings_ok v7 v9 v11 h12) (And.intro (And.intro (con_sw 1001 5 (con_sw 1000 4 (laws_toNetwork_ok a0 v13 h14))) (rfl : ([] : List Nat) = [])) (And.intro (And.intro (con_sw 1000 7 (laws_toBookingS_ok a1 v15 h16)) (rfl : ([] : List Nat) = [])) (And.intro (impl_AreBookings_ok v13 v15 v17 h18) (And.intro h19 (And.intro (And.intro (con_sw 1001 9 (con_sw 1000 8 (laws_toNetwork_ok a0 v20 h21))) (rfl : ([] : List Nat) = [])) (And.intro (laws_eqNetwork_ok v13 v20 v22 h23) (And.intro (rfl : (laws_FnExactAreBookings_x1 a1 v15 v22) = (laws_FnExactAreBookings_x1 a1 v15 v22)) (And.intro (And.intro (con_sw 1001 9 (con_sw 1000 8 (laws_toNetwork_ok a0 v20 h21))) (rfl : ([] : List Nat) = [])) (And.intro (laws_eqNetwork_ok v13 v20 v22 h23) (And.intro (rfl : (laws_FnExactAreBookings_x1 a1 v15 v22) = (laws_FnExactAreBookings_x1 a1 v15 v22)) (And.intro (And.intro (con_sw 1001 9 (con_sw 1000 8 (laws_toNetwork_ok a0 v20 h21))) (rfl : ([] : List Nat) = [])) (And.intro (laws_eqNetwork_ok v13 v20 v22 h23) (And.intro (rfl : (laws_FnExactAreBookings_x1 a1 v15 v22) = (laws_FnExactAreBookings_x1 a1 v15 v22)) (And.intro h24 (And.intro (And.intro (con_sw 1000 10 (laws_toBookingS_ok a1 v25 h26)) (rfl : ([] : List Nat) = [])) (And.intro (laws_eqBookingS_ok v15 v25 v27 h28) (And.intro h29 True.intro)))))))))))))))))))))))) (by kernel_rfl)
          · have hE : some true = some r := hM
            have hE := Option.some.inj hE
            subst hE
            exact pr R 9999 [.new 0, .call false [] (.o (.c (.v (.int .i64 v1)))) [] [], .as 14 false, .call false [] (.o (.c (.v (.int .i64 v4)))) [] [], .as 19 false, .call false [] (.o (.agg [.sl 1, .sl 2, .v (.int .i64 v7.Change)])) [] [(1, .row 89 6 (v7.Legs.map Leg.enc)), (2, .row 3 1 (v7.Off.map encI))], .call false [] (.o (.c (.sl 3))) [] [(3, .row 74 4 (v9.map Booking.enc))], .call false [] (.o (.c (.v (.bool v11)))) [] [], .call false [] (.o (.agg [.sl 4, .sl 5, .v (.int .i64 v13.Change)])) [] [(4, .row 89 6 (v13.Legs.map Leg.enc)), (5, .row 3 1 (v13.Off.map encI))], .new 6, .call false [] (.o (.c (.sl 7))) [] [(7, .row 74 4 (v15.map Booking.enc))], .call false [] (.o (.c (.v (.bool v17)))) [] [], .as 34 false, .xo [[], [], [.call false [] (.o (.agg [.sl 8, .sl 9, .v (.int .i64 v20.Change)])) [] [(8, .row 89 6 (v20.Legs.map Leg.enc)), (9, .row 3 1 (v20.Off.map encI))]], [.call false [] (.o (.c (.v (.bool v22)))) [] []], []] [.keep [1, 8, 39] [7]] (laws_FnExactAreBookings_x1 a1 v15 v22), .as 39 false, .call false [] (.o (.c (.sl 10))) [] [(10, .row 74 4 (v25.map Booking.enc))], .call false [] (.o (.c (.v (.bool v27)))) [] [], .as 44 false] [] [] [] (And.intro (laws_szNetwork_ok a0 1048576 v1 h2) (And.intro h3 (And.intro (laws_szBookingS_ok a1 v1 v4 h5) (And.intro h6 (And.intro (And.intro (con_sw 1001 2 (con_sw 1000 1 (laws_toNetwork_ok a0 v7 h8))) (rfl : ([] : List Nat) = [])) (And.intro (And.intro (con_sw 1000 3 (laws_toBookingS_ok a1 v9 h10)) (rfl : ([] : List Nat) = [])) (And.intro (spec_AreBookings_ok v7 v9 v11 h12) (And.intro (And.intro (con_sw 1001 5 (con_sw 1000 4 (laws_toNetwork_ok a0 v13 h14))) (rfl : ([] : List Nat) = [])) (And.intro (And.intro (con_sw 1000 7 (laws_toBookingS_ok a1 v15 h16)) (rfl : ([] : List Nat) = [])) (And.intro (impl_AreBookings_ok v13 v15 v17 h18) (And.intro h19 (And.intro (And.intro (con_sw 1001 9 (con_sw 1000 8 (laws_toNetwork_ok a0 v20 h21))) (rfl : ([] : List Nat) = [])) (And.intro (laws_eqNetwork_ok v13 v20 v22 h23) (And.intro (rfl : (laws_FnExactAreBookings_x1 a1 v15 v22) = (laws_FnExactAreBookings_x1 a1 v15 v22)) (And.intro (And.intro (con_sw 1001 9 (con_sw 1000 8 (laws_toNetwork_ok a0 v20 h21))) (rfl : ([] : List Nat) = [])) (And.intro (laws_eqNetwork_ok v13 v20 v22 h23) (And.intro (rfl : (laws_FnExactAreBookings_x1 a1 v15 v22) = (laws_FnExactAreBookings_x1 a1 v15 v22)) (And.intro (And.intro (con_sw 1001 9 (con_sw 1000 8 (laws_toNetwork_ok a0 v20 h21))) (rfl : ([] : List Nat) = [])) (And.intro (laws_eqNetwork_ok v13 v20 v22 h23) (And.intro (rfl : (laws_FnExactAreBookings_x1 a1 v15 v22) = (laws_FnExactAreBookings_x1 a1 v15 v22)) (And.intro h24 (And.intro (And.intro (con_sw 1000 10 (laws_toBookingS_ok a1 v25 h26)) (rfl : ([] : List Nat) = [])) (And.intro (laws_eqBookingS_ok v15 v25 v27 h28) (And.intro h29 True.intro)))))))))))))))))))))))) (by kernel_rfl)

-- loop.example/g03014/spec.SpareOn
def spec_SpareOn (a0 : Network) (a1 : (List Booking)) (a2 : Trip) : Option Int :=
  (spec_AreBookings a0 a1).bind fun v1 =>
  bif (!v1) then
  some (-1)
  else
  (spec_IsTrip a0 a2).bind fun v4 =>
  bif (!v4) then
  some (-1)
  else
  (gi a0.Legs a2.Leg).bind fun v7 =>
  (spec_LoadOf a1 a2).bind fun v9 =>
  some (w64 (v7.Room - v9))
theorem spec_SpareOn_ok (a0 : Network) (a1 : (List Booking)) (a2 : Trip) (r : Int) (hM : spec_SpareOn a0 a1 a2 = some r) :
    Con Try.prog 45 [.agg [.rs 6 (a0.Legs.map Leg.enc), .rs 1 (a0.Off.map encI), .v (.int .i64 a0.Change)], .c (.rs 4 (a1.map Booking.enc)), .c (.v (.agg (Trip.enc a2).toArray))] [] (.o (.c (.v (.int .i64 r)))) [] [] := by
  unfold spec_SpareOn at hM
  refine cn (N := 28) (pids := []) Try_mixed Try.func45 (by kernel_rfl) (by kernel_rfl) (by kernel_rfl) rfl fun ρ g w R => ?_
  obtain ⟨v1, h2, hM⟩ := bind_some hM
  rcases cond_cases hM with ⟨h3, hM⟩ | ⟨h3, hM⟩
  · have hE : some (-1) = some r := hM
    have hE := Option.some.inj hE
    subst hE
    exact pr R 9999 [.new 0, .new 1, .call false [] (.o (.c (.v (.bool v1)))) [] [], .as 11 true] [] [] [] (And.intro (spec_AreBookings_ok a0 a1 v1 h2) (And.intro h3 True.intro)) (by kernel_rfl)
  · obtain ⟨v4, h5, hM⟩ := bind_some hM
    rcases cond_cases hM with ⟨h6, hM⟩ | ⟨h6, hM⟩
    · have hE : some (-1) = some r := hM
      have hE := Option.some.inj hE
      subst hE
      exact pr R 9999 [.new 0, .new 1, .call false [] (.o (.c (.v (.bool v1)))) [] [], .as 11 false, .call false [] (.o (.c (.v (.bool v4)))) [] [], .as 16 true] [] [] [] (And.intro (spec_AreBookings_ok a0 a1 v1 h2) (And.intro h3 (And.intro (spec_IsTrip_ok a0 a2 v4 h5) (And.intro h6 True.intro)))) (by kernel_rfl)
    · obtain ⟨v7, h8, hM⟩ := bind_some hM
      obtain ⟨v9, h10, hM⟩ := bind_some hM
      have hE : some (w64 (v7.Room - v9)) = some r := hM
      have hE := Option.some.inj hE
      subst hE
      exact pr R 9999 [.new 0, .new 1, .call false [] (.o (.c (.v (.bool v1)))) [] [], .as 11 false, .call false [] (.o (.c (.v (.bool v4)))) [] [], .as 16 false, .ix (Leg.enc v7), .call false [] (.o (.c (.v (.int .i64 v9)))) [] []] [] [] [] (And.intro (spec_AreBookings_ok a0 a1 v1 h2) (And.intro h3 (And.intro (spec_IsTrip_ok a0 a2 v4 h5) (And.intro h6 (And.intro (gi_map Leg.enc h8) (And.intro (spec_LoadOf_ok a1 a2 v9 h10) True.intro)))))) (by kernel_rfl)

-- loop.example/g03014/impl.SpareOn
def impl_SpareOn (a0 : Network) (a1 : (List Booking)) (a2 : Trip) : Option Int :=
  (impl_AreBookings a0 a1).bind fun v1 =>
  bif (!v1) then
  some (-1)
  else
  (impl_IsTrip a0 a2).bind fun v4 =>
  bif (!v4) then
  some (-1)
  else
  (gi a0.Legs a2.Leg).bind fun v7 =>
  (impl_LoadOf a1 a2).bind fun v9 =>
  some (w64 (v7.Room - v9))
theorem impl_SpareOn_ok (a0 : Network) (a1 : (List Booking)) (a2 : Trip) (r : Int) (hM : impl_SpareOn a0 a1 a2 = some r) :
    Con Try.prog 46 [.agg [.rs 6 (a0.Legs.map Leg.enc), .rs 1 (a0.Off.map encI), .v (.int .i64 a0.Change)], .c (.rs 4 (a1.map Booking.enc)), .c (.v (.agg (Trip.enc a2).toArray))] [] (.o (.c (.v (.int .i64 r)))) [] [] := by
  unfold impl_SpareOn at hM
  refine cn (N := 28) (pids := []) Try_mixed Try.func46 (by kernel_rfl) (by kernel_rfl) (by kernel_rfl) rfl fun ρ g w R => ?_
  obtain ⟨v1, h2, hM⟩ := bind_some hM
  rcases cond_cases hM with ⟨h3, hM⟩ | ⟨h3, hM⟩
  · have hE : some (-1) = some r := hM
    have hE := Option.some.inj hE
    subst hE
    exact pr R 9999 [.new 0, .new 1, .call false [] (.o (.c (.v (.bool v1)))) [] [], .as 11 true] [] [] [] (And.intro (impl_AreBookings_ok a0 a1 v1 h2) (And.intro h3 True.intro)) (by kernel_rfl)
  · obtain ⟨v4, h5, hM⟩ := bind_some hM
    rcases cond_cases hM with ⟨h6, hM⟩ | ⟨h6, hM⟩
    · have hE : some (-1) = some r := hM
      have hE := Option.some.inj hE
      subst hE
      exact pr R 9999 [.new 0, .new 1, .call false [] (.o (.c (.v (.bool v1)))) [] [], .as 11 false, .call false [] (.o (.c (.v (.bool v4)))) [] [], .as 16 true] [] [] [] (And.intro (impl_AreBookings_ok a0 a1 v1 h2) (And.intro h3 (And.intro (impl_IsTrip_ok a0 a2 v4 h5) (And.intro h6 True.intro)))) (by kernel_rfl)
    · obtain ⟨v7, h8, hM⟩ := bind_some hM
      obtain ⟨v9, h10, hM⟩ := bind_some hM
      have hE : some (w64 (v7.Room - v9)) = some r := hM
      have hE := Option.some.inj hE
      subst hE
      exact pr R 9999 [.new 0, .new 1, .call false [] (.o (.c (.v (.bool v1)))) [] [], .as 11 false, .call false [] (.o (.c (.v (.bool v4)))) [] [], .as 16 false, .ix (Leg.enc v7), .call false [] (.o (.c (.v (.int .i64 v9)))) [] []] [] [] [] (And.intro (impl_AreBookings_ok a0 a1 v1 h2) (And.intro h3 (And.intro (impl_IsTrip_ok a0 a2 v4 h5) (And.intro h6 (And.intro (gi_map Leg.enc h8) (And.intro (impl_LoadOf_ok a1 a2 v9 h10) True.intro)))))) (by kernel_rfl)

-- loop.example/g03014/laws.FnExactSpareOn
def laws_FnExactSpareOn_x1 (a0 : Network) (a1 : (List Booking)) (a2 : Trip) (v13 : Int) : St := ⟨[(1, .o (.c (.rs 4 (a1.map Booking.enc)))), (3, .o (.c (.ptr 0 0))), (5, .o (.c (.ptr 1 0))), (8, .o (.c (.v (.int .i64 v13))))], [(0, .box 47 [.rs 6 (a0.Legs.map Leg.enc), .rs 1 (a0.Off.map encI), .v (.int .i64 a0.Change)]), (1, .box 26 [.v (.int .i64 a2.Leg), .v (.int .i64 a2.Day)])]⟩
def laws_FnExactSpareOn_x2 (a1 : (List Booking)) (v17 : (List Booking)) (v26 : Bool) : St := ⟨[(1, .o (.c (.rs 4 (a1.map Booking.enc)))), (10, .o (.c (.sl 8))), (45, .o (.c (.v (.bool (!v26)))))], [(8, .row 74 4 (v17.map Booking.enc))]⟩
def laws_FnExactSpareOn (a0 : Network) (a1 : (List Booking)) (a2 : Trip) : Option Bool :=
  (laws_szNetwork a0 1048576).bind fun v1 =>
  bif (decide (v1 < 0)) then
  some true
  else
  (laws_szBookingS a1 v1).bind fun v4 =>
  bif (decide (v4 < 0)) then
  some true
  else
  (laws_toNetwork a0).bind fun v7 =>
  (laws_toBookingS a1).bind fun v9 =>
  (laws_toTrip a2).bind fun v11 =>
  (spec_SpareOn v7 v9 v11).bind fun v13 =>
  (laws_toNetwork a0).bind fun v15 =>
  (laws_toBookingS a1).bind fun v17 =>
  (laws_toTrip a2).bind fun v19 =>
  (impl_SpareOn v15 v17 v19).bind fun v21 =>
  bif (v21 != v13) then
  some false
  else
  (laws_toNetwork a0).bind fun v24 =>
  (laws_eqNetwork v15 v24).bind fun v26 =>
  bif (!v26) then
  some false
  else
  (laws_toBookingS a1).bind fun v29 =>
  (laws_eqBookingS v17 v29).bind fun v31 =>
  bif (!v31) then
  some false
  else
  some true
theorem laws_FnExactSpareOn_ok (a0 : Network) (a1 : (List Booking)) (a2 : Trip) (r : Bool) (hM : laws_FnExactSpareOn a0 a1 a2 = some r) :
    Con Try.prog 10 [.agg [.rs 6 (a0.Legs.map Leg.enc), .rs 1 (a0.Off.map encI), .v (.int .i64 a0.Change)], .c (.rs 4 (a1.map Booking.enc)), .c (.v (.agg (Trip.enc a2).toArray))] [] (.o (.c (.v (.bool r)))) [] [] := by
  unfold laws_FnExactSpareOn at hM
  refine cn (N := 51) (pids := []) Try_mixed Try.func10 (by kernel_rfl) (by kernel_rfl) (by kernel_rfl) rfl fun ρ g w R => ?_
  obtain ⟨v1, h2, hM⟩ := bind_some hM
  rcases cond_cases hM with ⟨h3, hM⟩ | ⟨h3, hM⟩
  · have hE : some true = some r := hM
    have hE := Option.some.inj hE
    subst hE
    exact pr R 9999 [.new 0, .new 1, .call false [] (.o (.c (.v (.int .i64 v1)))) [] [], .as 16 true] [] [] [] (And.intro (laws_szNetwork_ok a0 1048576 v1 h2) (And.intro h3 True.intro)) (by kernel_rfl)
  · obtain ⟨v4, h5, hM⟩ := bind_some hM
    rcases cond_cases hM with ⟨h6, hM⟩ | ⟨h6, hM⟩
    · have hE : some true = some r := hM
      have hE := Option.some.inj hE
      subst hE
      exact pr R 9999 [.new 0, .new 1, .call false [] (.o (.c (.v (.int .i64 v1)))) [] [], .as 16 false, .call false [] (.o (.c (.v (.int .i64 v4)))) [] [], .as 21 true] [] [] [] (And.intro (laws_szNetwork_ok a0 1048576 v1 h2) (And.intro h3 (And.intro (laws_szBookingS_ok a1 v1 v4 h5) (And.intro h6 True.intro)))) (by kernel_rfl)
    · obtain ⟨v7, h8, hM⟩ := bind_some hM
      obtain ⟨v9, h10, hM⟩ := bind_some hM
      obtain ⟨v11, h12, hM⟩ := bind_some hM
      obtain ⟨v13, h14, hM⟩ := bind_some hM
      obtain ⟨v15, h16, hM⟩ := bind_some hM
      obtain ⟨v17, h18, hM⟩ := bind_some hM
      obtain ⟨v19, h20, hM⟩ := bind_some hM
      obtain ⟨v21, h22, hM⟩ := bind_some hM
      rcases cond_cases hM with ⟨h23, hM⟩ | ⟨h23, hM⟩
      · have hE : some false = some r := hM
        have hE := Option.some.inj hE
        subst hE
        exact pr R 9999 [.new 0, .new 1, .call false [] (.o (.c (.v (.int .i64 v1)))) [] [], .as 16 false, .call false [] (.o (.c (.v (.int .i64 v4)))) [] [], .as 21 false, .xo [[], [.call false [] (.o (.agg [.sl 2, .sl 3, .v (.int .i64 v7.Change)])) [] [(2, .row 89 6 (v7.Legs.map Leg.enc)), (3, .row 3 1 (v7.Off.map encI))]], [], [.call false [] (.o (.c (.sl 4))) [] [(4, .row 74 4 (v9.map Booking.enc))]], [], [.call false [] (.o (.c (.v (.agg (Trip.enc v11).toArray)))) [] []], [.call false [] (.o (.c (.v (.int .i64 v13)))) [] []], []] [.keep [1, 3, 5, 8] [0, 1]] (laws_FnExactSpareOn_x1 a0 a1 a2 v13), .call false [] (.o (.agg [.sl 5, .sl 6, .v (.int .i64 v15.Change)])) [] [(5, .row 89 6 (v15.Legs.map Leg.enc)), (6, .row 3 1 (v15.Off.map encI))], .new 7, .call false [] (.o (.c (.sl 8))) [] [(8, .row 74 4 (v17.map Booking.enc))], .call false [] (.o (.c (.v (.agg (Trip.enc v19).toArray)))) [] [], .call false [] (.o (.c (.v (.int .i64 v21)))) [] [], .as 40 true] [] [] [] (And.intro (laws_szNetwork_ok a0 1048576 v1 h2) (And.intro h3 (And.intro (laws_szBookingS_ok a1 v1 v4 h5) (And.intro h6 (And.intro (And.intro (con_sw 1001 3 (con_sw 1000 2 (laws_toNetwork_ok a0 v7 h8))) (rfl : ([] : List Nat) = [])) (And.intro (And.intro (con_sw 1000 4 (laws_toBookingS_ok a1 v9 h10)) (rfl : ([] : List Nat) = [])) (And.intro (laws_toTrip_ok a2 v11 h12) (And.intro (spec_SpareOn_ok v7 v9 v11 v13 h14) (And.intro (rfl : (laws_FnExactSpareOn_x1 a0 a1 a2 v13) = (laws_FnExactSpareOn_x1 a0 a1 a2 v13)) (And.intro (And.intro (con_sw 1000 4 (laws_toBookingS_ok a1 v9 h10)) (rfl : ([] : List Nat) = [])) (And.intro (laws_toTrip_ok a2 v11 h12) (And.intro (spec_SpareOn_ok v7 v9 v11 v13 h14) (And.intro (rfl : (laws_FnExactSpareOn_x1 a0 a1 a2 v13) = (laws_FnExactSpareOn_x1 a0 a1 a2 v13)) (And.intro (And.intro (con_sw 1001 3 (con_sw 1000 2 (laws_toNetwork_ok a0 v7 h8))) (rfl : ([] : List Nat) = [])) (And.intro (And.intro (con_sw 1000 4 (laws_toBookingS_ok a1 v9 h10)) (rfl : ([] : List Nat) = [])) (And.intro (laws_toTrip_ok a2 v11 h12) (And.intro (spec_SpareOn_ok v7 v9 v11 v13 h14) (And.intro (rfl : (laws_FnExactSpareOn_x1 a0 a1 a2 v13) = (laws_FnExactSpareOn_x1 a0 a1 a2 v13)) (And.intro (And.intro (con_sw 1001 3 (con_sw 1000 2 (laws_toNetwork_ok a0 v7 h8))) (rfl : ([] : List Nat) = [])) (And.intro (And.intro (con_sw 1000 4 (laws_toBookingS_ok a1 v9 h10)) (rfl : ([] : List Nat) = [])) (And.intro (laws_toTrip_ok a2 v11 h12) (And.intro (spec_SpareOn_ok v7 v9 v11 v13 h14) (And.intro (rfl : (laws_FnExactSpareOn_x1 a0 a1 a2 v13) = (laws_FnExactSpareOn_x1 a0 a1 a2 v13)) (And.intro (And.intro (con_sw 1001 6 (con_sw 1000 5 (laws_toNetwork_ok a0 v15 h16))) (rfl : ([] : List Nat) = [])) (And.intro (And.intro (con_sw 1000 8 (laws_toBookingS_ok a1 v17 h18)) (rfl : ([] : List Nat) = [])) (And.intro (laws_toTrip_ok a2 v19 h20) (And.intro (impl_SpareOn_ok v15 v17 v19 v21 h22) (And.intro h23 True.intro)))))))))))))))))))))))))))) (by kernel_rfl)
      · obtain ⟨v24, h25, hM⟩ := bind_some hM
        obtain ⟨v26, h27, hM⟩ := bind_some hM
        rcases cond_cases hM with ⟨h28, hM⟩ | ⟨h28, hM⟩
        · have hE : some false = some r := hM
          have hE := Option.some.inj hE
          subst hE
          exact pr R 9999 [.new 0, .new 1, .call false [] (.o (.c (.v (.int .i64 v1)))) [] [], .as 16 false, .call false [] (.o (.c (.v (.int .i64 v4)))) [] [], .as 21 false, .xo [[], [.call false [] (.o (.agg [.sl 2, .sl 3, .v (.int .i64 v7.Change)])) [] [(2, .row 89 6 (v7.Legs.map Leg.enc)), (3, .row 3 1 (v7.Off.map encI))]], [], [.call false [] (.o (.c (.sl 4))) [] [(4, .row 74 4 (v9.map Booking.enc))]], [], [.call false [] (.o (.c (.v (.agg (Trip.enc v11).toArray)))) [] []], [.call false [] (.o (.c (.v (.int .i64 v13)))) [] []], []] [.keep [1, 3, 5, 8] [0, 1]] (laws_FnExactSpareOn_x1 a0 a1 a2 v13), .call false [] (.o (.agg [.sl 5, .sl 6, .v (.int .i64 v15.Change)])) [] [(5, .row 89 6 (v15.Legs.map Leg.enc)), (6, .row 3 1 (v15.Off.map encI))], .new 7, .call false [] (.o (.c (.sl 8))) [] [(8, .row 74 4 (v17.map Booking.enc))], .call false [] (.o (.c (.v (.agg (Trip.enc v19).toArray)))) [] [], .call false [] (.o (.c (.v (.int .i64 v21)))) [] [], .as 40 false, .xo [[], [], [.call false [] (.o (.agg [.sl 9, .sl 10, .v (.int .i64 v24.Change)])) [] [(9, .row 89 6 (v24.Legs.map Leg.enc)), (10, .row 3 1 (v24.Off.map encI))]], [.call false [] (.o (.c (.v (.bool v26)))) [] []], []] [.keep [1, 10, 45] [8]] (laws_FnExactSpareOn_x2 a1 v17 v26), .as 45 true] [] [] [] (And.intro (laws_szNetwork_ok a0 1048576 v1 h2) (And.intro h3 (And.intro (laws_szBookingS_ok a1 v1 v4 h5) (And.intro h6 (And.intro (And.intro (con_sw 1001 3 (con_sw 1000 2 (laws_toNetwork_ok a0 v7 h8))) (rfl : ([] : List Nat) = [])) (And.intro (And.intro (con_sw 1000 4 (laws_toBookingS_ok a1 v9 h10)) (rfl : ([] : List Nat) = [])) (And.intro (laws_toTrip_ok a2 v11 h12) (And.intro (spec_SpareOn_ok v7 v9 v11 v13 h14) (And.intro (rfl : (laws_FnExactSpareOn_x1 a0 a1 a2 v13) = (laws_FnExactSpareOn_x1 a0 a1 a2 v13)) (And.intro (And.intro (con_sw 1000 4 (laws_toBookingS_ok a1 v9 h10)) (rfl : ([] : List Nat) = [])) (And.intro (laws_toTrip_ok a2 v11 h12) (And.intro (spec_SpareOn_ok v7 v9 v11 v13 h14) (And.intro (rfl : (laws_FnExactSpareOn_x1 a0 a1 a2 v13) = (laws_FnExactSpareOn_x1 a0 a1 a2 v13)) (And.intro (And.intro (con_sw 1001 3 (con_sw 1000 2 (laws_toNetwork_ok a0 v7 h8))) (rfl : ([] : List Nat) = [])) (And.intro (And.intro (con_sw 1000 4 (laws_toBookingS_ok a1 v9 h10)) (rfl : ([] : List Nat) = [])) (And.intro (laws_toTrip_ok a2 v11 h12) (And.intro (spec_SpareOn_ok v7 v9 v11 v13 h14) (And.intro (rfl : (laws_FnExactSpareOn_x1 a0 a1 a2 v13) = (laws_FnExactSpareOn_x1 a0 a1 a2 v13)) (And.intro (And.intro (con_sw 1001 3 (con_sw 1000 2 (laws_toNetwork_ok a0 v7 h8))) (rfl : ([] : List Nat) = [])) (And.intro (And.intro (con_sw 1000 4 (laws_toBookingS_ok a1 v9 h10)) (rfl : ([] : List Nat) = [])) (And.intro (laws_toTrip_ok a2 v11 h12) (And.intro (spec_SpareOn_ok v7 v9 v11 v13 h14) (And.intro (rfl : (laws_FnExactSpareOn_x1 a0 a1 a2 v13) = (laws_FnExactSpareOn_x1 a0 a1 a2 v13)) (And.intro (And.intro (con_sw 1001 6 (con_sw 1000 5 (laws_toNetwork_ok a0 v15 h16))) (rfl : ([] : List Nat) = [])) (And.intro (And.intro (con_sw 1000 8 (laws_toBookingS_ok a1 v17 h18)) (rfl : ([] : List Nat) = [])) (And.intro (laws_toTrip_ok a2 v19 h20) (And.intro (impl_SpareOn_ok v15 v17 v19 v21 h22) (And.intro h23 (And.intro (And.intro (con_sw 1001 10 (con_sw 1000 9 (laws_toNetwork_ok a0 v24 h25))) (rfl : ([] : List Nat) = [])) (And.intro (laws_eqNetwork_ok v15 v24 v26 h27) (And.intro (rfl : (laws_FnExactSpareOn_x2 a1 v17 v26) = (laws_FnExactSpareOn_x2 a1 v17 v26)) (And.intro (And.intro (con_sw 1001 10 (con_sw 1000 9 (laws_toNetwork_ok a0 v24 h25))) (rfl : ([] : List Nat) = [])) (And.intro (laws_eqNetwork_ok v15 v24 v26 h27) (And.intro (rfl : (laws_FnExactSpareOn_x2 a1 v17 v26) = (laws_FnExactSpareOn_x2 a1 v17 v26)) (And.intro (And.intro (con_sw 1001 10 (con_sw 1000 9 (laws_toNetwork_ok a0 v24 h25))) (rfl : ([] : List Nat) = [])) (And.intro (laws_eqNetwork_ok v15 v24 v26 h27) (And.intro (rfl : (laws_FnExactSpareOn_x2 a1 v17 v26) = (laws_FnExactSpareOn_x2 a1 v17 v26)) (And.intro h28 True.intro)))))))))))))))))))))))))))))))))))))) (by kernel_rfl)
        · obtain ⟨v29, h30, hM⟩ := bind_some hM
          obtain ⟨v31, h32, hM⟩ := bind_some hM
          rcases cond_cases hM with ⟨h33, hM⟩ | ⟨h33, hM⟩
          · have hE : some false = some r := hM
            have hE := Option.some.inj hE
            subst hE
            exact pr R 9999 [.new 0, .new 1, .call false [] (.o (.c (.v (.int .i64 v1)))) [] [], .as 16 false, .call false [] (.o (.c (.v (.int .i64 v4)))) [] [], .as 21 false, .xo [[], [.call false [] (.o (.agg [.sl 2, .sl 3, .v (.int .i64 v7.Change)])) [] [(2, .row 89 6 (v7.Legs.map Leg.enc)), (3, .row 3 1 (v7.Off.map encI))]], [], [.call false [] (.o (.c (.sl 4))) [] [(4, .row 74 4 (v9.map Booking.enc))]], [], [.call false [] (.o (.c (.v (.agg (Trip.enc v11).toArray)))) [] []], [.call false [] (.o (.c (.v (.int .i64 v13)))) [] []], []] [.keep [1, 3, 5, 8] [0, 1]] (laws_FnExactSpareOn_x1 a0 a1 a2 v13), .call false [] (.o (.agg [.sl 5, .sl 6, .v (.int .i64 v15.Change)])) [] [(5, .row 89 6 (v15.Legs.map Leg.enc)), (6, .row 3 1 (v15.Off.map encI))], .new 7, .call false [] (.o (.c (.sl 8))) [] [(8, .row 74 4 (v17.map Booking.enc))], .call false [] (.o (.c (.v (.agg (Trip.enc v19).toArray)))) [] [], .call false [] (.o (.c (.v (.int .i64 v21)))) [] [], .as 40 false, .xo [[], [], [.call false [] (.o (.agg [.sl 9, .sl 10, .v (.int .i64 v24.Change)])) [] [(9, .row 89 6 (v24.Legs.map Leg.enc)), (10, .row 3 1 (v24.Off.map encI))]], [.call false [] (.o (.c (.v (.bool v26)))) [] []], []] [.keep [1, 10, 45] [8]] (laws_FnExactSpareOn_x2 a1 v17 v26), .as 45 false, .call false [] (.o (.c (.sl 11))) [] [(11, .row 74 4 (v29.map Booking.enc))], .call false [] (.o (.c (.v (.bool v31)))) [] [], .as 50 true] [] [] [] (And.intro (laws_szNetwork_ok a0 1048576 v1 h2) (And.intro h3 (And.intro (laws_szBookingS_ok a1 v1 v4 h5) (And.intro h6 (And.intro (And.intro (con_sw 1001 3 (con_sw 1000 2 (laws_toNetwork_ok a0 v7 h8))) (rfl : ([] : List Nat) = [])) (And.intro (And.intro (con_sw 1000 4 (laws_toBookingS_ok a1 v9 h10)) (rfl : ([] : List Nat) = [])) (And.intro (laws_toTrip_ok a2 v11 h12) (And.intro (spec_SpareOn_ok v7 v9 v11 v13 h14) (And.intro (rfl : (laws_FnExactSpareOn_x1 a0 a1 a2 v13) = (laws_FnExactSpareOn_x1 a0 a1 a2 v13)) (And.intro (And.intro (con_sw 1000 4 (laws_toBookingS_ok a1 v9 h10)) (rfl : ([] : List Nat) = [])) (And.intro (laws_toTrip_ok a2 v11 h12) (And.intro (spec_SpareOn_ok v7 v9 v11 v13 h14) (And.intro (rfl : (laws_FnExactSpareOn_x1 a0 a1 a2 v13) = (laws_FnExactSpareOn_x1 a0 a1 a2 v13)) (And.intro (And.intro (con_sw 1001 3 (con_sw 1000 2 (laws_toNetwork_ok a0 v7 h8))) (rfl : ([] : List Nat) = [])) (And.intro (And.intro (con_sw 1000 4 (laws_toBookingS_ok a1 v9 h10)) (rfl : ([] : List Nat) = [])) (And.intro (laws_toTrip_ok a2 v11 h12) (And.intro (spec_SpareOn_ok v7 v9 v11 v13 h14) (And.intro (rfl : (laws_FnExactSpareOn_x1 a0 a1 a2 v13) = (laws_FnExactSpareOn_x1 a0 a1 a2 v13)) (And.intro (And.intro (con_sw 1001 3 (con_sw 1000 2 (laws_toNetwork_ok a0 v7 h8))) (rfl : ([] : List Nat) = [])) (And.intro (And.intro (con_sw 1000 4 (laws_toBookingS_ok a1 v9 h10)) (rfl : ([] : List Nat) = [])) (And.intro (laws_toTrip_ok a2 v11 h12) (And.intro (spec_SpareOn_ok v7 v9 v11 v13 h14) (And.intro (rfl : (laws_FnExactSpareOn_x1 a0 a1 a2 v13) = (laws_FnExactSpareOn_x1 a0 a1 a2 v13)) (And.intro (And.intro (con_sw 1001 6 (con_sw 1000 5 (laws_toNetwork_ok a0 v15 h16))) (rfl : ([] : List Nat) = [])) (And.intro (And.intro (con_sw 1000 8 (laws_toBookingS_ok a1 v17 h18)) (rfl : ([] : List Nat) = [])) (And.intro (laws_toTrip_ok a2 v19 h20) (And.intro (impl_SpareOn_ok v15 v17 v19 v21 h22) (And.intro h23 (And.intro (And.intro (con_sw 1001 10 (con_sw 1000 9 (laws_toNetwork_ok a0 v24 h25))) (rfl : ([] : List Nat) = [])) (And.intro (laws_eqNetwork_ok v15 v24 v26 h27) (And.intro (rfl : (laws_FnExactSpareOn_x2 a1 v17 v26) = (laws_FnExactSpareOn_x2 a1 v17 v26)) (And.intro (And.intro (con_sw 1001 10 (con_sw 1000 9 (laws_toNetwork_ok a0 v24 h25))) (rfl : ([] : List Nat) = [])) (And.intro (laws_eqNetwork_ok v15 v24 v26 h27) (And.intro (rfl : (laws_FnExactSpareOn_x2 a1 v17 v26) = (laws_FnExactSpareOn_x2 a1 v17 v26)) (And.intro (And.intro (con_sw 1001 10 (con_sw 1000 9 (laws_toNetwork_ok a0 v24 h25))) (rfl : ([] : List Nat) = [])) (And.intro (laws_eqNetwork_ok v15 v24 v26 h27) (And.intro (rfl : (laws_FnExactSpareOn_x2 a1 v17 v26) = (laws_FnExactSpareOn_x2 a1 v17 v26)) (And.intro h28 (And.intro (And.intro (con_sw 1000 11 (laws_toBookingS_ok a1 v29 h30)) (rfl : ([] : List Nat) = [])) (And.intro (laws_eqBookingS_ok v17 v29 v31 h32) (And.intro h33 True.intro))))))))))))))))))))))))))))))))))))))))) (by kernel_rfl)
          · have hE : some true = some r := hM
            have hE := Option.some.inj hE
            subst hE
            exact pr R 9999 [.new 0, .new 1, .call false [] (.o (.c (.v (.int .i64 v1)))) [] [], .as 16 false, .call false [] (.o (.c (.v (.int .i64 v4)))) [] [], .as 21 false, .xo [[], [.call false [] (.o (.agg [.sl 2, .sl 3, .v (.int .i64 v7.Change)])) [] [(2, .row 89 6 (v7.Legs.map Leg.enc)), (3, .row 3 1 (v7.Off.map encI))]], [], [.call false [] (.o (.c (.sl 4))) [] [(4, .row 74 4 (v9.map Booking.enc))]], [], [.call false [] (.o (.c (.v (.agg (Trip.enc v11).toArray)))) [] []], [.call false [] (.o (.c (.v (.int .i64 v13)))) [] []], []] [.keep [1, 3, 5, 8] [0, 1]] (laws_FnExactSpareOn_x1 a0 a1 a2 v13), .call false [] (.o (.agg [.sl 5, .sl 6, .v (.int .i64 v15.Change)])) [] [(5, .row 89 6 (v15.Legs.map Leg.enc)), (6, .row 3 1 (v15.Off.map encI))], .new 7, .call false [] (.o (.c (.sl 8))) [] [(8, .row 74 4 (v17.map Booking.enc))], .call false [] (.o (.c (.v (.agg (Trip.enc v19).toArray)))) [] [], .call false [] (.o (.c (.v (.int .i64 v21)))) [] [], .as 40 false, .xo [[], [], [.call false [] (.o (.agg [.sl 9, .sl 10, .v (.int .i64 v24.Change)])) [] [(9, .row 89 6 (v24.Legs.map Leg.enc)), (10, .row 3 1 (v24.Off.map encI))]], [.call false [] (.o (.c (.v (.bool v26)))) [] []], []] [.keep [1, 10, 45] [8]] (laws_FnExactSpareOn_x2 a1 v17 v26), .as 45 false, .call false [] (.o (.c (.sl 11))) [] [(11, .row 74 4 (v29.map Booking.enc))], .call false [] (.o (.c (.v (.bool v31)))) [] [], .as 50 false] [] [] [] (And.intro (laws_szNetwork_ok a0 1048576 v1 h2) (And.intro h3 (And.intro (laws_szBookingS_ok a1 v1 v4 h5) (And.intro h6 (And.intro (And.intro (con_sw 1001 3 (con_sw 1000 2 (laws_toNetwork_ok a0 v7 h8))) (rfl : ([] : List Nat) = [])) (And.intro (And.intro (con_sw 1000 4 (laws_toBookingS_ok a1 v9 h10)) (rfl : ([] : List Nat) = [])) (And.intro (laws_toTrip_ok a2 v11 h12) (And.intro (spec_SpareOn_ok v7 v9 v11 v13 h14) (And.intro (rfl : (laws_FnExactSpareOn_x1 a0 a1 a2 v13) = (laws_FnExactSpareOn_x1 a0 a1 a2 v13)) (And.intro (And.intro (con_sw 1000 4 (laws_toBookingS_ok a1 v9 h10)) (rfl : ([] : List Nat) = [])) (And.intro (laws_toTrip_ok a2 v11 h12) (And.intro (spec_SpareOn_ok v7 v9 v11 v13 h14) (And.intro (rfl : (laws_FnExactSpareOn_x1 a0 a1 a2 v13) = (laws_FnExactSpareOn_x1 a0 a1 a2 v13)) (And.intro (And.intro (con_sw 1001 3 (con_sw 1000 2 (laws_toNetwork_ok a0 v7 h8))) (rfl : ([] : List Nat) = [])) (And.intro (And.intro (con_sw 1000 4 (laws_toBookingS_ok a1 v9 h10)) (rfl : ([] : List Nat) = [])) (And.intro (laws_toTrip_ok a2 v11 h12) (And.intro (spec_SpareOn_ok v7 v9 v11 v13 h14) (And.intro (rfl : (laws_FnExactSpareOn_x1 a0 a1 a2 v13) = (laws_FnExactSpareOn_x1 a0 a1 a2 v13)) (And.intro (And.intro (con_sw 1001 3 (con_sw 1000 2 (laws_toNetwork_ok a0 v7 h8))) (rfl : ([] : List Nat) = [])) (And.intro (And.intro (con_sw 1000 4 (laws_toBookingS_ok a1 v9 h10)) (rfl : ([] : List Nat) = [])) (And.intro (laws_toTrip_ok a2 v11 h12) (And.intro (spec_SpareOn_ok v7 v9 v11 v13 h14) (And.intro (rfl : (laws_FnExactSpareOn_x1 a0 a1 a2 v13) = (laws_FnExactSpareOn_x1 a0 a1 a2 v13)) (And.intro (And.intro (con_sw 1001 6 (con_sw 1000 5 (laws_toNetwork_ok a0 v15 h16))) (rfl : ([] : List Nat) = [])) (And.intro (And.intro (con_sw 1000 8 (laws_toBookingS_ok a1 v17 h18)) (rfl : ([] : List Nat) = [])) (And.intro (laws_toTrip_ok a2 v19 h20) (And.intro (impl_SpareOn_ok v15 v17 v19 v21 h22) (And.intro h23 (And.intro (And.intro (con_sw 1001 10 (con_sw 1000 9 (laws_toNetwork_ok a0 v24 h25))) (rfl : ([] : List Nat) = [])) (And.intro (laws_eqNetwork_ok v15 v24 v26 h27) (And.intro (rfl : (laws_FnExactSpareOn_x2 a1 v17 v26) = (laws_FnExactSpareOn_x2 a1 v17 v26)) (And.intro (And.intro (con_sw 1001 10 (con_sw 1000 9 (laws_toNetwork_ok a0 v24 h25))) (rfl : ([] : List Nat) = [])) (And.intro (laws_eqNetwork_ok v15 v24 v26 h27) (And.intro (rfl : (laws_FnExactSpareOn_x2 a1 v17 v26) = (laws_FnExactSpareOn_x2 a1 v17 v26)) (And.intro (And.intro (con_sw 1001 10 (con_sw 1000 9 (laws_toNetwork_ok a0 v24 h25))) (rfl : ([] : List Nat) = [])) (And.intro (laws_eqNetwork_ok v15 v24 v26 h27) (And.intro (rfl : (laws_FnExactSpareOn_x2 a1 v17 v26) = (laws_FnExactSpareOn_x2 a1 v17 v26)) (And.intro h28 (And.intro (And.intro (con_sw 1000 11 (laws_toBookingS_ok a1 v29 h30)) (rfl : ([] : List Nat) = [])) (And.intro (laws_eqBookingS_ok v17 v29 v31 h32) (And.intro h33 True.intro))))))))))))))))))))))))))))))))))))))))) (by kernel_rfl)

-- loop.example/g03014/spec.FillOf
def spec_FillOf (a0 : Network) (a1 : (List Booking)) (a2 : Trip) : Option Int :=
  (spec_AreBookings a0 a1).bind fun v1 =>
  bif (!v1) then
  some (-1)
  else
  (spec_IsTrip a0 a2).bind fun v4 =>
  bif (!v4) then
  some (-1)
  else
  (gi a0.Legs a2.Leg).bind fun v7 =>
  bif (v7.Room == 0) then
  some 0
  else
  (spec_LoadOf a1 a2).bind fun v10 =>
  (gi a0.Legs a2.Leg).bind fun v12 =>
  (qM (w64 (100 * v10)) v12.Room).bind fun v14 =>
  some v14
theorem spec_FillOf_ok (a0 : Network) (a1 : (List Booking)) (a2 : Trip) (r : Int) (hM : spec_FillOf a0 a1 a2 = some r) :
    Con Try.prog 47 [.agg [.rs 6 (a0.Legs.map Leg.enc), .rs 1 (a0.Off.map encI), .v (.int .i64 a0.Change)], .c (.rs 4 (a1.map Booking.enc)), .c (.v (.agg (Trip.enc a2).toArray))] [] (.o (.c (.v (.int .i64 r)))) [] [] := by
  unfold spec_FillOf at hM
  refine cn (N := 37) (pids := []) Try_mixed Try.func47 (by kernel_rfl) (by kernel_rfl) (by kernel_rfl) rfl fun ρ g w R => ?_
  obtain ⟨v1, h2, hM⟩ := bind_some hM
  rcases cond_cases hM with ⟨h3, hM⟩ | ⟨h3, hM⟩
  · have hE : some (-1) = some r := hM
    have hE := Option.some.inj hE
    subst hE
    exact pr R 9999 [.new 0, .new 1, .call false [] (.o (.c (.v (.bool v1)))) [] [], .as 11 true] [] [] [] (And.intro (spec_AreBookings_ok a0 a1 v1 h2) (And.intro h3 True.intro)) (by kernel_rfl)
  · obtain ⟨v4, h5, hM⟩ := bind_some hM
    rcases cond_cases hM with ⟨h6, hM⟩ | ⟨h6, hM⟩
    · have hE : some (-1) = some r := hM
      have hE := Option.some.inj hE
      subst hE
      exact pr R 9999 [.new 0, .new 1, .call false [] (.o (.c (.v (.bool v1)))) [] [], .as 11 false, .call false [] (.o (.c (.v (.bool v4)))) [] [], .as 16 true] [] [] [] (And.intro (spec_AreBookings_ok a0 a1 v1 h2) (And.intro h3 (And.intro (spec_IsTrip_ok a0 a2 v4 h5) (And.intro h6 True.intro)))) (by kernel_rfl)
    · obtain ⟨v7, h8, hM⟩ := bind_some hM
      rcases cond_cases hM with ⟨h9, hM⟩ | ⟨h9, hM⟩
      · have hE : some 0 = some r := hM
        have hE := Option.some.inj hE
        subst hE
        exact pr R 9999 [.new 0, .new 1, .call false [] (.o (.c (.v (.bool v1)))) [] [], .as 11 false, .call false [] (.o (.c (.v (.bool v4)))) [] [], .as 16 false, .ix (Leg.enc v7), .as 24 true] [] [] [] (And.intro (spec_AreBookings_ok a0 a1 v1 h2) (And.intro h3 (And.intro (spec_IsTrip_ok a0 a2 v4 h5) (And.intro h6 (And.intro (gi_map Leg.enc h8) (And.intro h9 True.intro)))))) (by kernel_rfl)
      · obtain ⟨v10, h11, hM⟩ := bind_some hM
        obtain ⟨v12, h13, hM⟩ := bind_some hM
        obtain ⟨v14, h15, hM⟩ := bind_some hM
        have hE : some v14 = some r := hM
        have hE := Option.some.inj hE
        subst hE
        exact pr R 9999 [.new 0, .new 1, .call false [] (.o (.c (.v (.bool v1)))) [] [], .as 11 false, .call false [] (.o (.c (.v (.bool v4)))) [] [], .as 16 false, .ix (Leg.enc v7), .as 24 false, .call false [] (.o (.c (.v (.int .i64 v10)))) [] [], .ix (Leg.enc v12), .run 36 (.int .i64 v14)] [] [] [] (And.intro (spec_AreBookings_ok a0 a1 v1 h2) (And.intro h3 (And.intro (spec_IsTrip_ok a0 a2 v4 h5) (And.intro h6 (And.intro (gi_map Leg.enc h8) (And.intro h9 (And.intro (spec_LoadOf_ok a1 a2 v10 h11) (And.intro (gi_map Leg.enc h13) (And.intro (qM_run (P := Try.prog) (t := 3) (x := .tmp 0) (y := .tmp 0) h15) True.intro))))))))) (by kernel_rfl)

-- loop.example/g03014/impl.FillOf
def impl_FillOf (a0 : Network) (a1 : (List Booking)) (a2 : Trip) : Option Int :=
  (impl_AreBookings a0 a1).bind fun v1 =>
  bif (!v1) then
  some (-1)
  else
  (impl_IsTrip a0 a2).bind fun v4 =>
  bif (!v4) then
  some (-1)
  else
  (gi a0.Legs a2.Leg).bind fun v7 =>
  bif (v7.Room == 0) then
  some 0
  else
  (impl_LoadOf a1 a2).bind fun v10 =>
  (gi a0.Legs a2.Leg).bind fun v12 =>
  (qM (w64 (100 * v10)) v12.Room).bind fun v14 =>
  some v14
theorem impl_FillOf_ok (a0 : Network) (a1 : (List Booking)) (a2 : Trip) (r : Int) (hM : impl_FillOf a0 a1 a2 = some r) :
    Con Try.prog 48 [.agg [.rs 6 (a0.Legs.map Leg.enc), .rs 1 (a0.Off.map encI), .v (.int .i64 a0.Change)], .c (.rs 4 (a1.map Booking.enc)), .c (.v (.agg (Trip.enc a2).toArray))] [] (.o (.c (.v (.int .i64 r)))) [] [] := by
  unfold impl_FillOf at hM
  refine cn (N := 37) (pids := []) Try_mixed Try.func48 (by kernel_rfl) (by kernel_rfl) (by kernel_rfl) rfl fun ρ g w R => ?_
  obtain ⟨v1, h2, hM⟩ := bind_some hM
  rcases cond_cases hM with ⟨h3, hM⟩ | ⟨h3, hM⟩
  · have hE : some (-1) = some r := hM
    have hE := Option.some.inj hE
    subst hE
    exact pr R 9999 [.new 0, .new 1, .call false [] (.o (.c (.v (.bool v1)))) [] [], .as 11 true] [] [] [] (And.intro (impl_AreBookings_ok a0 a1 v1 h2) (And.intro h3 True.intro)) (by kernel_rfl)
  · obtain ⟨v4, h5, hM⟩ := bind_some hM
    rcases cond_cases hM with ⟨h6, hM⟩ | ⟨h6, hM⟩
    · have hE : some (-1) = some r := hM
      have hE := Option.some.inj hE
      subst hE
      exact pr R 9999 [.new 0, .new 1, .call false [] (.o (.c (.v (.bool v1)))) [] [], .as 11 false, .call false [] (.o (.c (.v (.bool v4)))) [] [], .as 16 true] [] [] [] (And.intro (impl_AreBookings_ok a0 a1 v1 h2) (And.intro h3 (And.intro (impl_IsTrip_ok a0 a2 v4 h5) (And.intro h6 True.intro)))) (by kernel_rfl)
    · obtain ⟨v7, h8, hM⟩ := bind_some hM
      rcases cond_cases hM with ⟨h9, hM⟩ | ⟨h9, hM⟩
      · have hE : some 0 = some r := hM
        have hE := Option.some.inj hE
        subst hE
        exact pr R 9999 [.new 0, .new 1, .call false [] (.o (.c (.v (.bool v1)))) [] [], .as 11 false, .call false [] (.o (.c (.v (.bool v4)))) [] [], .as 16 false, .ix (Leg.enc v7), .as 24 true] [] [] [] (And.intro (impl_AreBookings_ok a0 a1 v1 h2) (And.intro h3 (And.intro (impl_IsTrip_ok a0 a2 v4 h5) (And.intro h6 (And.intro (gi_map Leg.enc h8) (And.intro h9 True.intro)))))) (by kernel_rfl)
      · obtain ⟨v10, h11, hM⟩ := bind_some hM
        obtain ⟨v12, h13, hM⟩ := bind_some hM
        obtain ⟨v14, h15, hM⟩ := bind_some hM
        have hE : some v14 = some r := hM
        have hE := Option.some.inj hE
        subst hE
        exact pr R 9999 [.new 0, .new 1, .call false [] (.o (.c (.v (.bool v1)))) [] [], .as 11 false, .call false [] (.o (.c (.v (.bool v4)))) [] [], .as 16 false, .ix (Leg.enc v7), .as 24 false, .call false [] (.o (.c (.v (.int .i64 v10)))) [] [], .ix (Leg.enc v12), .run 36 (.int .i64 v14)] [] [] [] (And.intro (impl_AreBookings_ok a0 a1 v1 h2) (And.intro h3 (And.intro (impl_IsTrip_ok a0 a2 v4 h5) (And.intro h6 (And.intro (gi_map Leg.enc h8) (And.intro h9 (And.intro (impl_LoadOf_ok a1 a2 v10 h11) (And.intro (gi_map Leg.enc h13) (And.intro (qM_run (P := Try.prog) (t := 3) (x := .tmp 0) (y := .tmp 0) h15) True.intro))))))))) (by kernel_rfl)

-- loop.example/g03014/laws.FnExactFillOf
def laws_FnExactFillOf_x1 (a0 : Network) (a1 : (List Booking)) (a2 : Trip) (v13 : Int) : St := ⟨[(1, .o (.c (.rs 4 (a1.map Booking.enc)))), (3, .o (.c (.ptr 0 0))), (5, .o (.c (.ptr 1 0))), (8, .o (.c (.v (.int .i64 v13))))], [(0, .box 47 [.rs 6 (a0.Legs.map Leg.enc), .rs 1 (a0.Off.map encI), .v (.int .i64 a0.Change)]), (1, .box 26 [.v (.int .i64 a2.Leg), .v (.int .i64 a2.Day)])]⟩
def laws_FnExactFillOf_x2 (a1 : (List Booking)) (v17 : (List Booking)) (v26 : Bool) : St := ⟨[(1, .o (.c (.rs 4 (a1.map Booking.enc)))), (10, .o (.c (.sl 8))), (45, .o (.c (.v (.bool (!v26)))))], [(8, .row 74 4 (v17.map Booking.enc))]⟩
def laws_FnExactFillOf (a0 : Network) (a1 : (List Booking)) (a2 : Trip) : Option Bool :=
  (laws_szNetwork a0 1048576).bind fun v1 =>
  bif (decide (v1 < 0)) then
  some true
  else
  (laws_szBookingS a1 v1).bind fun v4 =>
  bif (decide (v4 < 0)) then
  some true
  else
  (laws_toNetwork a0).bind fun v7 =>
  (laws_toBookingS a1).bind fun v9 =>
  (laws_toTrip a2).bind fun v11 =>
  (spec_FillOf v7 v9 v11).bind fun v13 =>
  (laws_toNetwork a0).bind fun v15 =>
  (laws_toBookingS a1).bind fun v17 =>
  (laws_toTrip a2).bind fun v19 =>
  (impl_FillOf v15 v17 v19).bind fun v21 =>
  bif (v21 != v13) then
  some false
  else
  (laws_toNetwork a0).bind fun v24 =>
  (laws_eqNetwork v15 v24).bind fun v26 =>
  bif (!v26) then
  some false
  else
  (laws_toBookingS a1).bind fun v29 =>
  (laws_eqBookingS v17 v29).bind fun v31 =>
  bif (!v31) then
  some false
  else
  some true
theorem laws_FnExactFillOf_ok (a0 : Network) (a1 : (List Booking)) (a2 : Trip) (r : Bool) (hM : laws_FnExactFillOf a0 a1 a2 = some r) :
    Con Try.prog 11 [.agg [.rs 6 (a0.Legs.map Leg.enc), .rs 1 (a0.Off.map encI), .v (.int .i64 a0.Change)], .c (.rs 4 (a1.map Booking.enc)), .c (.v (.agg (Trip.enc a2).toArray))] [] (.o (.c (.v (.bool r)))) [] [] := by
  unfold laws_FnExactFillOf at hM
  refine cn (N := 51) (pids := []) Try_mixed Try.func11 (by kernel_rfl) (by kernel_rfl) (by kernel_rfl) rfl fun ρ g w R => ?_
  obtain ⟨v1, h2, hM⟩ := bind_some hM
  rcases cond_cases hM with ⟨h3, hM⟩ | ⟨h3, hM⟩
  · have hE : some true = some r := hM
    have hE := Option.some.inj hE
    subst hE
    exact pr R 9999 [.new 0, .new 1, .call false [] (.o (.c (.v (.int .i64 v1)))) [] [], .as 16 true] [] [] [] (And.intro (laws_szNetwork_ok a0 1048576 v1 h2) (And.intro h3 True.intro)) (by kernel_rfl)
  · obtain ⟨v4, h5, hM⟩ := bind_some hM
    rcases cond_cases hM with ⟨h6, hM⟩ | ⟨h6, hM⟩
    · have hE : some true = some r := hM
      have hE := Option.some.inj hE
      subst hE
      exact pr R 9999 [.new 0, .new 1, .call false [] (.o (.c (.v (.int .i64 v1)))) [] [], .as 16 false, .call false [] (.o (.c (.v (.int .i64 v4)))) [] [], .as 21 true] [] [] [] (And.intro (laws_szNetwork_ok a0 1048576 v1 h2) (And.intro h3 (And.intro (laws_szBookingS_ok a1 v1 v4 h5) (And.intro h6 True.intro)))) (by kernel_rfl)
    · obtain ⟨v7, h8, hM⟩ := bind_some hM
      obtain ⟨v9, h10, hM⟩ := bind_some hM
      obtain ⟨v11, h12, hM⟩ := bind_some hM
      obtain ⟨v13, h14, hM⟩ := bind_some hM
      obtain ⟨v15, h16, hM⟩ := bind_some hM
      obtain ⟨v17, h18, hM⟩ := bind_some hM
      obtain ⟨v19, h20, hM⟩ := bind_some hM
      obtain ⟨v21, h22, hM⟩ := bind_some hM
      rcases cond_cases hM with ⟨h23, hM⟩ | ⟨h23, hM⟩
      · have hE : some false = some r := hM
        have hE := Option.some.inj hE
        subst hE
        exact pr R 9999 [.new 0, .new 1, .call false [] (.o (.c (.v (.int .i64 v1)))) [] [], .as 16 false, .call false [] (.o (.c (.v (.int .i64 v4)))) [] [], .as 21 false, .xo [[], [.call false [] (.o (.agg [.sl 2, .sl 3, .v (.int .i64 v7.Change)])) [] [(2, .row 89 6 (v7.Legs.map Leg.enc)), (3, .row 3 1 (v7.Off.map encI))]], [], [.call false [] (.o (.c (.sl 4))) [] [(4, .row 74 4 (v9.map Booking.enc))]], [], [.call false [] (.o (.c (.v (.agg (Trip.enc v11).toArray)))) [] []], [.call false [] (.o (.c (.v (.int .i64 v13)))) [] []], []] [.keep [1, 3, 5, 8] [0, 1]] (laws_FnExactFillOf_x1 a0 a1 a2 v13), .call false [] (.o (.agg [.sl 5, .sl 6, .v (.int .i64 v15.Change)])) [] [(5, .row 89 6 (v15.Legs.map Leg.enc)), (6, .row 3 1 (v15.Off.map encI))], .new 7, .call false [] (.o (.c (.sl 8))) [] [(8, .row 74 4 (v17.map Booking.enc))], .call false [] (.o (.c (.v (.agg (Trip.enc v19).toArray)))) [] [], .call false [] (.o (.c (.v (.int .i64 v21)))) [] [], .as 40 true] [] [] [] (And.intro (laws_szNetwork_ok a0 1048576 v1 h2) (And.intro h3 (And.intro (laws_szBookingS_ok a1 v1 v4 h5) (And.intro h6 (And.intro (And.intro (con_sw 1001 3 (con_sw 1000 2 (laws_toNetwork_ok a0 v7 h8))) (rfl : ([] : List Nat) = [])) (And.intro (And.intro (con_sw 1000 4 (laws_toBookingS_ok a1 v9 h10)) (rfl : ([] : List Nat) = [])) (And.intro (laws_toTrip_ok a2 v11 h12) (And.intro (spec_FillOf_ok v7 v9 v11 v13 h14) (And.intro (rfl : (laws_FnExactFillOf_x1 a0 a1 a2 v13) = (laws_FnExactFillOf_x1 a0 a1 a2 v13)) (And.intro (And.intro (con_sw 1000 4 (laws_toBookingS_ok a1 v9 h10)) (rfl : ([] : List Nat) = [])) (And.intro (laws_toTrip_ok a2 v11 h12) (And.intro (spec_FillOf_ok v7 v9 v11 v13 h14) (And.intro (rfl : (laws_FnExactFillOf_x1 a0 a1 a2 v13) = (laws_FnExactFillOf_x1 a0 a1 a2 v13)) (And.intro (And.intro (con_sw 1001 3 (con_sw 1000 2 (laws_toNetwork_ok a0 v7 h8))) (rfl : ([] : List Nat) = [])) (And.intro (And.intro (con_sw 1000 4 (laws_toBookingS_ok a1 v9 h10)) (rfl : ([] : List Nat) = [])) (And.intro (laws_toTrip_ok a2 v11 h12) (And.intro (spec_FillOf_ok v7 v9 v11 v13 h14) (And.intro (rfl : (laws_FnExactFillOf_x1 a0 a1 a2 v13) = (laws_FnExactFillOf_x1 a0 a1 a2 v13)) (And.intro (And.intro (con_sw 1001 3 (con_sw 1000 2 (laws_toNetwork_ok a0 v7 h8))) (rfl : ([] : List Nat) = [])) (And.intro (And.intro (con_sw 1000 4 (laws_toBookingS_ok a1 v9 h10)) (rfl : ([] : List Nat) = [])) (And.intro (laws_toTrip_ok a2 v11 h12) (And.intro (spec_FillOf_ok v7 v9 v11 v13 h14) (And.intro (rfl : (laws_FnExactFillOf_x1 a0 a1 a2 v13) = (laws_FnExactFillOf_x1 a0 a1 a2 v13)) (And.intro (And.intro (con_sw 1001 6 (con_sw 1000 5 (laws_toNetwork_ok a0 v15 h16))) (rfl : ([] : List Nat) = [])) (And.intro (And.intro (con_sw 1000 8 (laws_toBookingS_ok a1 v17 h18)) (rfl : ([] : List Nat) = [])) (And.intro (laws_toTrip_ok a2 v19 h20) (And.intro (impl_FillOf_ok v15 v17 v19 v21 h22) (And.intro h23 True.intro)))))))))))))))))))))))))))) (by kernel_rfl)
      · obtain ⟨v24, h25, hM⟩ := bind_some hM
        obtain ⟨v26, h27, hM⟩ := bind_some hM
        rcases cond_cases hM with ⟨h28, hM⟩ | ⟨h28, hM⟩
        · have hE : some false = some r := hM
          have hE := Option.some.inj hE
          subst hE
          exact pr R 9999 [.new 0, .new 1, .call false [] (.o (.c (.v (.int .i64 v1)))) [] [], .as 16 false, .call false [] (.o (.c (.v (.int .i64 v4)))) [] [], .as 21 false, .xo [[], [.call false [] (.o (.agg [.sl 2, .sl 3, .v (.int .i64 v7.Change)])) [] [(2, .row 89 6 (v7.Legs.map Leg.enc)), (3, .row 3 1 (v7.Off.map encI))]], [], [.call false [] (.o (.c (.sl 4))) [] [(4, .row 74 4 (v9.map Booking.enc))]], [], [.call false [] (.o (.c (.v (.agg (Trip.enc v11).toArray)))) [] []], [.call false [] (.o (.c (.v (.int .i64 v13)))) [] []], []] [.keep [1, 3, 5, 8] [0, 1]] (laws_FnExactFillOf_x1 a0 a1 a2 v13), .call false [] (.o (.agg [.sl 5, .sl 6, .v (.int .i64 v15.Change)])) [] [(5, .row 89 6 (v15.Legs.map Leg.enc)), (6, .row 3 1 (v15.Off.map encI))], .new 7, .call false [] (.o (.c (.sl 8))) [] [(8, .row 74 4 (v17.map Booking.enc))], .call false [] (.o (.c (.v (.agg (Trip.enc v19).toArray)))) [] [], .call false [] (.o (.c (.v (.int .i64 v21)))) [] [], .as 40 false, .xo [[], [], [.call false [] (.o (.agg [.sl 9, .sl 10, .v (.int .i64 v24.Change)])) [] [(9, .row 89 6 (v24.Legs.map Leg.enc)), (10, .row 3 1 (v24.Off.map encI))]], [.call false [] (.o (.c (.v (.bool v26)))) [] []], []] [.keep [1, 10, 45] [8]] (laws_FnExactFillOf_x2 a1 v17 v26), .as 45 true] [] [] [] (And.intro (laws_szNetwork_ok a0 1048576 v1 h2) (And.intro h3 (And.intro (laws_szBookingS_ok a1 v1 v4 h5) (And.intro h6 (And.intro (And.intro (con_sw 1001 3 (con_sw 1000 2 (laws_toNetwork_ok a0 v7 h8))) (rfl : ([] : List Nat) = [])) (And.intro (And.intro (con_sw 1000 4 (laws_toBookingS_ok a1 v9 h10)) (rfl : ([] : List Nat) = [])) (And.intro (laws_toTrip_ok a2 v11 h12) (And.intro (spec_FillOf_ok v7 v9 v11 v13 h14) (And.intro (rfl : (laws_FnExactFillOf_x1 a0 a1 a2 v13) = (laws_FnExactFillOf_x1 a0 a1 a2 v13)) (And.intro (And.intro (con_sw 1000 4 (laws_toBookingS_ok a1 v9 h10)) (rfl : ([] : List Nat) = [])) (And.intro (laws_toTrip_ok a2 v11 h12) (And.intro (spec_FillOf_ok v7 v9 v11 v13 h14) (And.intro (rfl : (laws_FnExactFillOf_x1 a0 a1 a2 v13) = (laws_FnExactFillOf_x1 a0 a1 a2 v13)) (And.intro (And.intro (con_sw 1001 3 (con_sw 1000 2 (laws_toNetwork_ok a0 v7 h8))) (rfl : ([] : List Nat) = [])) (And.intro (And.intro (con_sw 1000 4 (laws_toBookingS_ok a1 v9 h10)) (rfl : ([] : List Nat) = [])) (And.intro (laws_toTrip_ok a2 v11 h12) (And.intro (spec_FillOf_ok v7 v9 v11 v13 h14) (And.intro (rfl : (laws_FnExactFillOf_x1 a0 a1 a2 v13) = (laws_FnExactFillOf_x1 a0 a1 a2 v13)) (And.intro (And.intro (con_sw 1001 3 (con_sw 1000 2 (laws_toNetwork_ok a0 v7 h8))) (rfl : ([] : List Nat) = [])) (And.intro (And.intro (con_sw 1000 4 (laws_toBookingS_ok a1 v9 h10)) (rfl : ([] : List Nat) = [])) (And.intro (laws_toTrip_ok a2 v11 h12) (And.intro (spec_FillOf_ok v7 v9 v11 v13 h14) (And.intro (rfl : (laws_FnExactFillOf_x1 a0 a1 a2 v13) = (laws_FnExactFillOf_x1 a0 a1 a2 v13)) (And.intro (And.intro (con_sw 1001 6 (con_sw 1000 5 (laws_toNetwork_ok a0 v15 h16))) (rfl : ([] : List Nat) = [])) (And.intro (And.intro (con_sw 1000 8 (laws_toBookingS_ok a1 v17 h18)) (rfl : ([] : List Nat) = [])) (And.intro (laws_toTrip_ok a2 v19 h20) (And.intro (impl_FillOf_ok v15 v17 v19 v21 h22) (And.intro h23 (And.intro (And.intro (con_sw 1001 10 (con_sw 1000 9 (laws_toNetwork_ok a0 v24 h25))) (rfl : ([] : List Nat) = [])) (And.intro (laws_eqNetwork_ok v15 v24 v26 h27) (And.intro (rfl : (laws_FnExactFillOf_x2 a1 v17 v26) = (laws_FnExactFillOf_x2 a1 v17 v26)) (And.intro (And.intro (con_sw 1001 10 (con_sw 1000 9 (laws_toNetwork_ok a0 v24 h25))) (rfl : ([] : List Nat) = [])) (And.intro (laws_eqNetwork_ok v15 v24 v26 h27) (And.intro (rfl : (laws_FnExactFillOf_x2 a1 v17 v26) = (laws_FnExactFillOf_x2 a1 v17 v26)) (And.intro (And.intro (con_sw 1001 10 (con_sw 1000 9 (laws_toNetwork_ok a0 v24 h25))) (rfl : ([] : List Nat) = [])) (And.intro (laws_eqNetwork_ok v15 v24 v26 h27) (And.intro (rfl : (laws_FnExactFillOf_x2 a1 v17 v26) = (laws_FnExactFillOf_x2 a1 v17 v26)) (And.intro h28 True.intro)))))))))))))))))))))))))))))))))))))) (by kernel_rfl)
        · obtain ⟨v29, h30, hM⟩ := bind_some hM
          obtain ⟨v31, h32, hM⟩ := bind_some hM
          rcases cond_cases hM with ⟨h33, hM⟩ | ⟨h33, hM⟩
          · have hE : some false = some r := hM
            have hE := Option.some.inj hE
            subst hE
            exact pr R 9999 [.new 0, .new 1, .call false [] (.o (.c (.v (.int .i64 v1)))) [] [], .as 16 false, .call false [] (.o (.c (.v (.int .i64 v4)))) [] [], .as 21 false, .xo [[], [.call false [] (.o (.agg [.sl 2, .sl 3, .v (.int .i64 v7.Change)])) [] [(2, .row 89 6 (v7.Legs.map Leg.enc)), (3, .row 3 1 (v7.Off.map encI))]], [], [.call false [] (.o (.c (.sl 4))) [] [(4, .row 74 4 (v9.map Booking.enc))]], [], [.call false [] (.o (.c (.v (.agg (Trip.enc v11).toArray)))) [] []], [.call false [] (.o (.c (.v (.int .i64 v13)))) [] []], []] [.keep [1, 3, 5, 8] [0, 1]] (laws_FnExactFillOf_x1 a0 a1 a2 v13), .call false [] (.o (.agg [.sl 5, .sl 6, .v (.int .i64 v15.Change)])) [] [(5, .row 89 6 (v15.Legs.map Leg.enc)), (6, .row 3 1 (v15.Off.map encI))], .new 7, .call false [] (.o (.c (.sl 8))) [] [(8, .row 74 4 (v17.map Booking.enc))], .call false [] (.o (.c (.v (.agg (Trip.enc v19).toArray)))) [] [], .call false [] (.o (.c (.v (.int .i64 v21)))) [] [], .as 40 false, .xo [[], [], [.call false [] (.o (.agg [.sl 9, .sl 10, .v (.int .i64 v24.Change)])) [] [(9, .row 89 6 (v24.Legs.map Leg.enc)), (10, .row 3 1 (v24.Off.map encI))]], [.call false [] (.o (.c (.v (.bool v26)))) [] []], []] [.keep [1, 10, 45] [8]] (laws_FnExactFillOf_x2 a1 v17 v26), .as 45 false, .call false [] (.o (.c (.sl 11))) [] [(11, .row 74 4 (v29.map Booking.enc))], .call false [] (.o (.c (.v (.bool v31)))) [] [], .as 50 true] [] [] [] (And.intro (laws_szNetwork_ok a0 1048576 v1 h2) (And.intro h3 (And.intro (laws_szBookingS_ok a1 v1 v4 h5) (And.intro h6 (And.intro (And.intro (con_sw 1001 3 (con_sw 1000 2 (laws_toNetwork_ok a0 v7 h8))) (rfl : ([] : List Nat) = [])) (And.intro (And.intro (con_sw 1000 4 (laws_toBookingS_ok a1 v9 h10)) (rfl : ([] : List Nat) = [])) (And.intro (laws_toTrip_ok a2 v11 h12) (And.intro (spec_FillOf_ok v7 v9 v11 v13 h14) (And.intro (rfl : (laws_FnExactFillOf_x1 a0 a1 a2 v13) = (laws_FnExactFillOf_x1 a0 a1 a2 v13)) (And.intro (And.intro (con_sw 1000 4 (laws_toBookingS_ok a1 v9 h10)) (rfl : ([] : List Nat) = [])) (And.intro (laws_toTrip_ok a2 v11 h12) (And.intro (spec_FillOf_ok v7 v9 v11 v13 h14) (And.intro (rfl : (laws_FnExactFillOf_x1 a0 a1 a2 v13) = (laws_FnExactFillOf_x1 a0 a1 a2 v13)) (And.intro (And.intro (con_sw 1001 3 (con_sw 1000 2 (laws_toNetwork_ok a0 v7 h8))) (rfl : ([] : List Nat) = [])) (And.intro (And.intro (con_sw 1000 4 (laws_toBookingS_ok a1 v9 h10)) (rfl : ([] : List Nat) = [])) (And.intro (laws_toTrip_ok a2 v11 h12) (And.intro (spec_FillOf_ok v7 v9 v11 v13 h14) (And.intro (rfl : (laws_FnExactFillOf_x1 a0 a1 a2 v13) = (laws_FnExactFillOf_x1 a0 a1 a2 v13)) (And.intro (And.intro (con_sw 1001 3 (con_sw 1000 2 (laws_toNetwork_ok a0 v7 h8))) (rfl : ([] : List Nat) = [])) (And.intro (And.intro (con_sw 1000 4 (laws_toBookingS_ok a1 v9 h10)) (rfl : ([] : List Nat) = [])) (And.intro (laws_toTrip_ok a2 v11 h12) (And.intro (spec_FillOf_ok v7 v9 v11 v13 h14) (And.intro (rfl : (laws_FnExactFillOf_x1 a0 a1 a2 v13) = (laws_FnExactFillOf_x1 a0 a1 a2 v13)) (And.intro (And.intro (con_sw 1001 6 (con_sw 1000 5 (laws_toNetwork_ok a0 v15 h16))) (rfl : ([] : List Nat) = [])) (And.intro (And.intro (con_sw 1000 8 (laws_toBookingS_ok a1 v17 h18)) (rfl : ([] : List Nat) = [])) (And.intro (laws_toTrip_ok a2 v19 h20) (And.intro (impl_FillOf_ok v15 v17 v19 v21 h22) (And.intro h23 (And.intro (And.intro (con_sw 1001 10 (con_sw 1000 9 (laws_toNetwork_ok a0 v24 h25))) (rfl : ([] : List Nat) = [])) (And.intro (laws_eqNetwork_ok v15 v24 v26 h27) (And.intro (rfl : (laws_FnExactFillOf_x2 a1 v17 v26) = (laws_FnExactFillOf_x2 a1 v17 v26)) (And.intro (And.intro (con_sw 1001 10 (con_sw 1000 9 (laws_toNetwork_ok a0 v24 h25))) (rfl : ([] : List Nat) = [])) (And.intro (laws_eqNetwork_ok v15 v24 v26 h27) (And.intro (rfl : (laws_FnExactFillOf_x2 a1 v17 v26) = (laws_FnExactFillOf_x2 a1 v17 v26)) (And.intro (And.intro (con_sw 1001 10 (con_sw 1000 9 (laws_toNetwork_ok a0 v24 h25))) (rfl : ([] : List Nat) = [])) (And.intro (laws_eqNetwork_ok v15 v24 v26 h27) (And.intro (rfl : (laws_FnExactFillOf_x2 a1 v17 v26) = (laws_FnExactFillOf_x2 a1 v17 v26)) (And.intro h28 (And.intro (And.intro (con_sw 1000 11 (laws_toBookingS_ok a1 v29 h30)) (rfl : ([] : List Nat) = [])) (And.intro (laws_eqBookingS_ok v17 v29 v31 h32) (And.intro h33 True.intro))))))))))))))))))))))))))))))))))))))))) (by kernel_rfl)
          · have hE : some true = some r := hM
            have hE := Option.some.inj hE
            subst hE
            exact pr R 9999 [.new 0, .new 1, .call false [] (.o (.c (.v (.int .i64 v1)))) [] [], .as 16 false, .call false [] (.o (.c (.v (.int .i64 v4)))) [] [], .as 21 false, .xo [[], [.call false [] (.o (.agg [.sl 2, .sl 3, .v (.int .i64 v7.Change)])) [] [(2, .row 89 6 (v7.Legs.map Leg.enc)), (3, .row 3 1 (v7.Off.map encI))]], [], [.call false [] (.o (.c (.sl 4))) [] [(4, .row 74 4 (v9.map Booking.enc))]], [], [.call false [] (.o (.c (.v (.agg (Trip.enc v11).toArray)))) [] []], [.call false [] (.o (.c (.v (.int .i64 v13)))) [] []], []] [.keep [1, 3, 5, 8] [0, 1]] (laws_FnExactFillOf_x1 a0 a1 a2 v13), .call false [] (.o (.agg [.sl 5, .sl 6, .v (.int .i64 v15.Change)])) [] [(5, .row 89 6 (v15.Legs.map Leg.enc)), (6, .row 3 1 (v15.Off.map encI))], .new 7, .call false [] (.o (.c (.sl 8))) [] [(8, .row 74 4 (v17.map Booking.enc))], .call false [] (.o (.c (.v (.agg (Trip.enc v19).toArray)))) [] [], .call false [] (.o (.c (.v (.int .i64 v21)))) [] [], .as 40 false, .xo [[], [], [.call false [] (.o (.agg [.sl 9, .sl 10, .v (.int .i64 v24.Change)])) [] [(9, .row 89 6 (v24.Legs.map Leg.enc)), (10, .row 3 1 (v24.Off.map encI))]], [.call false [] (.o (.c (.v (.bool v26)))) [] []], []] [.keep [1, 10, 45] [8]] (laws_FnExactFillOf_x2 a1 v17 v26), .as 45 false, .call false [] (.o (.c (.sl 11))) [] [(11, .row 74 4 (v29.map Booking.enc))], .call false [] (.o (.c (.v (.bool v31)))) [] [], .as 50 false] [] [] [] (And.intro (laws_szNetwork_ok a0 1048576 v1 h2) (And.intro h3 (And.intro (laws_szBookingS_ok a1 v1 v4 h5) (And.intro h6 (And.intro (And.intro (con_sw 1001 3 (con_sw 1000 2 (laws_toNetwork_ok a0 v7 h8))) (rfl : ([] : List Nat) = [])) (And.intro (And.intro (con_sw 1000 4 (laws_toBookingS_ok a1 v9 h10)) (rfl : ([] : List Nat) = [])) (And.intro (laws_toTrip_ok a2 v11 h12) (And.intro (spec_FillOf_ok v7 v9 v11 v13 h14) (And.intro (rfl : (laws_FnExactFillOf_x1 a0 a1 a2 v13) = (laws_FnExactFillOf_x1 a0 a1 a2 v13)) (And.intro (And.intro (con_sw 1000 4 (laws_toBookingS_ok a1 v9 h10)) (rfl : ([] : List Nat) = [])) (And.intro (laws_toTrip_ok a2 v11 h12) (And.intro (spec_FillOf_ok v7 v9 v11 v13 h14) (And.intro (rfl : (laws_FnExactFillOf_x1 a0 a1 a2 v13) = (laws_FnExactFillOf_x1 a0 a1 a2 v13)) (And.intro (And.intro (con_sw 1001 3 (con_sw 1000 2 (laws_toNetwork_ok a0 v7 h8))) (rfl : ([] : List Nat) = [])) (And.intro (And.intro (con_sw 1000 4 (laws_toBookingS_ok a1 v9 h10)) (rfl : ([] : List Nat) = [])) (And.intro (laws_toTrip_ok a2 v11 h12) (And.intro (spec_FillOf_ok v7 v9 v11 v13 h14) (And.intro (rfl : (laws_FnExactFillOf_x1 a0 a1 a2 v13) = (laws_FnExactFillOf_x1 a0 a1 a2 v13)) (And.intro (And.intro (con_sw 1001 3 (con_sw 1000 2 (laws_toNetwork_ok a0 v7 h8))) (rfl : ([] : List Nat) = [])) (And.intro (And.intro (con_sw 1000 4 (laws_toBookingS_ok a1 v9 h10)) (rfl : ([] : List Nat) = [])) (And.intro (laws_toTrip_ok a2 v11 h12) (And.intro (spec_FillOf_ok v7 v9 v11 v13 h14) (And.intro (rfl : (laws_FnExactFillOf_x1 a0 a1 a2 v13) = (laws_FnExactFillOf_x1 a0 a1 a2 v13)) (And.intro (And.intro (con_sw 1001 6 (con_sw 1000 5 (laws_toNetwork_ok a0 v15 h16))) (rfl : ([] : List Nat) = [])) (And.intro (And.intro (con_sw 1000 8 (laws_toBookingS_ok a1 v17 h18)) (rfl : ([] : List Nat) = [])) (And.intro (laws_toTrip_ok a2 v19 h20) (And.intro (impl_FillOf_ok v15 v17 v19 v21 h22) (And.intro h23 (And.intro (And.intro (con_sw 1001 10 (con_sw 1000 9 (laws_toNetwork_ok a0 v24 h25))) (rfl : ([] : List Nat) = [])) (And.intro (laws_eqNetwork_ok v15 v24 v26 h27) (And.intro (rfl : (laws_FnExactFillOf_x2 a1 v17 v26) = (laws_FnExactFillOf_x2 a1 v17 v26)) (And.intro (And.intro (con_sw 1001 10 (con_sw 1000 9 (laws_toNetwork_ok a0 v24 h25))) (rfl : ([] : List Nat) = [])) (And.intro (laws_eqNetwork_ok v15 v24 v26 h27) (And.intro (rfl : (laws_FnExactFillOf_x2 a1 v17 v26) = (laws_FnExactFillOf_x2 a1 v17 v26)) (And.intro (And.intro (con_sw 1001 10 (con_sw 1000 9 (laws_toNetwork_ok a0 v24 h25))) (rfl : ([] : List Nat) = [])) (And.intro (laws_eqNetwork_ok v15 v24 v26 h27) (And.intro (rfl : (laws_FnExactFillOf_x2 a1 v17 v26) = (laws_FnExactFillOf_x2 a1 v17 v26)) (And.intro h28 (And.intro (And.intro (con_sw 1000 11 (laws_toBookingS_ok a1 v29 h30)) (rfl : ([] : List Nat) = [])) (And.intro (laws_eqBookingS_ok v17 v29 v31 h32) (And.intro h33 True.intro))))))))))))))))))))))))))))))))))))))))) (by kernel_rfl)

-- loop.example/g03014/spec.RideAt
def spec_RideAt_L1_b (a0 : Network) (a1 : (List Booking)) (a2 : Int) (a3 : Int) (s4 : Int) : Option (Ctl Int Unit (Trip × Bool)) :=
  bif (decide (s4 < (a1.length : Int))) then
  (gi a1 s4).bind fun v6 =>
  bif (v6.Thing == a2) then
  (gi a1 s4).bind fun v9 =>
  (spec_l3Starts a0 v9.Trip).bind fun v11 =>
  bif (decide (v11 ≤ a3)) then
  (gi a1 s4).bind fun v14 =>
  (spec_l3Ends a0 v14.Trip).bind fun v16 =>
  bif (decide (a3 < v16)) then
  (gi a1 s4).bind fun v19 =>
  some (.ret (v19.Trip, true))
  else
  some (.next (w64 (s4 + 1)))
  else
  some (.next (w64 (s4 + 1)))
  else
  some (.next (w64 (s4 + 1)))
  else
  some (.brk ())
def spec_RideAt_L1 (a0 : Network) (a1 : (List Booking)) (a2 : Int) (a3 : Int) (s : Int) : Option (Ctl Int Unit (Trip × Bool)) := spec_RideAt_L1_b a0 a1 a2 a3 s
def spec_RideAt_L1_s (a0 : Network) (a1 : (List Booking)) (a2 : Int) (a3 : Int) (s4 : Int) : St := ⟨[(1, .o (.c (.rs 4 (a1.map Booking.enc)))), (2, .o (.c (.v (.int .i64 a2)))), (3, .o (.c (.v (.int .i64 a3)))), (4, .o (.c (.ptr 0 0))), (8, .o (.c (.ptr 1 0))), (10, .o (.c (.v (.int .i64 s4))))], [(0, .box 54 [.rs 6 (a0.Legs.map Leg.enc), .rs 1 (a0.Off.map encI), .v (.int .i64 a0.Change)]), (1, .box 31 [.v (.int .i64 0), .v (.int .i64 0)])]⟩
def spec_RideAt_L1_S (a0 : Network) (a1 : (List Booking)) (a2 : Int) (a3 : Int) (s : Int) : St := spec_RideAt_L1_s a0 a1 a2 a3 s
def spec_RideAt_L1_a : Option (Trip × Bool) :=
  some ((Trip.mk ((Trip.mk 0 0).Leg) ((Trip.mk 0 0).Day)), false)
def spec_RideAt_L1_k (x : (Unit) ⊕ (Trip × Bool)) : Option (Trip × Bool) := match x with
  | .inl t => spec_RideAt_L1_a
  | .inr y => some y
def spec_RideAt (a0 : Network) (a1 : (List Booking)) (a2 : Int) (a3 : Int) : Option (Trip × Bool) :=
  (spec_AreBookings a0 a1).bind fun v1 =>
  bif (!v1) then
  some ((Trip.mk ((Trip.mk 0 0).Leg) ((Trip.mk 0 0).Day)), false)
  else
  (loopM (spec_RideAt_L1 a0 a1 a2 a3) big 0).bind (spec_RideAt_L1_k)
theorem spec_RideAt_ok (a0 : Network) (a1 : (List Booking)) (a2 : Int) (a3 : Int) (r : Trip × Bool) (hM : spec_RideAt a0 a1 a2 a3 = some r) :
    Con Try.prog 49 [.agg [.rs 6 (a0.Legs.map Leg.enc), .rs 1 (a0.Off.map encI), .v (.int .i64 a0.Change)], .c (.rs 4 (a1.map Booking.enc)), .c (.v (.int .i64 a2)), .c (.v (.int .i64 a3))] [] (.tup [.c (.v (.agg (Trip.enc r.1).toArray)), .c (.v (.bool r.2))]) [] [] := by
  unfold spec_RideAt at hM
  refine cn (N := 57) (pids := []) Try_mixed Try.func49 (by kernel_rfl) (by kernel_rfl) (by kernel_rfl) rfl fun ρ g w R => ?_
  obtain ⟨v1, h2, hM⟩ := bind_some hM
  rcases cond_cases hM with ⟨h3, hM⟩ | ⟨h3, hM⟩
  · have hE : some ((Trip.mk ((Trip.mk 0 0).Leg) ((Trip.mk 0 0).Day)), false) = some r := hM
    have hE := Option.some.inj hE
    subst hE
    exact pr R 9999 [.new 0, .new 1, .call false [] (.o (.c (.v (.bool v1)))) [] [], .as 14 true] [] [] [] (And.intro (spec_AreBookings_ok a0 a1 v1 h2) (And.intro h3 True.intro)) (by kernel_rfl)
  · have K1 : ∀ (_ : Unit), spec_RideAt_L1_a = some r → Gr R [.code (cAt Try.f49 [1, 1, 1])] (⟨[(8, .o (.c (.ptr 1 0)))], [(1, .box 31 [.v (.int .i64 0), .v (.int .i64 0)])]⟩) := by
      intro _ hM
      unfold spec_RideAt_L1_a at hM
      have hE : some ((Trip.mk ((Trip.mk 0 0).Leg) ((Trip.mk 0 0).Day)), false) = some r := hM
      have hE := Option.some.inj hE
      subst hE
      exact pr R 9999 [] [] [] [] True.intro (by kernel_rfl)
    refine pc R 9999 [.new 0, .new 1, .call false [] (.o (.c (.v (.bool v1)))) [] [], .as 14 false] [.keep [1, 2, 3, 4, 8, 10] [0, 1]] (k' := [.code (.loop (cAt Try.f49 [1, 1, 0, 1, 0, 0])), .blk 0, .code (cAt Try.f49 [1, 1, 1])]) (S' := spec_RideAt_L1_S a0 a1 a2 a3 0) (And.intro (spec_AreBookings_ok a0 a1 v1 h2) (And.intro h3 True.intro)) (by kernel_rfl) ?_
    refine lq (spec_RideAt_L1_S a0 a1 a2 a3) (body := spec_RideAt_L1 a0 a1 a2 a3) (k := spec_RideAt_L1_k) hM fun m1 s c1 hM hK1 => ?_
    obtain ⟨s4, hs⟩ : ∃ z, z = s := ⟨_, rfl⟩
    subst hs
    have hM : spec_RideAt_L1_b a0 a1 a2 a3 s4 = some c1 := hM
    unfold spec_RideAt_L1_b at hM
    rcases cond_cases hM with ⟨h5, hM⟩ | ⟨h5, hM⟩
    · obtain ⟨v6, h7, hM⟩ := bind_some hM
      rcases cond_cases hM with ⟨h8, hM⟩ | ⟨h8, hM⟩
      · obtain ⟨v9, h10, hM⟩ := bind_some hM
        obtain ⟨v11, h12, hM⟩ := bind_some hM
        rcases cond_cases hM with ⟨h13, hM⟩ | ⟨h13, hM⟩
        · obtain ⟨v14, h15, hM⟩ := bind_some hM
          obtain ⟨v16, h17, hM⟩ := bind_some hM
          rcases cond_cases hM with ⟨h18, hM⟩ | ⟨h18, hM⟩
          · obtain ⟨v19, h20, hM⟩ := bind_some hM
            have hE : some (Ctl.ret (v19.Trip, true)) = some c1 := hM
            have hE := Option.some.inj hE
            subst hE
            have hE : some (v19.Trip, true) = some r := hK1
            have hE := Option.some.inj hE
            subst hE
            exact pr R 9999 [.ln (a1.length), .as 19 true, .ix (Booking.enc v6), .as 29 true, .ix (Booking.enc v9), .call false [] (.o (.c (.v (.int .i64 v11)))) [] [], .as 40 true, .ix (Booking.enc v14), .call false [] (.o (.c (.v (.int .i64 v16)))) [] [], .as 50 true, .ix (Booking.enc v19)] [] [] [] (And.intro (lenm Booking.enc a1) (And.intro h5 (And.intro (gi_map Booking.enc h7) (And.intro h8 (And.intro (gi_map Booking.enc h10) (And.intro (spec_l3Starts_ok a0 v9.Trip v11 h12) (And.intro h13 (And.intro (gi_map Booking.enc h15) (And.intro (spec_l3Ends_ok a0 v14.Trip v16 h17) (And.intro h18 (And.intro (gi_map Booking.enc h20) True.intro))))))))))) (by kernel_rfl)
          · have hE : some (Ctl.next (w64 (s4 + 1))) = some c1 := hM
            have hE := Option.some.inj hE
            subst hE
            exact pc R 9999 [.ln (a1.length), .as 19 true, .ix (Booking.enc v6), .as 29 true, .ix (Booking.enc v9), .call false [] (.o (.c (.v (.int .i64 v11)))) [] [], .as 40 true, .ix (Booking.enc v14), .call false [] (.o (.c (.v (.int .i64 v16)))) [] [], .as 50 false] [.keep [1, 2, 3, 4, 8, 10] [0, 1]] (And.intro (lenm Booking.enc a1) (And.intro h5 (And.intro (gi_map Booking.enc h7) (And.intro h8 (And.intro (gi_map Booking.enc h10) (And.intro (spec_l3Starts_ok a0 v9.Trip v11 h12) (And.intro h13 (And.intro (gi_map Booking.enc h15) (And.intro (spec_l3Ends_ok a0 v14.Trip v16 h17) (And.intro h18 True.intro)))))))))) (by kernel_rfl) (li (Sf := spec_RideAt_L1_S a0 a1 a2 a3) (M := Mk (spec_RideAt_L1 a0 a1 a2 a3) (spec_RideAt_L1_k) r) (k := [.blk 0, .code (cAt Try.f49 [1, 1, 1])]) (Nat.lt_succ_self m1) hK1)
        · have hE : some (Ctl.next (w64 (s4 + 1))) = some c1 := hM
          have hE := Option.some.inj hE
          subst hE
          exact pc R 9999 [.ln (a1.length), .as 19 true, .ix (Booking.enc v6), .as 29 true, .ix (Booking.enc v9), .call false [] (.o (.c (.v (.int .i64 v11)))) [] [], .as 40 false] [.keep [1, 2, 3, 4, 8, 10] [0, 1]] (And.intro (lenm Booking.enc a1) (And.intro h5 (And.intro (gi_map Booking.enc h7) (And.intro h8 (And.intro (gi_map Booking.enc h10) (And.intro (spec_l3Starts_ok a0 v9.Trip v11 h12) (And.intro h13 True.intro))))))) (by kernel_rfl) (li (Sf := spec_RideAt_L1_S a0 a1 a2 a3) (M := Mk (spec_RideAt_L1 a0 a1 a2 a3) (spec_RideAt_L1_k) r) (k := [.blk 0, .code (cAt Try.f49 [1, 1, 1])]) (Nat.lt_succ_self m1) hK1)
      · have hE : some (Ctl.next (w64 (s4 + 1))) = some c1 := hM
        have hE := Option.some.inj hE
        subst hE
        exact pc R 9999 [.ln (a1.length), .as 19 true, .ix (Booking.enc v6), .as 29 false] [.keep [1, 2, 3, 4, 8, 10] [0, 1]] (And.intro (lenm Booking.enc a1) (And.intro h5 (And.intro (gi_map Booking.enc h7) (And.intro h8 True.intro)))) (by kernel_rfl) (li (Sf := spec_RideAt_L1_S a0 a1 a2 a3) (M := Mk (spec_RideAt_L1 a0 a1 a2 a3) (spec_RideAt_L1_k) r) (k := [.blk 0, .code (cAt Try.f49 [1, 1, 1])]) (Nat.lt_succ_self m1) hK1)
    · have hE : some (Ctl.brk ()) = some c1 := hM
      have hE := Option.some.inj hE
      subst hE
      exact pc R 5 [.ln (a1.length), .as 19 false] [.keep [8] [1]] (And.intro (lenm Booking.enc a1) (And.intro h5 True.intro)) (by kernel_rfl) (K1 () hK1)

-- loop.example/g03014/impl.RideAt
def impl_RideAt_L1_b (a0 : Network) (a1 : (List Booking)) (a2 : Int) (a3 : Int) (s4 : Int) : Option (Ctl Int Unit (Trip × Bool)) :=
  bif (decide (s4 < (a1.length : Int))) then
  (gi a1 s4).bind fun v6 =>
  bif (v6.Thing == a2) then
  (impl_starts a0 v6.Trip).bind fun v9 =>
  bif (decide (v9 ≤ a3)) then
  (impl_ends a0 v6.Trip).bind fun v12 =>
  bif (decide (a3 < v12)) then
  some (.ret (v6.Trip, true))
  else
  some (.next (w64 (s4 + 1)))
  else
  some (.next (w64 (s4 + 1)))
  else
  some (.next (w64 (s4 + 1)))
  else
  some (.brk ())
def impl_RideAt_L1 (a0 : Network) (a1 : (List Booking)) (a2 : Int) (a3 : Int) (s : Int) : Option (Ctl Int Unit (Trip × Bool)) := impl_RideAt_L1_b a0 a1 a2 a3 s
def impl_RideAt_L1_s (a0 : Network) (a1 : (List Booking)) (a2 : Int) (a3 : Int) (s4 : Int) : St := ⟨[(2, .o (.c (.v (.int .i64 a2)))), (3, .o (.c (.v (.int .i64 a3)))), (4, .o (.c (.ptr 0 0))), (8, .o (.c (.ptr 1 0))), (17, .o (.c (.rs 4 (a1.map Booking.enc)))), (18, .o (.c (.v (.int .i64 (a1.length : Int))))), (19, .o (.c (.v (.int .i64 s4))))], [(0, .box 54 [.rs 6 (a0.Legs.map Leg.enc), .rs 1 (a0.Off.map encI), .v (.int .i64 a0.Change)]), (1, .box 31 [.v (.int .i64 0), .v (.int .i64 0)])]⟩
def impl_RideAt_L1_S (a0 : Network) (a1 : (List Booking)) (a2 : Int) (a3 : Int) (s : Int) : St := impl_RideAt_L1_s a0 a1 a2 a3 s
def impl_RideAt_L1_a : Option (Trip × Bool) :=
  some ((Trip.mk ((Trip.mk 0 0).Leg) ((Trip.mk 0 0).Day)), false)
def impl_RideAt_L1_k (x : (Unit) ⊕ (Trip × Bool)) : Option (Trip × Bool) := match x with
  | .inl t => impl_RideAt_L1_a
  | .inr y => some y
def impl_RideAt (a0 : Network) (a1 : (List Booking)) (a2 : Int) (a3 : Int) : Option (Trip × Bool) :=
  (impl_AreBookings a0 a1).bind fun v1 =>
  bif (!v1) then
  some ((Trip.mk ((Trip.mk 0 0).Leg) ((Trip.mk 0 0).Day)), false)
  else
  (loopM (impl_RideAt_L1 a0 a1 a2 a3) big 0).bind (impl_RideAt_L1_k)
theorem impl_RideAt_ok (a0 : Network) (a1 : (List Booking)) (a2 : Int) (a3 : Int) (r : Trip × Bool) (hM : impl_RideAt a0 a1 a2 a3 = some r) :
    Con Try.prog 50 [.agg [.rs 6 (a0.Legs.map Leg.enc), .rs 1 (a0.Off.map encI), .v (.int .i64 a0.Change)], .c (.rs 4 (a1.map Booking.enc)), .c (.v (.int .i64 a2)), .c (.v (.int .i64 a3))] [] (.tup [.c (.v (.agg (Trip.enc r.1).toArray)), .c (.v (.bool r.2))]) [] [] := by
  unfold impl_RideAt at hM
  refine cn (N := 47) (pids := []) Try_mixed Try.func50 (by kernel_rfl) (by kernel_rfl) (by kernel_rfl) rfl fun ρ g w R => ?_
  obtain ⟨v1, h2, hM⟩ := bind_some hM
  rcases cond_cases hM with ⟨h3, hM⟩ | ⟨h3, hM⟩
  · have hE : some ((Trip.mk ((Trip.mk 0 0).Leg) ((Trip.mk 0 0).Day)), false) = some r := hM
    have hE := Option.some.inj hE
    subst hE
    exact pr R 9999 [.new 0, .new 1, .call false [] (.o (.c (.v (.bool v1)))) [] [], .as 15 true] [] [] [] (And.intro (impl_AreBookings_ok a0 a1 v1 h2) (And.intro h3 True.intro)) (by kernel_rfl)
  · have K1 : ∀ (_ : Unit), impl_RideAt_L1_a = some r → Gr R [.code (cAt Try.f50 [1, 1, 1])] (⟨[(8, .o (.c (.ptr 1 0)))], [(1, .box 31 [.v (.int .i64 0), .v (.int .i64 0)])]⟩) := by
      intro _ hM
      unfold impl_RideAt_L1_a at hM
      have hE : some ((Trip.mk ((Trip.mk 0 0).Leg) ((Trip.mk 0 0).Day)), false) = some r := hM
      have hE := Option.some.inj hE
      subst hE
      exact pr R 9999 [] [] [] [] True.intro (by kernel_rfl)
    refine pc R 9999 [.new 0, .new 1, .call false [] (.o (.c (.v (.bool v1)))) [] [], .as 15 false, .ln (a1.length)] [.keep [2, 3, 4, 8, 17, 18, 19] [0, 1]] (k' := [.code (.loop (cAt Try.f50 [1, 1, 0, 1, 0, 0])), .blk 0, .code (cAt Try.f50 [1, 1, 1])]) (S' := impl_RideAt_L1_S a0 a1 a2 a3 0) (And.intro (impl_AreBookings_ok a0 a1 v1 h2) (And.intro h3 (And.intro (lenm Booking.enc a1) True.intro))) (by kernel_rfl) ?_
    refine lq (impl_RideAt_L1_S a0 a1 a2 a3) (body := impl_RideAt_L1 a0 a1 a2 a3) (k := impl_RideAt_L1_k) hM fun m1 s c1 hM hK1 => ?_
    obtain ⟨s4, hs⟩ : ∃ z, z = s := ⟨_, rfl⟩
    subst hs
    have hM : impl_RideAt_L1_b a0 a1 a2 a3 s4 = some c1 := hM
    unfold impl_RideAt_L1_b at hM
    rcases cond_cases hM with ⟨h5, hM⟩ | ⟨h5, hM⟩
    · obtain ⟨v6, h7, hM⟩ := bind_some hM
      rcases cond_cases hM with ⟨h8, hM⟩ | ⟨h8, hM⟩
      · obtain ⟨v9, h10, hM⟩ := bind_some hM
        rcases cond_cases hM with ⟨h11, hM⟩ | ⟨h11, hM⟩
        · obtain ⟨v12, h13, hM⟩ := bind_some hM
          rcases cond_cases hM with ⟨h14, hM⟩ | ⟨h14, hM⟩
          · have hE : some (Ctl.ret (v6.Trip, true)) = some c1 := hM
            have hE := Option.some.inj hE
            subst hE
            have hE : some (v6.Trip, true) = some r := hK1
            have hE := Option.some.inj hE
            subst hE
            exact pr R 9999 [.as 20 true, .ix (Booking.enc v6), .new 2, .as 27 true, .call false [] (.o (.c (.v (.int .i64 v9)))) [] [], .as 35 true, .call false [] (.o (.c (.v (.int .i64 v12)))) [] [], .as 42 true] [] [] [] (And.intro h5 (And.intro (gi_map Booking.enc h7) (And.intro h8 (And.intro (impl_starts_ok a0 v6.Trip v9 h10) (And.intro h11 (And.intro (impl_ends_ok a0 v6.Trip v12 h13) (And.intro h14 True.intro))))))) (by kernel_rfl)
          · have hE : some (Ctl.next (w64 (s4 + 1))) = some c1 := hM
            have hE := Option.some.inj hE
            subst hE
            exact pc R 9999 [.as 20 true, .ix (Booking.enc v6), .new 2, .as 27 true, .call false [] (.o (.c (.v (.int .i64 v9)))) [] [], .as 35 true, .call false [] (.o (.c (.v (.int .i64 v12)))) [] [], .as 42 false] [.keep [2, 3, 4, 8, 17, 18, 19] [0, 1]] (And.intro h5 (And.intro (gi_map Booking.enc h7) (And.intro h8 (And.intro (impl_starts_ok a0 v6.Trip v9 h10) (And.intro h11 (And.intro (impl_ends_ok a0 v6.Trip v12 h13) (And.intro h14 True.intro))))))) (by kernel_rfl) (li (Sf := impl_RideAt_L1_S a0 a1 a2 a3) (M := Mk (impl_RideAt_L1 a0 a1 a2 a3) (impl_RideAt_L1_k) r) (k := [.blk 0, .code (cAt Try.f50 [1, 1, 1])]) (Nat.lt_succ_self m1) hK1)
        · have hE : some (Ctl.next (w64 (s4 + 1))) = some c1 := hM
          have hE := Option.some.inj hE
          subst hE
          exact pc R 9999 [.as 20 true, .ix (Booking.enc v6), .new 2, .as 27 true, .call false [] (.o (.c (.v (.int .i64 v9)))) [] [], .as 35 false] [.keep [2, 3, 4, 8, 17, 18, 19] [0, 1]] (And.intro h5 (And.intro (gi_map Booking.enc h7) (And.intro h8 (And.intro (impl_starts_ok a0 v6.Trip v9 h10) (And.intro h11 True.intro))))) (by kernel_rfl) (li (Sf := impl_RideAt_L1_S a0 a1 a2 a3) (M := Mk (impl_RideAt_L1 a0 a1 a2 a3) (impl_RideAt_L1_k) r) (k := [.blk 0, .code (cAt Try.f50 [1, 1, 1])]) (Nat.lt_succ_self m1) hK1)
      · have hE : some (Ctl.next (w64 (s4 + 1))) = some c1 := hM
        have hE := Option.some.inj hE
        subst hE
        exact pc R 9999 [.as 20 true, .ix (Booking.enc v6), .new 2, .as 27 false] [.keep [2, 3, 4, 8, 17, 18, 19] [0, 1]] (And.intro h5 (And.intro (gi_map Booking.enc h7) (And.intro h8 True.intro))) (by kernel_rfl) (li (Sf := impl_RideAt_L1_S a0 a1 a2 a3) (M := Mk (impl_RideAt_L1 a0 a1 a2 a3) (impl_RideAt_L1_k) r) (k := [.blk 0, .code (cAt Try.f50 [1, 1, 1])]) (Nat.lt_succ_self m1) hK1)
    · have hE : some (Ctl.brk ()) = some c1 := hM
      have hE := Option.some.inj hE
      subst hE
      exact pc R 5 [.as 20 false] [.keep [8] [1]] (And.intro h5 True.intro) (by kernel_rfl) (K1 () hK1)

-- loop.example/g03014/laws.FnExactRideAt
def laws_FnExactRideAt_x1 (a1 : (List Booking)) (v15 : (List Booking)) (v25 : Bool) : St := ⟨[(1, .o (.c (.rs 4 (a1.map Booking.enc)))), (13, .o (.c (.sl 8))), (61, .o (.c (.v (.bool (!v25)))))], [(8, .row 74 4 (v15.map Booking.enc))]⟩
def laws_FnExactRideAt (a0 : Network) (a1 : (List Booking)) (a2 : Int) (a3 : Int) : Option Bool :=
  (laws_szNetwork a0 1048576).bind fun v1 =>
  bif (decide (v1 < 0)) then
  some true
  else
  (laws_szBookingS a1 v1).bind fun v4 =>
  bif (decide (v4 < 0)) then
  some true
  else
  (laws_toNetwork a0).bind fun v7 =>
  (laws_toBookingS a1).bind fun v9 =>
  (spec_RideAt v7 v9 a2 a3).bind fun v11 =>
  (laws_toNetwork a0).bind fun v13 =>
  (laws_toBookingS a1).bind fun v15 =>
  (impl_RideAt v13 v15 a2 a3).bind fun v17 =>
  (laws_eqTrip v17.1 v11.1).bind fun v19 =>
  bif (!v19) then
  some false
  else
  bif (!(v17.2 == v11.2)) then
  some false
  else
  (laws_toNetwork a0).bind fun v23 =>
  (laws_eqNetwork v13 v23).bind fun v25 =>
  bif (!v25) then
  some false
  else
  (laws_toBookingS a1).bind fun v28 =>
  (laws_eqBookingS v15 v28).bind fun v30 =>
  bif (!v30) then
  some false
  else
  some true
theorem laws_FnExactRideAt_ok (a0 : Network) (a1 : (List Booking)) (a2 : Int) (a3 : Int) (r : Bool) (hM : laws_FnExactRideAt a0 a1 a2 a3 = some r) :
    Con Try.prog 12 [.agg [.rs 6 (a0.Legs.map Leg.enc), .rs 1 (a0.Off.map encI), .v (.int .i64 a0.Change)], .c (.rs 4 (a1.map Booking.enc)), .c (.v (.int .i64 a2)), .c (.v (.int .i64 a3))] [] (.o (.c (.v (.bool r)))) [] [] := by
  unfold laws_FnExactRideAt at hM
  refine cn (N := 67) (pids := []) Try_mixed Try.func12 (by kernel_rfl) (by kernel_rfl) (by kernel_rfl) rfl fun ρ g w R => ?_
  obtain ⟨v1, h2, hM⟩ := bind_some hM
  rcases cond_cases hM with ⟨h3, hM⟩ | ⟨h3, hM⟩
  · have hE : some true = some r := hM
    have hE := Option.some.inj hE
    subst hE
    exact pr R 9999 [.new 0, .call false [] (.o (.c (.v (.int .i64 v1)))) [] [], .as 20 true] [] [] [] (And.intro (laws_szNetwork_ok a0 1048576 v1 h2) (And.intro h3 True.intro)) (by kernel_rfl)
  · obtain ⟨v4, h5, hM⟩ := bind_some hM
    rcases cond_cases hM with ⟨h6, hM⟩ | ⟨h6, hM⟩
    · have hE : some true = some r := hM
      have hE := Option.some.inj hE
      subst hE
      exact pr R 9999 [.new 0, .call false [] (.o (.c (.v (.int .i64 v1)))) [] [], .as 20 false, .call false [] (.o (.c (.v (.int .i64 v4)))) [] [], .as 25 true] [] [] [] (And.intro (laws_szNetwork_ok a0 1048576 v1 h2) (And.intro h3 (And.intro (laws_szBookingS_ok a1 v1 v4 h5) (And.intro h6 True.intro)))) (by kernel_rfl)
    · obtain ⟨v7, h8, hM⟩ := bind_some hM
      obtain ⟨v9, h10, hM⟩ := bind_some hM
      obtain ⟨v11, h12, hM⟩ := bind_some hM
      obtain ⟨v13, h14, hM⟩ := bind_some hM
      obtain ⟨v15, h16, hM⟩ := bind_some hM
      obtain ⟨v17, h18, hM⟩ := bind_some hM
      obtain ⟨v19, h20, hM⟩ := bind_some hM
      rcases cond_cases hM with ⟨h21, hM⟩ | ⟨h21, hM⟩
      · have hE : some false = some r := hM
        have hE := Option.some.inj hE
        subst hE
        exact pr R 9999 [.new 0, .call false [] (.o (.c (.v (.int .i64 v1)))) [] [], .as 20 false, .call false [] (.o (.c (.v (.int .i64 v4)))) [] [], .as 25 false, .call false [] (.o (.agg [.sl 1, .sl 2, .v (.int .i64 v7.Change)])) [] [(1, .row 89 6 (v7.Legs.map Leg.enc)), (2, .row 3 1 (v7.Off.map encI))], .call false [] (.o (.c (.sl 3))) [] [(3, .row 74 4 (v9.map Booking.enc))], .call false [] (.tup [.c (.v (.agg (Trip.enc v11.1).toArray)), .c (.v (.bool v11.2))]) [] [], .new 4, .call false [] (.o (.agg [.sl 5, .sl 6, .v (.int .i64 v13.Change)])) [] [(5, .row 89 6 (v13.Legs.map Leg.enc)), (6, .row 3 1 (v13.Off.map encI))], .new 7, .call false [] (.o (.c (.sl 8))) [] [(8, .row 74 4 (v15.map Booking.enc))], .call false [] (.tup [.c (.v (.agg (Trip.enc v17.1).toArray)), .c (.v (.bool v17.2))]) [] [], .new 9, .call false [] (.o (.c (.v (.bool v19)))) [] [], .as 52 true] [] [] [] (And.intro (laws_szNetwork_ok a0 1048576 v1 h2) (And.intro h3 (And.intro (laws_szBookingS_ok a1 v1 v4 h5) (And.intro h6 (And.intro (And.intro (con_sw 1001 2 (con_sw 1000 1 (laws_toNetwork_ok a0 v7 h8))) (rfl : ([] : List Nat) = [])) (And.intro (And.intro (con_sw 1000 3 (laws_toBookingS_ok a1 v9 h10)) (rfl : ([] : List Nat) = [])) (And.intro (spec_RideAt_ok v7 v9 a2 a3 v11 h12) (And.intro (And.intro (con_sw 1001 6 (con_sw 1000 5 (laws_toNetwork_ok a0 v13 h14))) (rfl : ([] : List Nat) = [])) (And.intro (And.intro (con_sw 1000 8 (laws_toBookingS_ok a1 v15 h16)) (rfl : ([] : List Nat) = [])) (And.intro (impl_RideAt_ok v13 v15 a2 a3 v17 h18) (And.intro (laws_eqTrip_ok v17.1 v11.1 v19 h20) (And.intro h21 True.intro)))))))))))) (by kernel_rfl)
      · rcases cond_cases hM with ⟨h22, hM⟩ | ⟨h22, hM⟩
        · have hE : some false = some r := hM
          have hE := Option.some.inj hE
          subst hE
          exact pr R 9999 [.new 0, .call false [] (.o (.c (.v (.int .i64 v1)))) [] [], .as 20 false, .call false [] (.o (.c (.v (.int .i64 v4)))) [] [], .as 25 false, .call false [] (.o (.agg [.sl 1, .sl 2, .v (.int .i64 v7.Change)])) [] [(1, .row 89 6 (v7.Legs.map Leg.enc)), (2, .row 3 1 (v7.Off.map encI))], .call false [] (.o (.c (.sl 3))) [] [(3, .row 74 4 (v9.map Booking.enc))], .call false [] (.tup [.c (.v (.agg (Trip.enc v11.1).toArray)), .c (.v (.bool v11.2))]) [] [], .new 4, .call false [] (.o (.agg [.sl 5, .sl 6, .v (.int .i64 v13.Change)])) [] [(5, .row 89 6 (v13.Legs.map Leg.enc)), (6, .row 3 1 (v13.Off.map encI))], .new 7, .call false [] (.o (.c (.sl 8))) [] [(8, .row 74 4 (v15.map Booking.enc))], .call false [] (.tup [.c (.v (.agg (Trip.enc v17.1).toArray)), .c (.v (.bool v17.2))]) [] [], .new 9, .call false [] (.o (.c (.v (.bool v19)))) [] [], .as 52 false, .as 56 true] [] [] [] (And.intro (laws_szNetwork_ok a0 1048576 v1 h2) (And.intro h3 (And.intro (laws_szBookingS_ok a1 v1 v4 h5) (And.intro h6 (And.intro (And.intro (con_sw 1001 2 (con_sw 1000 1 (laws_toNetwork_ok a0 v7 h8))) (rfl : ([] : List Nat) = [])) (And.intro (And.intro (con_sw 1000 3 (laws_toBookingS_ok a1 v9 h10)) (rfl : ([] : List Nat) = [])) (And.intro (spec_RideAt_ok v7 v9 a2 a3 v11 h12) (And.intro (And.intro (con_sw 1001 6 (con_sw 1000 5 (laws_toNetwork_ok a0 v13 h14))) (rfl : ([] : List Nat) = [])) (And.intro (And.intro (con_sw 1000 8 (laws_toBookingS_ok a1 v15 h16)) (rfl : ([] : List Nat) = [])) (And.intro (impl_RideAt_ok v13 v15 a2 a3 v17 h18) (And.intro (laws_eqTrip_ok v17.1 v11.1 v19 h20) (And.intro h21 (And.intro h22 True.intro))))))))))))) (by kernel_rfl)
        · obtain ⟨v23, h24, hM⟩ := bind_some hM
          obtain ⟨v25, h26, hM⟩ := bind_some hM
          rcases cond_cases hM with ⟨h27, hM⟩ | ⟨h27, hM⟩
          · have hE : some false = some r := hM
            have hE := Option.some.inj hE
            subst hE
            exact pr R 9999 [.new 0, .call false [] (.o (.c (.v (.int .i64 v1)))) [] [], .as 20 false, .call false [] (.o (.c (.v (.int .i64 v4)))) [] [], .as 25 false, .call false [] (.o (.agg [.sl 1, .sl 2, .v (.int .i64 v7.Change)])) [] [(1, .row 89 6 (v7.Legs.map Leg.enc)), (2, .row 3 1 (v7.Off.map encI))], .call false [] (.o (.c (.sl 3))) [] [(3, .row 74 4 (v9.map Booking.enc))], .call false [] (.tup [.c (.v (.agg (Trip.enc v11.1).toArray)), .c (.v (.bool v11.2))]) [] [], .new 4, .call false [] (.o (.agg [.sl 5, .sl 6, .v (.int .i64 v13.Change)])) [] [(5, .row 89 6 (v13.Legs.map Leg.enc)), (6, .row 3 1 (v13.Off.map encI))], .new 7, .call false [] (.o (.c (.sl 8))) [] [(8, .row 74 4 (v15.map Booking.enc))], .call false [] (.tup [.c (.v (.agg (Trip.enc v17.1).toArray)), .c (.v (.bool v17.2))]) [] [], .new 9, .call false [] (.o (.c (.v (.bool v19)))) [] [], .as 52 false, .as 56 false, .xo [[], [], [.call false [] (.o (.agg [.sl 10, .sl 11, .v (.int .i64 v23.Change)])) [] [(10, .row 89 6 (v23.Legs.map Leg.enc)), (11, .row 3 1 (v23.Off.map encI))]], [.call false [] (.o (.c (.v (.bool v25)))) [] []], []] [.keep [1, 13, 61] [8]] (laws_FnExactRideAt_x1 a1 v15 v25), .as 61 true] [] [] [] (And.intro (laws_szNetwork_ok a0 1048576 v1 h2) (And.intro h3 (And.intro (laws_szBookingS_ok a1 v1 v4 h5) (And.intro h6 (And.intro (And.intro (con_sw 1001 2 (con_sw 1000 1 (laws_toNetwork_ok a0 v7 h8))) (rfl : ([] : List Nat) = [])) (And.intro (And.intro (con_sw 1000 3 (laws_toBookingS_ok a1 v9 h10)) (rfl : ([] : List Nat) = [])) (And.intro (spec_RideAt_ok v7 v9 a2 a3 v11 h12) (And.intro (And.intro (con_sw 1001 6 (con_sw 1000 5 (laws_toNetwork_ok a0 v13 h14))) (rfl : ([] : List Nat) = [])) (And.intro (And.intro (con_sw 1000 8 (laws_toBookingS_ok a1 v15 h16)) (rfl : ([] : List Nat) = [])) (And.intro (impl_RideAt_ok v13 v15 a2 a3 v17 h18) (And.intro (laws_eqTrip_ok v17.1 v11.1 v19 h20) (And.intro h21 (And.intro h22 (And.intro (And.intro (con_sw 1001 11 (con_sw 1000 10 (laws_toNetwork_ok a0 v23 h24))) (rfl : ([] : List Nat) = [])) (And.intro (laws_eqNetwork_ok v13 v23 v25 h26) (And.intro (rfl : (laws_FnExactRideAt_x1 a1 v15 v25) = (laws_FnExactRideAt_x1 a1 v15 v25)) (And.intro (And.intro (con_sw 1001 11 (con_sw 1000 10 (laws_toNetwork_ok a0 v23 h24))) (rfl : ([] : List Nat) = [])) (And.intro (laws_eqNetwork_ok v13 v23 v25 h26) (And.intro (rfl : (laws_FnExactRideAt_x1 a1 v15 v25) = (laws_FnExactRideAt_x1 a1 v15 v25)) (And.intro (And.intro (con_sw 1001 11 (con_sw 1000 10 (laws_toNetwork_ok a0 v23 h24))) (rfl : ([] : List Nat) = [])) (And.intro (laws_eqNetwork_ok v13 v23 v25 h26) (And.intro (rfl : (laws_FnExactRideAt_x1 a1 v15 v25) = (laws_FnExactRideAt_x1 a1 v15 v25)) (And.intro h27 True.intro))))))))))))))))))))))) (by kernel_rfl)
          · obtain ⟨v28, h29, hM⟩ := bind_some hM
            obtain ⟨v30, h31, hM⟩ := bind_some hM
            rcases cond_cases hM with ⟨h32, hM⟩ | ⟨h32, hM⟩
            · have hE : some false = some r := hM
              have hE := Option.some.inj hE
              subst hE
              exact pr R 9999 [.new 0, .call false [] (.o (.c (.v (.int .i64 v1)))) [] [], .as 20 false, .call false [] (.o (.c (.v (.int .i64 v4)))) [] [], .as 25 false, .call false [] (.o (.agg [.sl 1, .sl 2, .v (.int .i64 v7.Change)])) [] [(1, .row 89 6 (v7.Legs.map Leg.enc)), (2, .row 3 1 (v7.Off.map encI))], .call false [] (.o (.c (.sl 3))) [] [(3, .row 74 4 (v9.map Booking.enc))], .call false [] (.tup [.c (.v (.agg (Trip.enc v11.1).toArray)), .c (.v (.bool v11.2))]) [] [], .new 4, .call false [] (.o (.agg [.sl 5, .sl 6, .v (.int .i64 v13.Change)])) [] [(5, .row 89 6 (v13.Legs.map Leg.enc)), (6, .row 3 1 (v13.Off.map encI))], .new 7, .call false [] (.o (.c (.sl 8))) [] [(8, .row 74 4 (v15.map Booking.enc))], .call false [] (.tup [.c (.v (.agg (Trip.enc v17.1).toArray)), .c (.v (.bool v17.2))]) [] [], .new 9, .call false [] (.o (.c (.v (.bool v19)))) [] [], .as 52 false, .as 56 false, .xo [[], [], [.call false [] (.o (.agg [.sl 10, .sl 11, .v (.int .i64 v23.Change)])) [] [(10, .row 89 6 (v23.Legs.map Leg.enc)), (11, .row 3 1 (v23.Off.map encI))]], [.call false [] (.o (.c (.v (.bool v25)))) [] []], []] [.keep [1, 13, 61] [8]] (laws_FnExactRideAt_x1 a1 v15 v25), .as 61 false, .call false [] (.o (.c (.sl 12))) [] [(12, .row 74 4 (v28.map Booking.enc))], .call false [] (.o (.c (.v (.bool v30)))) [] [], .as 66 true] [] [] [] (And.intro (laws_szNetwork_ok a0 1048576 v1 h2) (And.intro h3 (And.intro (laws_szBookingS_ok a1 v1 v4 h5) (And.intro h6 (And.intro (And.intro (con_sw 1001 2 (con_sw 1000 1 (laws_toNetwork_ok a0 v7 h8))) (rfl : ([] : List Nat) = [])) (And.intro (And.intro (con_sw 1000 3 (laws_toBookingS_ok a1 v9 h10)) (rfl : ([] : List Nat) = [])) (And.intro (spec_RideAt_ok v7 v9 a2 a3 v11 h12) (And.intro (And.intro (con_sw 1001 6 (con_sw 1000 5 (laws_toNetwork_ok a0 v13 h14))) (rfl : ([] : List Nat) = [])) (And.intro (And.intro (con_sw 1000 8 (laws_toBookingS_ok a1 v15 h16)) (rfl : ([] : List Nat) = [])) (And.intro (impl_RideAt_ok v13 v15 a2 a3 v17 h18) (And.intro (laws_eqTrip_ok v17.1 v11.1 v19 h20) (And.intro h21 (And.intro h22 (And.intro (And.intro (con_sw 1001 11 (con_sw 1000 10 (laws_toNetwork_ok a0 v23 h24))) (rfl : ([] : List Nat) = [])) (And.intro (laws_eqNetwork_ok v13 v23 v25 h26) (And.intro (rfl : (laws_FnExactRideAt_x1 a1 v15 v25) = (laws_FnExactRideAt_x1 a1 v15 v25)) (And.intro (And.intro (con_sw 1001 11 (con_sw 1000 10 (laws_toNetwork_ok a0 v23 h24))) (rfl : ([] : List Nat) = [])) (And.intro (laws_eqNetwork_ok v13 v23 v25 h26) (And.intro (rfl : (laws_FnExactRideAt_x1 a1 v15 v25) = (laws_FnExactRideAt_x1 a1 v15 v25)) (And.intro (And.intro (con_sw 1001 11 (con_sw 1000 10 (laws_toNetwork_ok a0 v23 h24))) (rfl : ([] : List Nat) = [])) (And.intro (laws_eqNetwork_ok v13 v23 v25 h26) (And.intro (rfl : (laws_FnExactRideAt_x1 a1 v15 v25) = (laws_FnExactRideAt_x1 a1 v15 v25)) (And.intro h27 (And.intro (And.intro (con_sw 1000 12 (laws_toBookingS_ok a1 v28 h29)) (rfl : ([] : List Nat) = [])) (And.intro (laws_eqBookingS_ok v15 v28 v30 h31) (And.intro h32 True.intro)))))))))))))))))))))))))) (by kernel_rfl)
            · have hE : some true = some r := hM
              have hE := Option.some.inj hE
              subst hE
              exact pr R 9999 [.new 0, .call false [] (.o (.c (.v (.int .i64 v1)))) [] [], .as 20 false, .call false [] (.o (.c (.v (.int .i64 v4)))) [] [], .as 25 false, .call false [] (.o (.agg [.sl 1, .sl 2, .v (.int .i64 v7.Change)])) [] [(1, .row 89 6 (v7.Legs.map Leg.enc)), (2, .row 3 1 (v7.Off.map encI))], .call false [] (.o (.c (.sl 3))) [] [(3, .row 74 4 (v9.map Booking.enc))], .call false [] (.tup [.c (.v (.agg (Trip.enc v11.1).toArray)), .c (.v (.bool v11.2))]) [] [], .new 4, .call false [] (.o (.agg [.sl 5, .sl 6, .v (.int .i64 v13.Change)])) [] [(5, .row 89 6 (v13.Legs.map Leg.enc)), (6, .row 3 1 (v13.Off.map encI))], .new 7, .call false [] (.o (.c (.sl 8))) [] [(8, .row 74 4 (v15.map Booking.enc))], .call false [] (.tup [.c (.v (.agg (Trip.enc v17.1).toArray)), .c (.v (.bool v17.2))]) [] [], .new 9, .call false [] (.o (.c (.v (.bool v19)))) [] [], .as 52 false, .as 56 false, .xo [[], [], [.call false [] (.o (.agg [.sl 10, .sl 11, .v (.int .i64 v23.Change)])) [] [(10, .row 89 6 (v23.Legs.map Leg.enc)), (11, .row 3 1 (v23.Off.map encI))]], [.call false [] (.o (.c (.v (.bool v25)))) [] []], []] [.keep [1, 13, 61] [8]] (laws_FnExactRideAt_x1 a1 v15 v25), .as 61 false, .call false [] (.o (.c (.sl 12))) [] [(12, .row 74 4 (v28.map Booking.enc))], .call false [] (.o (.c (.v (.bool v30)))) [] [], .as 66 false] [] [] [] (And.intro (laws_szNetwork_ok a0 1048576 v1 h2) (And.intro h3 (And.intro (laws_szBookingS_ok a1 v1 v4 h5) (And.intro h6 (And.intro (And.intro (con_sw 1001 2 (con_sw 1000 1 (laws_toNetwork_ok a0 v7 h8))) (rfl : ([] : List Nat) = [])) (And.intro (And.intro (con_sw 1000 3 (laws_toBookingS_ok a1 v9 h10)) (rfl : ([] : List Nat) = [])) (And.intro (spec_RideAt_ok v7 v9 a2 a3 v11 h12) (And.intro (And.intro (con_sw 1001 6 (con_sw 1000 5 (laws_toNetwork_ok a0 v13 h14))) (rfl : ([] : List Nat) = [])) (And.intro (And.intro (con_sw 1000 8 (laws_toBookingS_ok a1 v15 h16)) (rfl : ([] : List Nat) = [])) (And.intro (impl_RideAt_ok v13 v15 a2 a3 v17 h18) (And.intro (laws_eqTrip_ok v17.1 v11.1 v19 h20) (And.intro h21 (And.intro h22 (And.intro (And.intro (con_sw 1001 11 (con_sw 1000 10 (laws_toNetwork_ok a0 v23 h24))) (rfl : ([] : List Nat) = [])) (And.intro (laws_eqNetwork_ok v13 v23 v25 h26) (And.intro (rfl : (laws_FnExactRideAt_x1 a1 v15 v25) = (laws_FnExactRideAt_x1 a1 v15 v25)) (And.intro (And.intro (con_sw 1001 11 (con_sw 1000 10 (laws_toNetwork_ok a0 v23 h24))) (rfl : ([] : List Nat) = [])) (And.intro (laws_eqNetwork_ok v13 v23 v25 h26) (And.intro (rfl : (laws_FnExactRideAt_x1 a1 v15 v25) = (laws_FnExactRideAt_x1 a1 v15 v25)) (And.intro (And.intro (con_sw 1001 11 (con_sw 1000 10 (laws_toNetwork_ok a0 v23 h24))) (rfl : ([] : List Nat) = [])) (And.intro (laws_eqNetwork_ok v13 v23 v25 h26) (And.intro (rfl : (laws_FnExactRideAt_x1 a1 v15 v25) = (laws_FnExactRideAt_x1 a1 v15 v25)) (And.intro h27 (And.intro (And.intro (con_sw 1000 12 (laws_toBookingS_ok a1 v28 h29)) (rfl : ([] : List Nat) = [])) (And.intro (laws_eqBookingS_ok v15 v28 v30 h31) (And.intro h32 True.intro)))))))))))))))))))))))))) (by kernel_rfl)

-- loop.example/g03014/spec.l6Closed
def spec_l6Closed_L1_b (a0 : (List Trip)) (a1 : Trip) (s1 : Int) : Option (Ctl Int Unit Bool) :=
  bif (decide (s1 < (a0.length : Int))) then
  (gi a0 s1).bind fun v3 =>
  bif (decide (v3 = a1)) then
  some (.ret true)
  else
  some (.next (w64 (s1 + 1)))
  else
  some (.brk ())
def spec_l6Closed_L1 (a0 : (List Trip)) (a1 : Trip) (s : Int) : Option (Ctl Int Unit Bool) := spec_l6Closed_L1_b a0 a1 s
def spec_l6Closed_L1_s (a0 : (List Trip)) (a1 : Trip) (s1 : Int) : St := ⟨[(0, .o (.c (.rs 2 (a0.map Trip.enc)))), (3, .o (.c (.ptr 0 0))), (5, .o (.c (.v (.int .i64 s1))))], [(0, .box 31 [.v (.int .i64 a1.Leg), .v (.int .i64 a1.Day)])]⟩
def spec_l6Closed_L1_S (a0 : (List Trip)) (a1 : Trip) (s : Int) : St := spec_l6Closed_L1_s a0 a1 s
def spec_l6Closed_L1_a : Option Bool :=
  some false
def spec_l6Closed_L1_k (x : (Unit) ⊕ (Bool)) : Option Bool := match x with
  | .inl t => spec_l6Closed_L1_a
  | .inr y => some y
def spec_l6Closed (a0 : (List Trip)) (a1 : Trip) : Option Bool :=
  (loopM (spec_l6Closed_L1 a0 a1) big 0).bind (spec_l6Closed_L1_k)
theorem spec_l6Closed_ok (a0 : (List Trip)) (a1 : Trip) (r : Bool) (hM : spec_l6Closed a0 a1 = some r) :
    Con Try.prog 92 [.c (.rs 2 (a0.map Trip.enc)), .c (.v (.agg (Trip.enc a1).toArray))] [] (.o (.c (.v (.bool r)))) [] [] := by
  unfold spec_l6Closed at hM
  refine cn (N := 18) (pids := []) Try_mixed Try.func92 (by kernel_rfl) (by kernel_rfl) (by kernel_rfl) rfl fun ρ g w R => ?_
  have K1 : ∀ (_ : Unit), spec_l6Closed_L1_a = some r → Gr R [.code (cAt Try.f92 [1, 1])] (⟨[], []⟩) := by
    intro _ hM
    unfold spec_l6Closed_L1_a at hM
    have hE : some false = some r := hM
    have hE := Option.some.inj hE
    subst hE
    exact pr R 9999 [] [] [] [] True.intro (by kernel_rfl)
  refine pc R 9999 [.new 0] [.keep [0, 3, 5] [0]] (k' := [.code (.loop (cAt Try.f92 [1, 0, 1, 0, 0])), .blk 0, .code (cAt Try.f92 [1, 1])]) (S' := spec_l6Closed_L1_S a0 a1 0) True.intro (by kernel_rfl) ?_
  refine lq (spec_l6Closed_L1_S a0 a1) (body := spec_l6Closed_L1 a0 a1) (k := spec_l6Closed_L1_k) hM fun m1 s c1 hM hK1 => ?_
  obtain ⟨s1, hs⟩ : ∃ z, z = s := ⟨_, rfl⟩
  subst hs
  have hM : spec_l6Closed_L1_b a0 a1 s1 = some c1 := hM
  unfold spec_l6Closed_L1_b at hM
  rcases cond_cases hM with ⟨h2, hM⟩ | ⟨h2, hM⟩
  · obtain ⟨v3, h4, hM⟩ := bind_some hM
    rcases cond_cases hM with ⟨h5, hM⟩ | ⟨h5, hM⟩
    · have hE : some (Ctl.ret true) = some c1 := hM
      have hE := Option.some.inj hE
      subst hE
      have hE : some true = some r := hK1
      have hE := Option.some.inj hE
      subst hE
      exact pr R 9999 [.ln (a0.length), .as 9 true, .ix (Trip.enc v3), .run 17 (.bool (decide (v3 = a1))), .as 17 true] [] [] [] (And.intro (lenm Trip.enc a0) (And.intro h2 (And.intro (gi_map Trip.enc h4) (And.intro (Trip_eql31 v3 a1) (And.intro h5 True.intro))))) (by kernel_rfl)
    · have hE : some (Ctl.next (w64 (s1 + 1))) = some c1 := hM
      have hE := Option.some.inj hE
      subst hE
      exact pc R 9999 [.ln (a0.length), .as 9 true, .ix (Trip.enc v3), .run 17 (.bool (decide (v3 = a1))), .as 17 false] [.keep [0, 3, 5] [0]] (And.intro (lenm Trip.enc a0) (And.intro h2 (And.intro (gi_map Trip.enc h4) (And.intro (Trip_eql31 v3 a1) (And.intro h5 True.intro))))) (by kernel_rfl) (li (Sf := spec_l6Closed_L1_S a0 a1) (M := Mk (spec_l6Closed_L1 a0 a1) (spec_l6Closed_L1_k) r) (k := [.blk 0, .code (cAt Try.f92 [1, 1])]) (Nat.lt_succ_self m1) hK1)
  · have hE : some (Ctl.brk ()) = some c1 := hM
    have hE := Option.some.inj hE
    subst hE
    exact pc R 5 [.ln (a0.length), .as 9 false] [.keep [] []] (And.intro (lenm Trip.enc a0) (And.intro h2 True.intro)) (by kernel_rfl) (K1 () hK1)

-- loop.example/g03014/spec.l6Next
def spec_l6Next_L1_b (a0 : Network) (a1 : (List Booking)) (a2 : (List Trip)) (a3 : Int) (a4 : Int) (a5 : Int) (s1 : Int) : Option (Ctl Int Unit Int) :=
  bif (decide (s1 ≤ 60)) then
  (spec_l3Runs a0 a3 s1).bind fun v3 =>
  bif v3 then
  (spec_l3Starts a0 (Trip.mk ((Trip.mk a3 s1).Leg) ((Trip.mk a3 s1).Day))).bind fun v6 =>
  bif (decide (v6 ≥ a4)) then
  (spec_l6Closed a2 (Trip.mk ((Trip.mk a3 s1).Leg) ((Trip.mk a3 s1).Day))).bind fun v9 =>
  bif (!v9) then
  (gi a0.Legs a3).bind fun v12 =>
  (spec_LoadOf a1 (Trip.mk ((Trip.mk a3 s1).Leg) ((Trip.mk a3 s1).Day))).bind fun v14 =>
  bif (decide ((w64 (v12.Room - v14)) ≥ a5)) then
  some (.ret s1)
  else
  some (.next (w64 (s1 + 1)))
  else
  some (.next (w64 (s1 + 1)))
  else
  some (.next (w64 (s1 + 1)))
  else
  some (.next (w64 (s1 + 1)))
  else
  some (.brk ())
def spec_l6Next_L1 (a0 : Network) (a1 : (List Booking)) (a2 : (List Trip)) (a3 : Int) (a4 : Int) (a5 : Int) (s : Int) : Option (Ctl Int Unit Int) := spec_l6Next_L1_b a0 a1 a2 a3 a4 a5 s
def spec_l6Next_L1_s (a0 : Network) (a1 : (List Booking)) (a2 : (List Trip)) (a3 : Int) (a4 : Int) (a5 : Int) (s1 : Int) : St := ⟨[(1, .o (.c (.rs 4 (a1.map Booking.enc)))), (2, .o (.c (.rs 2 (a2.map Trip.enc)))), (3, .o (.c (.v (.int .i64 a3)))), (4, .o (.c (.v (.int .i64 a4)))), (5, .o (.c (.v (.int .i64 a5)))), (6, .o (.c (.ptr 0 0))), (13, .o (.c (.v (.int .i64 s1))))], [(0, .box 54 [.rs 6 (a0.Legs.map Leg.enc), .rs 1 (a0.Off.map encI), .v (.int .i64 a0.Change)])]⟩
def spec_l6Next_L1_S (a0 : Network) (a1 : (List Booking)) (a2 : (List Trip)) (a3 : Int) (a4 : Int) (a5 : Int) (s : Int) : St := spec_l6Next_L1_s a0 a1 a2 a3 a4 a5 s
def spec_l6Next_L1_a : Option Int :=
  some (-1)
def spec_l6Next_L1_k (x : (Unit) ⊕ (Int)) : Option Int := match x with
  | .inl t => spec_l6Next_L1_a
  | .inr y => some y
def spec_l6Next (a0 : Network) (a1 : (List Booking)) (a2 : (List Trip)) (a3 : Int) (a4 : Int) (a5 : Int) : Option Int :=
  (loopM (spec_l6Next_L1 a0 a1 a2 a3 a4 a5) big 0).bind (spec_l6Next_L1_k)
theorem spec_l6Next_ok (a0 : Network) (a1 : (List Booking)) (a2 : (List Trip)) (a3 : Int) (a4 : Int) (a5 : Int) (r : Int) (hM : spec_l6Next a0 a1 a2 a3 a4 a5 = some r) :
    Con Try.prog 78 [.agg [.rs 6 (a0.Legs.map Leg.enc), .rs 1 (a0.Off.map encI), .v (.int .i64 a0.Change)], .c (.rs 4 (a1.map Booking.enc)), .c (.rs 2 (a2.map Trip.enc)), .c (.v (.int .i64 a3)), .c (.v (.int .i64 a4)), .c (.v (.int .i64 a5))] [] (.o (.c (.v (.int .i64 r)))) [] [] := by
  unfold spec_l6Next at hM
  refine cn (N := 54) (pids := []) Try_mixed Try.func78 (by kernel_rfl) (by kernel_rfl) (by kernel_rfl) rfl fun ρ g w R => ?_
  have K1 : ∀ (_ : Unit), spec_l6Next_L1_a = some r → Gr R [.code (cAt Try.f78 [1, 1])] (⟨[], []⟩) := by
    intro _ hM
    unfold spec_l6Next_L1_a at hM
    have hE : some (-1) = some r := hM
    have hE := Option.some.inj hE
    subst hE
    exact pr R 9999 [] [] [] [] True.intro (by kernel_rfl)
  refine pc R 9999 [.new 0] [.keep [1, 2, 3, 4, 5, 6, 13] [0]] (k' := [.code (.loop (cAt Try.f78 [1, 0, 1, 0, 0])), .blk 0, .code (cAt Try.f78 [1, 1])]) (S' := spec_l6Next_L1_S a0 a1 a2 a3 a4 a5 0) True.intro (by kernel_rfl) ?_
  refine lq (spec_l6Next_L1_S a0 a1 a2 a3 a4 a5) (body := spec_l6Next_L1 a0 a1 a2 a3 a4 a5) (k := spec_l6Next_L1_k) hM fun m1 s c1 hM hK1 => ?_
  obtain ⟨s1, hs⟩ : ∃ z, z = s := ⟨_, rfl⟩
  subst hs
  have hM : spec_l6Next_L1_b a0 a1 a2 a3 a4 a5 s1 = some c1 := hM
  unfold spec_l6Next_L1_b at hM
  rcases cond_cases hM with ⟨h2, hM⟩ | ⟨h2, hM⟩
  · obtain ⟨v3, h4, hM⟩ := bind_some hM
    rcases cond_cases hM with ⟨h5, hM⟩ | ⟨h5, hM⟩
    · obtain ⟨v6, h7, hM⟩ := bind_some hM
      rcases cond_cases hM with ⟨h8, hM⟩ | ⟨h8, hM⟩
      · obtain ⟨v9, h10, hM⟩ := bind_some hM
        rcases cond_cases hM with ⟨h11, hM⟩ | ⟨h11, hM⟩
        · obtain ⟨v12, h13, hM⟩ := bind_some hM
          obtain ⟨v14, h15, hM⟩ := bind_some hM
          rcases cond_cases hM with ⟨h16, hM⟩ | ⟨h16, hM⟩
          · have hE : some (Ctl.ret s1) = some c1 := hM
            have hE := Option.some.inj hE
            subst hE
            have hE : some s1 = some r := hK1
            have hE := Option.some.inj hE
            subst hE
            exact pr R 9999 [.as 16 true, .new 1, .call false [] (.o (.c (.v (.bool v3)))) [] [], .as 26 true, .call false [] (.o (.c (.v (.int .i64 v6)))) [] [], .as 33 true, .call false [] (.o (.c (.v (.bool v9)))) [] [], .as 39 true, .ix (Leg.enc v12), .call false [] (.o (.c (.v (.int .i64 v14)))) [] [], .as 52 true] [] [] [] (And.intro h2 (And.intro (spec_l3Runs_ok a0 a3 s1 v3 h4) (And.intro h5 (And.intro (spec_l3Starts_ok a0 (Trip.mk ((Trip.mk a3 s1).Leg) ((Trip.mk a3 s1).Day)) v6 h7) (And.intro h8 (And.intro (spec_l6Closed_ok a2 (Trip.mk ((Trip.mk a3 s1).Leg) ((Trip.mk a3 s1).Day)) v9 h10) (And.intro h11 (And.intro (gi_map Leg.enc h13) (And.intro (spec_LoadOf_ok a1 (Trip.mk ((Trip.mk a3 s1).Leg) ((Trip.mk a3 s1).Day)) v14 h15) (And.intro h16 True.intro)))))))))) (by kernel_rfl)
          · have hE : some (Ctl.next (w64 (s1 + 1))) = some c1 := hM
            have hE := Option.some.inj hE
            subst hE
            exact pc R 9999 [.as 16 true, .new 1, .call false [] (.o (.c (.v (.bool v3)))) [] [], .as 26 true, .call false [] (.o (.c (.v (.int .i64 v6)))) [] [], .as 33 true, .call false [] (.o (.c (.v (.bool v9)))) [] [], .as 39 true, .ix (Leg.enc v12), .call false [] (.o (.c (.v (.int .i64 v14)))) [] [], .as 52 false] [.keep [1, 2, 3, 4, 5, 6, 13] [0]] (And.intro h2 (And.intro (spec_l3Runs_ok a0 a3 s1 v3 h4) (And.intro h5 (And.intro (spec_l3Starts_ok a0 (Trip.mk ((Trip.mk a3 s1).Leg) ((Trip.mk a3 s1).Day)) v6 h7) (And.intro h8 (And.intro (spec_l6Closed_ok a2 (Trip.mk ((Trip.mk a3 s1).Leg) ((Trip.mk a3 s1).Day)) v9 h10) (And.intro h11 (And.intro (gi_map Leg.enc h13) (And.intro (spec_LoadOf_ok a1 (Trip.mk ((Trip.mk a3 s1).Leg) ((Trip.mk a3 s1).Day)) v14 h15) (And.intro h16 True.intro)))))))))) (by kernel_rfl) (li (Sf := spec_l6Next_L1_S a0 a1 a2 a3 a4 a5) (M := Mk (spec_l6Next_L1 a0 a1 a2 a3 a4 a5) (spec_l6Next_L1_k) r) (k := [.blk 0, .code (cAt Try.f78 [1, 1])]) (Nat.lt_succ_self m1) hK1)
        · have hE : some (Ctl.next (w64 (s1 + 1))) = some c1 := hM
          have hE := Option.some.inj hE
          subst hE
          exact pc R 9999 [.as 16 true, .new 1, .call false [] (.o (.c (.v (.bool v3)))) [] [], .as 26 true, .call false [] (.o (.c (.v (.int .i64 v6)))) [] [], .as 33 true, .call false [] (.o (.c (.v (.bool v9)))) [] [], .as 39 false] [.keep [1, 2, 3, 4, 5, 6, 13] [0]] (And.intro h2 (And.intro (spec_l3Runs_ok a0 a3 s1 v3 h4) (And.intro h5 (And.intro (spec_l3Starts_ok a0 (Trip.mk ((Trip.mk a3 s1).Leg) ((Trip.mk a3 s1).Day)) v6 h7) (And.intro h8 (And.intro (spec_l6Closed_ok a2 (Trip.mk ((Trip.mk a3 s1).Leg) ((Trip.mk a3 s1).Day)) v9 h10) (And.intro h11 True.intro))))))) (by kernel_rfl) (li (Sf := spec_l6Next_L1_S a0 a1 a2 a3 a4 a5) (M := Mk (spec_l6Next_L1 a0 a1 a2 a3 a4 a5) (spec_l6Next_L1_k) r) (k := [.blk 0, .code (cAt Try.f78 [1, 1])]) (Nat.lt_succ_self m1) hK1)
      · have hE : some (Ctl.next (w64 (s1 + 1))) = some c1 := hM
        have hE := Option.some.inj hE
        subst hE
        exact pc R 9999 [.as 16 true, .new 1, .call false [] (.o (.c (.v (.bool v3)))) [] [], .as 26 true, .call false [] (.o (.c (.v (.int .i64 v6)))) [] [], .as 33 false] [.keep [1, 2, 3, 4, 5, 6, 13] [0]] (And.intro h2 (And.intro (spec_l3Runs_ok a0 a3 s1 v3 h4) (And.intro h5 (And.intro (spec_l3Starts_ok a0 (Trip.mk ((Trip.mk a3 s1).Leg) ((Trip.mk a3 s1).Day)) v6 h7) (And.intro h8 True.intro))))) (by kernel_rfl) (li (Sf := spec_l6Next_L1_S a0 a1 a2 a3 a4 a5) (M := Mk (spec_l6Next_L1 a0 a1 a2 a3 a4 a5) (spec_l6Next_L1_k) r) (k := [.blk 0, .code (cAt Try.f78 [1, 1])]) (Nat.lt_succ_self m1) hK1)
    · have hE : some (Ctl.next (w64 (s1 + 1))) = some c1 := hM
      have hE := Option.some.inj hE
      subst hE
      exact pc R 9999 [.as 16 true, .new 1, .call false [] (.o (.c (.v (.bool v3)))) [] [], .as 26 false] [.keep [1, 2, 3, 4, 5, 6, 13] [0]] (And.intro h2 (And.intro (spec_l3Runs_ok a0 a3 s1 v3 h4) (And.intro h5 True.intro))) (by kernel_rfl) (li (Sf := spec_l6Next_L1_S a0 a1 a2 a3 a4 a5) (M := Mk (spec_l6Next_L1 a0 a1 a2 a3 a4 a5) (spec_l6Next_L1_k) r) (k := [.blk 0, .code (cAt Try.f78 [1, 1])]) (Nat.lt_succ_self m1) hK1)
  · have hE : some (Ctl.brk ()) = some c1 := hM
    have hE := Option.some.inj hE
    subst hE
    exact pc R 5 [.as 16 false] [.keep [] []] (And.intro h2 True.intro) (by kernel_rfl) (K1 () hK1)

-- loop.example/g03014/spec.NextFree
def spec_NextFree (a0 : Network) (a1 : (List Booking)) (a2 : (List Trip)) (a3 : Int) (a4 : Int) (a5 : Int) : Option (Trip × Bool) :=
  (spec_AreBookings a0 a1).bind fun v1 =>
  bif (!v1) then
  some ((Trip.mk ((Trip.mk 0 0).Leg) ((Trip.mk 0 0).Day)), false)
  else
  bif (decide (a5 < 1)) then
  some ((Trip.mk ((Trip.mk 0 0).Leg) ((Trip.mk 0 0).Day)), false)
  else
  (spec_l6Next a0 a1 a2 a3 a4 a5).bind fun v5 =>
  bif (decide (v5 < 0)) then
  some ((Trip.mk ((Trip.mk 0 0).Leg) ((Trip.mk 0 0).Day)), false)
  else
  some ((Trip.mk ((Trip.mk a3 v5).Leg) ((Trip.mk a3 v5).Day)), true)
theorem spec_NextFree_ok (a0 : Network) (a1 : (List Booking)) (a2 : (List Trip)) (a3 : Int) (a4 : Int) (a5 : Int) (r : Trip × Bool) (hM : spec_NextFree a0 a1 a2 a3 a4 a5 = some r) :
    Con Try.prog 52 [.agg [.rs 6 (a0.Legs.map Leg.enc), .rs 1 (a0.Off.map encI), .v (.int .i64 a0.Change)], .c (.rs 4 (a1.map Booking.enc)), .c (.rs 2 (a2.map Trip.enc)), .c (.v (.int .i64 a3)), .c (.v (.int .i64 a4)), .c (.v (.int .i64 a5))] [] (.tup [.c (.v (.agg (Trip.enc r.1).toArray)), .c (.v (.bool r.2))]) [] [] := by
  unfold spec_NextFree at hM
  refine cn (N := 37) (pids := []) Try_mixed Try.func52 (by kernel_rfl) (by kernel_rfl) (by kernel_rfl) rfl fun ρ g w R => ?_
  obtain ⟨v1, h2, hM⟩ := bind_some hM
  rcases cond_cases hM with ⟨h3, hM⟩ | ⟨h3, hM⟩
  · have hE : some ((Trip.mk ((Trip.mk 0 0).Leg) ((Trip.mk 0 0).Day)), false) = some r := hM
    have hE := Option.some.inj hE
    subst hE
    exact pr R 9999 [.new 0, .new 1, .call false [] (.o (.c (.v (.bool v1)))) [] [], .as 19 true] [] [] [] (And.intro (spec_AreBookings_ok a0 a1 v1 h2) (And.intro h3 True.intro)) (by kernel_rfl)
  · rcases cond_cases hM with ⟨h4, hM⟩ | ⟨h4, hM⟩
    · have hE : some ((Trip.mk ((Trip.mk 0 0).Leg) ((Trip.mk 0 0).Day)), false) = some r := hM
      have hE := Option.some.inj hE
      subst hE
      exact pr R 9999 [.new 0, .new 1, .call false [] (.o (.c (.v (.bool v1)))) [] [], .as 19 false, .as 22 true] [] [] [] (And.intro (spec_AreBookings_ok a0 a1 v1 h2) (And.intro h3 (And.intro h4 True.intro))) (by kernel_rfl)
    · obtain ⟨v5, h6, hM⟩ := bind_some hM
      rcases cond_cases hM with ⟨h7, hM⟩ | ⟨h7, hM⟩
      · have hE : some ((Trip.mk ((Trip.mk 0 0).Leg) ((Trip.mk 0 0).Day)), false) = some r := hM
        have hE := Option.some.inj hE
        subst hE
        exact pr R 9999 [.new 0, .new 1, .call false [] (.o (.c (.v (.bool v1)))) [] [], .as 19 false, .as 22 false, .call false [] (.o (.c (.v (.int .i64 v5)))) [] [], .as 32 true] [] [] [] (And.intro (spec_AreBookings_ok a0 a1 v1 h2) (And.intro h3 (And.intro h4 (And.intro (spec_l6Next_ok a0 a1 a2 a3 a4 a5 v5 h6) (And.intro h7 True.intro))))) (by kernel_rfl)
      · have hE : some ((Trip.mk ((Trip.mk a3 v5).Leg) ((Trip.mk a3 v5).Day)), true) = some r := hM
        have hE := Option.some.inj hE
        subst hE
        exact pr R 9999 [.new 0, .new 1, .call false [] (.o (.c (.v (.bool v1)))) [] [], .as 19 false, .as 22 false, .call false [] (.o (.c (.v (.int .i64 v5)))) [] [], .as 32 false] [] [] [] (And.intro (spec_AreBookings_ok a0 a1 v1 h2) (And.intro h3 (And.intro h4 (And.intro (spec_l6Next_ok a0 a1 a2 a3 a4 a5 v5 h6) (And.intro h7 True.intro))))) (by kernel_rfl)

-- loop.example/g03014/impl.freeOf
def impl_freeOf (a0 : Network) (a1 : (List Booking)) (a2 : (List Trip)) (a3 : Int) : Option (Network × (List Trip) × (List Booking) × Int) :=
  some (a0, a2, a1, a3)
theorem impl_freeOf_ok (a0 : Network) (a1 : (List Booking)) (a2 : (List Trip)) (a3 : Int) (r : (Network × (List Trip) × (List Booking) × Int)) (hM : impl_freeOf a0 a1 a2 a3 = some r) :
    Con Try.prog 79 [.agg [.rs 6 (a0.Legs.map Leg.enc), .rs 1 (a0.Off.map encI), .v (.int .i64 a0.Change)], .c (.rs 4 (a1.map Booking.enc)), .c (.rs 2 (a2.map Trip.enc)), .c (.v (.int .i64 a3))] [] (.o (.c (.fn 93 [1000, 1001, 1002, 1003]))) [] [(1000, .box 54 [.rs 6 (r.1.Legs.map Leg.enc), .rs 1 (r.1.Off.map encI), .v (.int .i64 r.1.Change)]), (1001, .box 40 [.rs 2 (r.2.1.map Trip.enc)]), (1002, .box 29 [.rs 4 (r.2.2.1.map Booking.enc)]), (1003, .box 3 [.v (.int .i64 r.2.2.2)])] := by
  unfold impl_freeOf at hM
  refine cn (N := 10) (pids := []) Try_mixed Try.func79 (by kernel_rfl) (by kernel_rfl) (by kernel_rfl) rfl fun ρ g w R => ?_
  have hE : some (a0, a2, a1, a3) = some r := hM
  have hE := Option.some.inj hE
  subst hE
  exact pr R 9999 [.new 0, .new 1, .new 2, .new 3] [.sw 0 1000, .sw 2 1001, .sw 1 1002, .sw 3 1003] [] [1000, 1001, 1002, 1003] True.intro (by kernel_rfl)

-- loop.example/g03014/impl.hasTrip
def impl_hasTrip_L1_b (a0 : (List Trip)) (a1 : Trip) (s1 : Int) : Option (Ctl Int Unit Bool) :=
  bif (decide (s1 < (a0.length : Int))) then
  (gi a0 s1).bind fun v3 =>
  bif (decide (v3 = a1)) then
  some (.ret true)
  else
  some (.next (w64 (s1 + 1)))
  else
  some (.brk ())
def impl_hasTrip_L1 (a0 : (List Trip)) (a1 : Trip) (s : Int) : Option (Ctl Int Unit Bool) := impl_hasTrip_L1_b a0 a1 s
def impl_hasTrip_L1_s (a0 : (List Trip)) (a1 : Trip) (s1 : Int) : St := ⟨[(3, .o (.c (.ptr 0 0))), (7, .o (.c (.rs 2 (a0.map Trip.enc)))), (8, .o (.c (.v (.int .i64 (a0.length : Int))))), (9, .o (.c (.v (.int .i64 s1))))], [(0, .box 31 [.v (.int .i64 a1.Leg), .v (.int .i64 a1.Day)])]⟩
def impl_hasTrip_L1_S (a0 : (List Trip)) (a1 : Trip) (s : Int) : St := impl_hasTrip_L1_s a0 a1 s
def impl_hasTrip_L1_a : Option Bool :=
  some false
def impl_hasTrip_L1_k (x : (Unit) ⊕ (Bool)) : Option Bool := match x with
  | .inl t => impl_hasTrip_L1_a
  | .inr y => some y
def impl_hasTrip (a0 : (List Trip)) (a1 : Trip) : Option Bool :=
  (loopM (impl_hasTrip_L1 a0 a1) big 0).bind (impl_hasTrip_L1_k)
theorem impl_hasTrip_ok (a0 : (List Trip)) (a1 : Trip) (r : Bool) (hM : impl_hasTrip a0 a1 = some r) :
    Con Try.prog 95 [.c (.rs 2 (a0.map Trip.enc)), .c (.v (.agg (Trip.enc a1).toArray))] [] (.o (.c (.v (.bool r)))) [] [] := by
  unfold impl_hasTrip at hM
  refine cn (N := 17) (pids := []) Try_mixed Try.func95 (by kernel_rfl) (by kernel_rfl) (by kernel_rfl) rfl fun ρ g w R => ?_
  have K1 : ∀ (_ : Unit), impl_hasTrip_L1_a = some r → Gr R [.code (cAt Try.f95 [1, 1])] (⟨[], []⟩) := by
    intro _ hM
    unfold impl_hasTrip_L1_a at hM
    have hE : some false = some r := hM
    have hE := Option.some.inj hE
    subst hE
    exact pr R 9999 [] [] [] [] True.intro (by kernel_rfl)
  refine pc R 9999 [.new 0, .ln (a0.length)] [.keep [3, 7, 8, 9] [0]] (k' := [.code (.loop (cAt Try.f95 [1, 0, 1, 0, 0])), .blk 0, .code (cAt Try.f95 [1, 1])]) (S' := impl_hasTrip_L1_S a0 a1 0) (And.intro (lenm Trip.enc a0) True.intro) (by kernel_rfl) ?_
  refine lq (impl_hasTrip_L1_S a0 a1) (body := impl_hasTrip_L1 a0 a1) (k := impl_hasTrip_L1_k) hM fun m1 s c1 hM hK1 => ?_
  obtain ⟨s1, hs⟩ : ∃ z, z = s := ⟨_, rfl⟩
  subst hs
  have hM : impl_hasTrip_L1_b a0 a1 s1 = some c1 := hM
  unfold impl_hasTrip_L1_b at hM
  rcases cond_cases hM with ⟨h2, hM⟩ | ⟨h2, hM⟩
  · obtain ⟨v3, h4, hM⟩ := bind_some hM
    rcases cond_cases hM with ⟨h5, hM⟩ | ⟨h5, hM⟩
    · have hE : some (Ctl.ret true) = some c1 := hM
      have hE := Option.some.inj hE
      subst hE
      have hE : some true = some r := hK1
      have hE := Option.some.inj hE
      subst hE
      exact pr R 9999 [.as 10 true, .ix (Trip.enc v3), .new 1, .run 15 (.bool (decide (v3 = a1))), .as 15 true] [] [] [] (And.intro h2 (And.intro (gi_map Trip.enc h4) (And.intro (Trip_eql31 v3 a1) (And.intro h5 True.intro)))) (by kernel_rfl)
    · have hE : some (Ctl.next (w64 (s1 + 1))) = some c1 := hM
      have hE := Option.some.inj hE
      subst hE
      exact pc R 9999 [.as 10 true, .ix (Trip.enc v3), .new 1, .run 15 (.bool (decide (v3 = a1))), .as 15 false] [.keep [3, 7, 8, 9] [0]] (And.intro h2 (And.intro (gi_map Trip.enc h4) (And.intro (Trip_eql31 v3 a1) (And.intro h5 True.intro)))) (by kernel_rfl) (li (Sf := impl_hasTrip_L1_S a0 a1) (M := Mk (impl_hasTrip_L1 a0 a1) (impl_hasTrip_L1_k) r) (k := [.blk 0, .code (cAt Try.f95 [1, 1])]) (Nat.lt_succ_self m1) hK1)
  · have hE : some (Ctl.brk ()) = some c1 := hM
    have hE := Option.some.inj hE
    subst hE
    exact pc R 5 [.as 10 false] [.keep [] []] (And.intro h2 True.intro) (by kernel_rfl) (K1 () hK1)

-- loop.example/g03014/impl.freeOf$1
def impl_freeOf_c1_L1_b (a0 : Int) (a1 : Int) (a2 : Network) (a3 : (List Trip)) (a4 : (List Booking)) (a5 : Int) (s1 : Int) : Option (Ctl Int Unit (Trip × Bool)) :=
  bif (decide (s1 ≤ 60)) then
  (impl_runs a2 a0 s1).bind fun v3 =>
  bif v3 then
  (impl_starts a2 (Trip.mk ((Trip.mk a0 s1).Leg) ((Trip.mk a0 s1).Day))).bind fun v6 =>
  bif (decide (v6 ≥ a1)) then
  (impl_hasTrip a3 (Trip.mk ((Trip.mk a0 s1).Leg) ((Trip.mk a0 s1).Day))).bind fun v9 =>
  bif (!v9) then
  (gi a2.Legs a0).bind fun v12 =>
  (impl_LoadOf a4 (Trip.mk ((Trip.mk a0 s1).Leg) ((Trip.mk a0 s1).Day))).bind fun v14 =>
  bif (decide ((w64 (v12.Room - v14)) ≥ a5)) then
  some (.ret ((Trip.mk ((Trip.mk ((Trip.mk a0 s1).Leg) ((Trip.mk a0 s1).Day)).Leg) ((Trip.mk ((Trip.mk a0 s1).Leg) ((Trip.mk a0 s1).Day)).Day)), true))
  else
  some (.next (w64 (s1 + 1)))
  else
  some (.next (w64 (s1 + 1)))
  else
  some (.next (w64 (s1 + 1)))
  else
  some (.next (w64 (s1 + 1)))
  else
  some (.brk ())
def impl_freeOf_c1_L1 (a0 : Int) (a1 : Int) (a2 : Network) (a3 : (List Trip)) (a4 : (List Booking)) (a5 : Int) (s : Int) : Option (Ctl Int Unit (Trip × Bool)) := impl_freeOf_c1_L1_b a0 a1 a2 a3 a4 a5 s
def impl_freeOf_c1_L1_s (a0 : Int) (a1 : Int) (a2 : Network) (a3 : (List Trip)) (a4 : (List Booking)) (a5 : Int) (s1 : Int) : St := ⟨[(0, .o (.c (.v (.int .i64 a0)))), (1, .o (.c (.v (.int .i64 a1)))), (2, .o (.c (.ptr 902 0))), (3, .o (.c (.ptr 903 0))), (4, .o (.c (.ptr 904 0))), (5, .o (.c (.ptr 905 0))), (8, .o (.c (.ptr 0 0))), (10, .o (.c (.v (.int .i64 s1))))], [(902, .box 54 [.rs 6 (a2.Legs.map Leg.enc), .rs 1 (a2.Off.map encI), .v (.int .i64 a2.Change)]), (903, .box 40 [.rs 2 (a3.map Trip.enc)]), (904, .box 29 [.rs 4 (a4.map Booking.enc)]), (905, .box 3 [.v (.int .i64 a5)]), (0, .box 31 [.v (.int .i64 0), .v (.int .i64 0)])]⟩
def impl_freeOf_c1_L1_S (a0 : Int) (a1 : Int) (a2 : Network) (a3 : (List Trip)) (a4 : (List Booking)) (a5 : Int) (s : Int) : St := impl_freeOf_c1_L1_s a0 a1 a2 a3 a4 a5 s
def impl_freeOf_c1_L1_a : Option (Trip × Bool) :=
  some ((Trip.mk ((Trip.mk 0 0).Leg) ((Trip.mk 0 0).Day)), false)
def impl_freeOf_c1_L1_k (x : (Unit) ⊕ (Trip × Bool)) : Option (Trip × Bool) := match x with
  | .inl t => impl_freeOf_c1_L1_a
  | .inr y => some y
def impl_freeOf_c1 (a0 : Int) (a1 : Int) (a2 : Network) (a3 : (List Trip)) (a4 : (List Booking)) (a5 : Int) : Option (Trip × Bool) :=
  (loopM (impl_freeOf_c1_L1 a0 a1 a2 a3 a4 a5) big 0).bind (impl_freeOf_c1_L1_k)
theorem impl_freeOf_c1_ok (a0 : Int) (a1 : Int) (a2 : Network) (a3 : (List Trip)) (a4 : (List Booking)) (a5 : Int) (r : Trip × Bool) (hM : impl_freeOf_c1 a0 a1 a2 a3 a4 a5 = some r) :
    Con Try.prog 93 [.c (.v (.int .i64 a0)), .c (.v (.int .i64 a1)), .c (.ptr 902 0), .c (.ptr 903 0), .c (.ptr 904 0), .c (.ptr 905 0)] [(902, .box 54 [.rs 6 (a2.Legs.map Leg.enc), .rs 1 (a2.Off.map encI), .v (.int .i64 a2.Change)]), (903, .box 40 [.rs 2 (a3.map Trip.enc)]), (904, .box 29 [.rs 4 (a4.map Booking.enc)]), (905, .box 3 [.v (.int .i64 a5)])] (.tup [.c (.v (.agg (Trip.enc r.1).toArray)), .c (.v (.bool r.2))]) [(902, .box 54 [.rs 6 (a2.Legs.map Leg.enc), .rs 1 (a2.Off.map encI), .v (.int .i64 a2.Change)]), (903, .box 40 [.rs 2 (a3.map Trip.enc)]), (904, .box 29 [.rs 4 (a4.map Booking.enc)]), (905, .box 3 [.v (.int .i64 a5)])] [] := by
  unfold impl_freeOf_c1 at hM
  refine cn (N := 52) (pids := [902, 903, 904, 905]) Try_mixed Try.func93 (by kernel_rfl) (by kernel_rfl) (by kernel_rfl) rfl fun ρ g w R => ?_
  have K1 : ∀ (_ : Unit), impl_freeOf_c1_L1_a = some r → Gr R [.code (cAt Try.f93 [1, 1])] (⟨[(2, .o (.c (.ptr 902 0))), (3, .o (.c (.ptr 903 0))), (4, .o (.c (.ptr 904 0))), (5, .o (.c (.ptr 905 0))), (8, .o (.c (.ptr 0 0)))], [(902, .box 54 [.rs 6 (a2.Legs.map Leg.enc), .rs 1 (a2.Off.map encI), .v (.int .i64 a2.Change)]), (903, .box 40 [.rs 2 (a3.map Trip.enc)]), (904, .box 29 [.rs 4 (a4.map Booking.enc)]), (905, .box 3 [.v (.int .i64 a5)]), (0, .box 31 [.v (.int .i64 0), .v (.int .i64 0)])]⟩) := by
    intro _ hM
    unfold impl_freeOf_c1_L1_a at hM
    have hE : some ((Trip.mk ((Trip.mk 0 0).Leg) ((Trip.mk 0 0).Day)), false) = some r := hM
    have hE := Option.some.inj hE
    subst hE
    exact pr R 9999 [] [] [902, 903, 904, 905] [] True.intro (by kernel_rfl)
  refine pc R 9999 [.new 0] [.keep [0, 1, 2, 3, 4, 5, 8, 10] [902, 903, 904, 905, 0]] (k' := [.code (.loop (cAt Try.f93 [1, 0, 1, 0, 0])), .blk 0, .code (cAt Try.f93 [1, 1])]) (S' := impl_freeOf_c1_L1_S a0 a1 a2 a3 a4 a5 0) True.intro (by kernel_rfl) ?_
  refine lq (impl_freeOf_c1_L1_S a0 a1 a2 a3 a4 a5) (body := impl_freeOf_c1_L1 a0 a1 a2 a3 a4 a5) (k := impl_freeOf_c1_L1_k) hM fun m1 s c1 hM hK1 => ?_
  obtain ⟨s1, hs⟩ : ∃ z, z = s := ⟨_, rfl⟩
  subst hs
  have hM : impl_freeOf_c1_L1_b a0 a1 a2 a3 a4 a5 s1 = some c1 := hM
  unfold impl_freeOf_c1_L1_b at hM
  rcases cond_cases hM with ⟨h2, hM⟩ | ⟨h2, hM⟩
  · obtain ⟨v3, h4, hM⟩ := bind_some hM
    rcases cond_cases hM with ⟨h5, hM⟩ | ⟨h5, hM⟩
    · obtain ⟨v6, h7, hM⟩ := bind_some hM
      rcases cond_cases hM with ⟨h8, hM⟩ | ⟨h8, hM⟩
      · obtain ⟨v9, h10, hM⟩ := bind_some hM
        rcases cond_cases hM with ⟨h11, hM⟩ | ⟨h11, hM⟩
        · obtain ⟨v12, h13, hM⟩ := bind_some hM
          obtain ⟨v14, h15, hM⟩ := bind_some hM
          rcases cond_cases hM with ⟨h16, hM⟩ | ⟨h16, hM⟩
          · have hE : some (Ctl.ret ((Trip.mk ((Trip.mk ((Trip.mk a0 s1).Leg) ((Trip.mk a0 s1).Day)).Leg) ((Trip.mk ((Trip.mk a0 s1).Leg) ((Trip.mk a0 s1).Day)).Day)), true)) = some c1 := hM
            have hE := Option.some.inj hE
            subst hE
            have hE : some ((Trip.mk ((Trip.mk ((Trip.mk a0 s1).Leg) ((Trip.mk a0 s1).Day)).Leg) ((Trip.mk ((Trip.mk a0 s1).Leg) ((Trip.mk a0 s1).Day)).Day)), true) = some r := hK1
            have hE := Option.some.inj hE
            subst hE
            exact pr R 9999 [.as 13 true, .new 1, .call false [] (.o (.c (.v (.bool v3)))) [] [], .as 23 true, .call false [] (.o (.c (.v (.int .i64 v6)))) [] [], .as 30 true, .call false [] (.o (.c (.v (.bool v9)))) [] [], .as 36 true, .ix (Leg.enc v12), .call false [] (.o (.c (.v (.int .i64 v14)))) [] [], .as 49 true] [] [902, 903, 904, 905] [] (And.intro h2 (And.intro (impl_runs_ok a2 a0 s1 v3 h4) (And.intro h5 (And.intro (impl_starts_ok a2 (Trip.mk ((Trip.mk a0 s1).Leg) ((Trip.mk a0 s1).Day)) v6 h7) (And.intro h8 (And.intro (impl_hasTrip_ok a3 (Trip.mk ((Trip.mk a0 s1).Leg) ((Trip.mk a0 s1).Day)) v9 h10) (And.intro h11 (And.intro (gi_map Leg.enc h13) (And.intro (impl_LoadOf_ok a4 (Trip.mk ((Trip.mk a0 s1).Leg) ((Trip.mk a0 s1).Day)) v14 h15) (And.intro h16 True.intro)))))))))) (by kernel_rfl)
          · have hE : some (Ctl.next (w64 (s1 + 1))) = some c1 := hM
            have hE := Option.some.inj hE
            subst hE
            exact pc R 9999 [.as 13 true, .new 1, .call false [] (.o (.c (.v (.bool v3)))) [] [], .as 23 true, .call false [] (.o (.c (.v (.int .i64 v6)))) [] [], .as 30 true, .call false [] (.o (.c (.v (.bool v9)))) [] [], .as 36 true, .ix (Leg.enc v12), .call false [] (.o (.c (.v (.int .i64 v14)))) [] [], .as 49 false] [.keep [0, 1, 2, 3, 4, 5, 8, 10] [902, 903, 904, 905, 0]] (And.intro h2 (And.intro (impl_runs_ok a2 a0 s1 v3 h4) (And.intro h5 (And.intro (impl_starts_ok a2 (Trip.mk ((Trip.mk a0 s1).Leg) ((Trip.mk a0 s1).Day)) v6 h7) (And.intro h8 (And.intro (impl_hasTrip_ok a3 (Trip.mk ((Trip.mk a0 s1).Leg) ((Trip.mk a0 s1).Day)) v9 h10) (And.intro h11 (And.intro (gi_map Leg.enc h13) (And.intro (impl_LoadOf_ok a4 (Trip.mk ((Trip.mk a0 s1).Leg) ((Trip.mk a0 s1).Day)) v14 h15) (And.intro h16 True.intro)))))))))) (by kernel_rfl) (li (Sf := impl_freeOf_c1_L1_S a0 a1 a2 a3 a4 a5) (M := Mk (impl_freeOf_c1_L1 a0 a1 a2 a3 a4 a5) (impl_freeOf_c1_L1_k) r) (k := [.blk 0, .code (cAt Try.f93 [1, 1])]) (Nat.lt_succ_self m1) hK1)
        · have hE : some (Ctl.next (w64 (s1 + 1))) = some c1 := hM
          have hE := Option.some.inj hE
          subst hE
          exact pc R 9999 [.as 13 true, .new 1, .call false [] (.o (.c (.v (.bool v3)))) [] [], .as 23 true, .call false [] (.o (.c (.v (.int .i64 v6)))) [] [], .as 30 true, .call false [] (.o (.c (.v (.bool v9)))) [] [], .as 36 false] [.keep [0, 1, 2, 3, 4, 5, 8, 10] [902, 903, 904, 905, 0]] (And.intro h2 (And.intro (impl_runs_ok a2 a0 s1 v3 h4) (And.intro h5 (And.intro (impl_starts_ok a2 (Trip.mk ((Trip.mk a0 s1).Leg) ((Trip.mk a0 s1).Day)) v6 h7) (And.intro h8 (And.intro (impl_hasTrip_ok a3 (Trip.mk ((Trip.mk a0 s1).Leg) ((Trip.mk a0 s1).Day)) v9 h10) (And.intro h11 True.intro))))))) (by kernel_rfl) (li (Sf := impl_freeOf_c1_L1_S a0 a1 a2 a3 a4 a5) (M := Mk (impl_freeOf_c1_L1 a0 a1 a2 a3 a4 a5) (impl_freeOf_c1_L1_k) r) (k := [.blk 0, .code (cAt Try.f93 [1, 1])]) (Nat.lt_succ_self m1) hK1)
      · have hE : some (Ctl.next (w64 (s1 + 1))) = some c1 := hM
        have hE := Option.some.inj hE
        subst hE
        exact pc R 9999 [.as 13 true, .new 1, .call false [] (.o (.c (.v (.bool v3)))) [] [], .as 23 true, .call false [] (.o (.c (.v (.int .i64 v6)))) [] [], .as 30 false] [.keep [0, 1, 2, 3, 4, 5, 8, 10] [902, 903, 904, 905, 0]] (And.intro h2 (And.intro (impl_runs_ok a2 a0 s1 v3 h4) (And.intro h5 (And.intro (impl_starts_ok a2 (Trip.mk ((Trip.mk a0 s1).Leg) ((Trip.mk a0 s1).Day)) v6 h7) (And.intro h8 True.intro))))) (by kernel_rfl) (li (Sf := impl_freeOf_c1_L1_S a0 a1 a2 a3 a4 a5) (M := Mk (impl_freeOf_c1_L1 a0 a1 a2 a3 a4 a5) (impl_freeOf_c1_L1_k) r) (k := [.blk 0, .code (cAt Try.f93 [1, 1])]) (Nat.lt_succ_self m1) hK1)
    · have hE : some (Ctl.next (w64 (s1 + 1))) = some c1 := hM
      have hE := Option.some.inj hE
      subst hE
      exact pc R 9999 [.as 13 true, .new 1, .call false [] (.o (.c (.v (.bool v3)))) [] [], .as 23 false] [.keep [0, 1, 2, 3, 4, 5, 8, 10] [902, 903, 904, 905, 0]] (And.intro h2 (And.intro (impl_runs_ok a2 a0 s1 v3 h4) (And.intro h5 True.intro))) (by kernel_rfl) (li (Sf := impl_freeOf_c1_L1_S a0 a1 a2 a3 a4 a5) (M := Mk (impl_freeOf_c1_L1 a0 a1 a2 a3 a4 a5) (impl_freeOf_c1_L1_k) r) (k := [.blk 0, .code (cAt Try.f93 [1, 1])]) (Nat.lt_succ_self m1) hK1)
  · have hE : some (Ctl.brk ()) = some c1 := hM
    have hE := Option.some.inj hE
    subst hE
    exact pc R 5 [.as 13 false] [.keep [2, 3, 4, 5, 8] [902, 903, 904, 905, 0]] (And.intro h2 True.intro) (by kernel_rfl) (K1 () hK1)

-- loop.example/g03014/impl.NextFree
def impl_NextFree (a0 : Network) (a1 : (List Booking)) (a2 : (List Trip)) (a3 : Int) (a4 : Int) (a5 : Int) : Option (Trip × Bool) :=
  (impl_AreBookings a0 a1).bind fun v1 =>
  bif (!v1) then
  some ((Trip.mk ((Trip.mk 0 0).Leg) ((Trip.mk 0 0).Day)), false)
  else
  bif (decide (a5 < 1)) then
  some ((Trip.mk ((Trip.mk 0 0).Leg) ((Trip.mk 0 0).Day)), false)
  else
  (impl_freeOf a0 a1 a2 a5).bind fun v5 =>
  (impl_freeOf_c1 a3 a4 v5.1 v5.2.1 v5.2.2.1 v5.2.2.2).bind fun v7 =>
  some (v7.1, v7.2)
theorem impl_NextFree_ok (a0 : Network) (a1 : (List Booking)) (a2 : (List Trip)) (a3 : Int) (a4 : Int) (a5 : Int) (r : Trip × Bool) (hM : impl_NextFree a0 a1 a2 a3 a4 a5 = some r) :
    Con Try.prog 53 [.agg [.rs 6 (a0.Legs.map Leg.enc), .rs 1 (a0.Off.map encI), .v (.int .i64 a0.Change)], .c (.rs 4 (a1.map Booking.enc)), .c (.rs 2 (a2.map Trip.enc)), .c (.v (.int .i64 a3)), .c (.v (.int .i64 a4)), .c (.v (.int .i64 a5))] [] (.tup [.c (.v (.agg (Trip.enc r.1).toArray)), .c (.v (.bool r.2))]) [] [] := by
  unfold impl_NextFree at hM
  refine cn (N := 38) (pids := []) Try_mixed Try.func53 (by kernel_rfl) (by kernel_rfl) (by kernel_rfl) rfl fun ρ g w R => ?_
  obtain ⟨v1, h2, hM⟩ := bind_some hM
  rcases cond_cases hM with ⟨h3, hM⟩ | ⟨h3, hM⟩
  · have hE : some ((Trip.mk ((Trip.mk 0 0).Leg) ((Trip.mk 0 0).Day)), false) = some r := hM
    have hE := Option.some.inj hE
    subst hE
    exact pr R 9999 [.new 0, .new 1, .call false [] (.o (.c (.v (.bool v1)))) [] [], .as 20 true] [] [] [] (And.intro (impl_AreBookings_ok a0 a1 v1 h2) (And.intro h3 True.intro)) (by kernel_rfl)
  · rcases cond_cases hM with ⟨h4, hM⟩ | ⟨h4, hM⟩
    · have hE : some ((Trip.mk ((Trip.mk 0 0).Leg) ((Trip.mk 0 0).Day)), false) = some r := hM
      have hE := Option.some.inj hE
      subst hE
      exact pr R 9999 [.new 0, .new 1, .call false [] (.o (.c (.v (.bool v1)))) [] [], .as 20 false, .as 23 true] [] [] [] (And.intro (impl_AreBookings_ok a0 a1 v1 h2) (And.intro h3 (And.intro h4 True.intro))) (by kernel_rfl)
    · obtain ⟨v5, h6, hM⟩ := bind_some hM
      obtain ⟨v7, h8, hM⟩ := bind_some hM
      have hE : some (v7.1, v7.2) = some r := hM
      have hE := Option.some.inj hE
      subst hE
      exact pr R 9999 [.new 0, .new 1, .call false [] (.o (.c (.v (.bool v1)))) [] [], .as 20 false, .as 23 false, .call true [] (.o (.c (.fn 93 [2, 3, 4, 5]))) [] [(2, .box 54 [.rs 6 (v5.1.Legs.map Leg.enc), .rs 1 (v5.1.Off.map encI), .v (.int .i64 v5.1.Change)]), (3, .box 40 [.rs 2 (v5.2.1.map Trip.enc)]), (4, .box 29 [.rs 4 (v5.2.2.1.map Booking.enc)]), (5, .box 3 [.v (.int .i64 v5.2.2.2)])], .ad (.keep [0, 1, 2, 3, 4, 5, 6, 12, 13, 16, 17, 18, 19, 20, 21, 22, 23, 26, 27, 28, 29, 30, 31, 32] [2, 3, 4, 5, 0, 1]), .call true [2, 3, 4, 5] (.tup [.c (.v (.agg (Trip.enc v7.1).toArray)), .c (.v (.bool v7.2))]) [(2, .box 54 [.rs 6 (v5.1.Legs.map Leg.enc), .rs 1 (v5.1.Off.map encI), .v (.int .i64 v5.1.Change)]), (3, .box 40 [.rs 2 (v5.2.1.map Trip.enc)]), (4, .box 29 [.rs 4 (v5.2.2.1.map Booking.enc)]), (5, .box 3 [.v (.int .i64 v5.2.2.2)])] [], .new 6] [] [] [] (And.intro (impl_AreBookings_ok a0 a1 v1 h2) (And.intro h3 (And.intro h4 (And.intro (And.intro (con_sw 1003 5 (con_sw 1002 4 (con_sw 1001 3 (con_sw 1000 2 (impl_freeOf_ok a0 a1 a2 a5 v5 h6))))) (rfl : ([] : List Nat) = [])) (And.intro (And.intro (con_sw 905 5 (con_sw 904 4 (con_sw 903 3 (con_sw 902 2 (impl_freeOf_c1_ok a3 a4 v5.1 v5.2.1 v5.2.2.1 v5.2.2.2 v7 h8))))) (rfl : ([2, 3, 4, 5] : List Nat) = [2, 3, 4, 5])) True.intro))))) (by kernel_rfl)
end Go.Sx
