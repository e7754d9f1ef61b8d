/- The functions of the program as plain Lean, and that each runs so (printed by wip/gen). -/
import Derived.Test.YtnefegnodjaldaaGfW1
namespace Go.Sx
open Go.Proofs
set_option linter.unusedVariables false
set_option maxRecDepth 100000

-- loop.example/g03014/impl.lastLeg
def impl_lastLeg_at1fn83_x4 (a0 : Network) (a1 : (Network)) (a2 : (List ByteArray)) (a3 : (List Int)) (a4 : ByteArray) (a5 : Int) (a6 : Int) (s1 : Int) (v17 : (Trip × Bool)) : St := ⟨[(1, .o (.c (.fn 83 [901]))), (2, .o (.c (.rs 1 (a2.map encS)))), (3, .o (.c (.rs 1 (a3.map encI)))), (4, .o (.c (.v (.string a4)))), (5, .o (.c (.v (.int .i64 a5)))), (6, .o (.c (.v (.int .i64 a6)))), (7, .o (.c (.ptr 0 0))), (14, .o (.c (.ptr 1 0))), (19, .o (.c (.ptr 3 0))), (20, .o (.c (.v (.bool v17.2)))), (22, .o (.c (.rs 6 (a0.Legs.map Leg.enc)))), (23, .o (.c (.v (.int .i64 (a0.Legs.length : Int))))), (24, .o (.c (.v (.int .i64 s1))))], [(901, .box 32 [.rs 6 (a1.Legs.map Leg.enc), .rs 1 (a1.Off.map encI), .v (.int .i64 a1.Change)]), (0, .box 32 [.rs 6 (a0.Legs.map Leg.enc), .rs 1 (a0.Off.map encI), .v (.int .i64 a0.Change)]), (1, .box 46 [.v (.int .i64 0), .v (.int .i64 0)]), (3, .box 46 [.v (.int .i64 v17.1.Leg), .v (.int .i64 v17.1.Day)])]⟩
def impl_lastLeg_at1fn83_s4 (a0 : Network) (a1 : (Network)) (a2 : (List ByteArray)) (a3 : (List Int)) (a4 : ByteArray) (a5 : Int) (a6 : Int) (s1 : Int) (v3 : Leg) (v5 : Int) : St := ⟨[(1, .o (.c (.fn 83 [901]))), (2, .o (.c (.rs 1 (a2.map encS)))), (3, .o (.c (.rs 1 (a3.map encI)))), (4, .o (.c (.v (.string a4)))), (5, .o (.c (.v (.int .i64 a5)))), (6, .o (.c (.v (.int .i64 a6)))), (7, .o (.c (.ptr 0 0))), (14, .o (.c (.ptr 1 0))), (16, .o (.c (.v (.int .i64 s1)))), (17, .o (.c (.ptr 2 0))), (18, .o (.c (.v (.int .i64 v5)))), (22, .o (.c (.rs 6 (a0.Legs.map Leg.enc)))), (23, .o (.c (.v (.int .i64 (a0.Legs.length : Int))))), (24, .o (.c (.v (.int .i64 s1))))], [(901, .box 32 [.rs 6 (a1.Legs.map Leg.enc), .rs 1 (a1.Off.map encI), .v (.int .i64 a1.Change)]), (0, .box 32 [.rs 6 (a0.Legs.map Leg.enc), .rs 1 (a0.Off.map encI), .v (.int .i64 a0.Change)]), (1, .box 46 [.v (.int .i64 0), .v (.int .i64 0)]), (2, .box 66 [.v (.string v3.From), .v (.string v3.To), .v (.int .i64 v3.Start), .v (.int .i64 v3.Takes), .v (.int .i64 v3.Days), .v (.int .i64 v3.Room)])]⟩
def impl_lastLeg_at1fn83_o4 (a1 : (Network)) (v13 : Int) (v15 : Int) (v17 : (Trip × Bool)) : List (List Orc) := [[], [], [], [], [], [.ix (encI v13)], [], [], [], [], [], [.call false [] (.o (.c (.v (.int .i64 v15)))) [] []], [.call true [901] (.tup [.c (.v (.agg (Trip.enc v17.1).toArray)), .c (.v (.bool v17.2))]) [(901, .box 32 [.rs 6 (a1.Legs.map Leg.enc), .rs 1 (a1.Off.map encI), .v (.int .i64 a1.Change)])] []], [], [], [], [.new 3], [], []]
theorem impl_lastLeg_at1fn83_y4 (a0 : Network) (a1 : (Network)) (a2 : (List ByteArray)) (a3 : (List Int)) (a4 : ByteArray) (a5 : Int) (a6 : Int) (s1 : Int) (v3 : Leg) (v5 : Int) (v13 : Int) (v15 : Int) (v17 : (Trip × Bool)) (L : List Nat) : subX Try.prog [901] 74 (opsOf (cAt Try.f82 [1, 0, 1, 0, 0, 1, 1, 0, 0, 1, 1, 1, 0])) (impl_lastLeg_at1fn83_o4 a1 v13 v15 v17) L (impl_lastLeg_at1fn83_s4 a0 a1 a2 a3 a4 a5 a6 s1 v3 v5) = subX Try.prog [901] 74 (opsOf (cAt Try.f82 [1, 0, 1, 0, 0, 1, 1, 0, 0, 1, 1, 1, 0])) (impl_lastLeg_at1fn83_o4 a1 v13 v15 v17) L (impl_lastLeg_at1fn83_s4 a0 a1 a2 a3 a4 a5 a6 s1 v3 v5) := rfl
def impl_lastLeg_at1fn83_j1 (a0 : Network) (a6 : Int) (s1 : Int) (v17 : (Trip × Bool)) : Option (Ctl Int Unit (Trip × Bool)) :=
  bif v17.2 then
  (impl_ends a0 v17.1).bind fun v20 =>
  bif (v20 == a6) then
  some (.ret (v17.1, true))
  else
  some (.next (w64 (s1 + 1)))
  else
  some (.next (w64 (s1 + 1)))
def impl_lastLeg_at1fn83_L1_b (a0 : Network) (a1 : (Network)) (a2 : (List ByteArray)) (a3 : (List Int)) (a4 : ByteArray) (a5 : Int) (a6 : Int) (s1 : Int) : Option (Ctl Int Unit (Trip × Bool)) :=
  bif (decide (s1 < (a0.Legs.length : Int))) then
  (gi a0.Legs s1).bind fun v3 =>
  (impl_placeAt a2 v3.From).bind fun v5 =>
  (gi a2 a5).bind fun v7 =>
  bif (!(v3.To.toList == v7.toList)) then
  some (.next (w64 (s1 + 1)))
  else
  (gi a3 v5).bind fun v10 =>
  bif (decide (v10 < 0)) then
  some (.next (w64 (s1 + 1)))
  else
  (gi a3 v5).bind fun v13 =>
  (impl_readyAt a0 v13 (v3.From.toList == a4.toList)).bind fun v15 =>
  (impl_nextOf_c1 s1 v15 a1).bind fun v17 =>
  impl_lastLeg_at1fn83_j1 a0 a6 s1 v17
  else
  some (.brk ())
def impl_lastLeg_at1fn83_L1 (a0 : Network) (a1 : (Network)) (a2 : (List ByteArray)) (a3 : (List Int)) (a4 : ByteArray) (a5 : Int) (a6 : Int) (s : Int) : Option (Ctl Int Unit (Trip × Bool)) := impl_lastLeg_at1fn83_L1_b a0 a1 a2 a3 a4 a5 a6 s
def impl_lastLeg_at1fn83_L1_s (a0 : Network) (a1 : (Network)) (a2 : (List ByteArray)) (a3 : (List Int)) (a4 : ByteArray) (a5 : Int) (a6 : Int) (s1 : Int) : St := ⟨[(1, .o (.c (.fn 83 [901]))), (2, .o (.c (.rs 1 (a2.map encS)))), (3, .o (.c (.rs 1 (a3.map encI)))), (4, .o (.c (.v (.string a4)))), (5, .o (.c (.v (.int .i64 a5)))), (6, .o (.c (.v (.int .i64 a6)))), (7, .o (.c (.ptr 0 0))), (14, .o (.c (.ptr 1 0))), (22, .o (.c (.rs 6 (a0.Legs.map Leg.enc)))), (23, .o (.c (.v (.int .i64 (a0.Legs.length : Int))))), (24, .o (.c (.v (.int .i64 s1))))], [(901, .box 32 [.rs 6 (a1.Legs.map Leg.enc), .rs 1 (a1.Off.map encI), .v (.int .i64 a1.Change)]), (0, .box 32 [.rs 6 (a0.Legs.map Leg.enc), .rs 1 (a0.Off.map encI), .v (.int .i64 a0.Change)]), (1, .box 46 [.v (.int .i64 0), .v (.int .i64 0)])]⟩
def impl_lastLeg_at1fn83_L1_S (a0 : Network) (a1 : (Network)) (a2 : (List ByteArray)) (a3 : (List Int)) (a4 : ByteArray) (a5 : Int) (a6 : Int) (s : Int) : St := impl_lastLeg_at1fn83_L1_s a0 a1 a2 a3 a4 a5 a6 s
def impl_lastLeg_at1fn83_L1_a : Option (Trip × Bool) :=
  some ((Trip.mk ((Trip.mk 0 0).Leg) ((Trip.mk 0 0).Day)), false)
def impl_lastLeg_at1fn83_L1_k (x : (Unit) ⊕ (Trip × Bool)) : Option (Trip × Bool) := match x with
  | .inl t => impl_lastLeg_at1fn83_L1_a
  | .inr y => some y
def impl_lastLeg_at1fn83 (a0 : Network) (a1 : (Network)) (a2 : (List ByteArray)) (a3 : (List Int)) (a4 : ByteArray) (a5 : Int) (a6 : Int) : Option (Trip × Bool) :=
  (loopM (impl_lastLeg_at1fn83_L1 a0 a1 a2 a3 a4 a5 a6) big 0).bind (impl_lastLeg_at1fn83_L1_k)
theorem impl_lastLeg_at1fn83_ok (a0 : Network) (a1 : (Network)) (a2 : (List ByteArray)) (a3 : (List Int)) (a4 : ByteArray) (a5 : Int) (a6 : Int) (r : Trip × Bool) (hM : impl_lastLeg_at1fn83 a0 a1 a2 a3 a4 a5 a6 = some r) :
    Con Try.prog 82 [.agg [.rs 6 (a0.Legs.map Leg.enc), .rs 1 (a0.Off.map encI), .v (.int .i64 a0.Change)], .c (.fn 83 [901]), .c (.rs 1 (a2.map encS)), .c (.rs 1 (a3.map encI)), .c (.v (.string a4)), .c (.v (.int .i64 a5)), .c (.v (.int .i64 a6))] [(901, .box 32 [.rs 6 (a1.Legs.map Leg.enc), .rs 1 (a1.Off.map encI), .v (.int .i64 a1.Change)])] (.tup [.c (.v (.agg (Trip.enc r.1).toArray)), .c (.v (.bool r.2))]) [(901, .box 32 [.rs 6 (a1.Legs.map Leg.enc), .rs 1 (a1.Off.map encI), .v (.int .i64 a1.Change)])] [] := by
  unfold impl_lastLeg_at1fn83 at hM
  refine cn (N := 74) (pids := [901]) Try_mixed Try.func82 (by kernel_rfl) (by kernel_rfl) (by kernel_rfl) rfl fun ρ g w R => ?_
  have K1 : ∀ (_ : Unit), impl_lastLeg_at1fn83_L1_a = some r → Gr R [.code (cAt Try.f82 [1, 1])] (⟨[(1, .o (.c (.fn 83 [901]))), (14, .o (.c (.ptr 1 0)))], [(901, .box 32 [.rs 6 (a1.Legs.map Leg.enc), .rs 1 (a1.Off.map encI), .v (.int .i64 a1.Change)]), (1, .box 46 [.v (.int .i64 0), .v (.int .i64 0)])]⟩) := by
    intro _ hM
    unfold impl_lastLeg_at1fn83_L1_a at hM
    have hE : some ((Trip.mk ((Trip.mk 0 0).Leg) ((Trip.mk 0 0).Day)), false) = some r := hM
    have hE := Option.some.inj hE
    subst hE
    exact pr R 9999 [] [] [901] [] True.intro (by kernel_rfl)
  refine pc R 9999 [.new 0, .new 1, .ln (a0.Legs.length)] [.keep [1, 2, 3, 4, 5, 6, 7, 14, 22, 23, 24] [901, 0, 1]] (k' := [.code (.loop (cAt Try.f82 [1, 0, 1, 0, 0])), .blk 0, .code (cAt Try.f82 [1, 1])]) (S' := impl_lastLeg_at1fn83_L1_S a0 a1 a2 a3 a4 a5 a6 0) (And.intro (lenm Leg.enc a0.Legs) True.intro) (by kernel_rfl) ?_
  refine lq (impl_lastLeg_at1fn83_L1_S a0 a1 a2 a3 a4 a5 a6) (body := impl_lastLeg_at1fn83_L1 a0 a1 a2 a3 a4 a5 a6) (k := impl_lastLeg_at1fn83_L1_k) hM fun m1 s c1 hM hK1 => ?_
  obtain ⟨s1, hs⟩ : ∃ z, z = s := ⟨_, rfl⟩
  subst hs
  have hM : impl_lastLeg_at1fn83_L1_b a0 a1 a2 a3 a4 a5 a6 s1 = some c1 := hM
  unfold impl_lastLeg_at1fn83_L1_b at hM
  rcases cond_cases hM with ⟨h2, hM⟩ | ⟨h2, hM⟩
  · obtain ⟨v3, h4, hM⟩ := bind_some hM
    obtain ⟨v5, h6, hM⟩ := bind_some hM
    obtain ⟨v7, h8, hM⟩ := bind_some hM
    rcases cond_cases hM with ⟨h9, hM⟩ | ⟨h9, hM⟩
    · have hE : some (Ctl.next (w64 (s1 + 1))) = some c1 := hM
      have hE := Option.some.inj hE
      subst hE
      exact pc R 9999 [.as 25 true, .ix (Leg.enc v3), .new 2, .call false [] (.o (.c (.v (.int .i64 v5)))) [] [], .ix (encS v7), .as 40 true] [.keep [1, 2, 3, 4, 5, 6, 7, 14, 22, 23, 24] [901, 0, 1]] (And.intro h2 (And.intro (gi_map Leg.enc h4) (And.intro (impl_placeAt_ok a2 v3.From v5 h6) (And.intro (gi_map encS h8) (And.intro h9 True.intro))))) (by kernel_rfl) (li (Sf := impl_lastLeg_at1fn83_L1_S a0 a1 a2 a3 a4 a5 a6) (M := Mk (impl_lastLeg_at1fn83_L1 a0 a1 a2 a3 a4 a5 a6) (impl_lastLeg_at1fn83_L1_k) r) (k := [.blk 0, .code (cAt Try.f82 [1, 1])]) (Nat.lt_succ_self m1) hK1)
    · obtain ⟨v10, h11, hM⟩ := bind_some hM
      rcases cond_cases hM with ⟨h12, hM⟩ | ⟨h12, hM⟩
      · have hE : some (Ctl.next (w64 (s1 + 1))) = some c1 := hM
        have hE := Option.some.inj hE
        subst hE
        exact pc R 9999 [.as 25 true, .ix (Leg.enc v3), .new 2, .call false [] (.o (.c (.v (.int .i64 v5)))) [] [], .ix (encS v7), .as 40 false, .ix (encI v10), .as 46 true] [.keep [1, 2, 3, 4, 5, 6, 7, 14, 22, 23, 24] [901, 0, 1]] (And.intro h2 (And.intro (gi_map Leg.enc h4) (And.intro (impl_placeAt_ok a2 v3.From v5 h6) (And.intro (gi_map encS h8) (And.intro h9 (And.intro (gi_map encI h11) (And.intro h12 True.intro))))))) (by kernel_rfl) (li (Sf := impl_lastLeg_at1fn83_L1_S a0 a1 a2 a3 a4 a5 a6) (M := Mk (impl_lastLeg_at1fn83_L1 a0 a1 a2 a3 a4 a5 a6) (impl_lastLeg_at1fn83_L1_k) r) (k := [.blk 0, .code (cAt Try.f82 [1, 1])]) (Nat.lt_succ_self m1) hK1)
      · obtain ⟨v13, h14, hM⟩ := bind_some hM
        obtain ⟨v15, h16, hM⟩ := bind_some hM
        obtain ⟨v17, h18, hM⟩ := bind_some hM
        have J1 : ∀ (_ : Unit), impl_lastLeg_at1fn83_j1 a0 a6 s1 v17 = some c1 → Gr R [.code (cAt Try.f82 [1, 0, 1, 0, 0, 1, 1, 0, 0, 1, 1, 1, 1]), .blk 1, .code (cAt Try.f82 [1, 0, 1, 0, 0, 1, 1, 1]), .inv (Jr R (impl_lastLeg_at1fn83_L1_S a0 a1 a2 a3 a4 a5 a6) (Mk (impl_lastLeg_at1fn83_L1 a0 a1 a2 a3 a4 a5 a6) (impl_lastLeg_at1fn83_L1_k) r) (m1 + 1)), .blk 0, .code (cAt Try.f82 [1, 1])] (impl_lastLeg_at1fn83_x4 a0 a1 a2 a3 a4 a5 a6 s1 v17) := by
          intro _ hM
          unfold impl_lastLeg_at1fn83_j1 at hM
          rcases cond_cases hM with ⟨h19, hM⟩ | ⟨h19, hM⟩
          · obtain ⟨v20, h21, hM⟩ := bind_some hM
            rcases cond_cases hM with ⟨h22, hM⟩ | ⟨h22, hM⟩
            · have hE : some (Ctl.ret (v17.1, true)) = some c1 := hM
              have hE := Option.some.inj hE
              subst hE
              have hE : some (v17.1, true) = some r := hK1
              have hE := Option.some.inj hE
              subst hE
              exact pr R 9999 [.as 64 true, .call false [] (.o (.c (.v (.int .i64 v20)))) [] [], .as 70 true] [] [901] [] (And.intro h19 (And.intro (impl_ends_ok a0 v17.1 v20 h21) (And.intro h22 True.intro))) (by kernel_rfl)
            · have hE : some (Ctl.next (w64 (s1 + 1))) = some c1 := hM
              have hE := Option.some.inj hE
              subst hE
              exact pc R 9999 [.as 64 true, .call false [] (.o (.c (.v (.int .i64 v20)))) [] [], .as 70 false] [.keep [1, 2, 3, 4, 5, 6, 7, 14, 22, 23, 24] [901, 0, 1]] (And.intro h19 (And.intro (impl_ends_ok a0 v17.1 v20 h21) (And.intro h22 True.intro))) (by kernel_rfl) (li (Sf := impl_lastLeg_at1fn83_L1_S a0 a1 a2 a3 a4 a5 a6) (M := Mk (impl_lastLeg_at1fn83_L1 a0 a1 a2 a3 a4 a5 a6) (impl_lastLeg_at1fn83_L1_k) r) (k := [.blk 0, .code (cAt Try.f82 [1, 1])]) (Nat.lt_succ_self m1) hK1)
          · have hE : some (Ctl.next (w64 (s1 + 1))) = some c1 := hM
            have hE := Option.some.inj hE
            subst hE
            exact pc R 9999 [.as 64 false] [.keep [1, 2, 3, 4, 5, 6, 7, 14, 22, 23, 24] [901, 0, 1]] (And.intro h19 True.intro) (by kernel_rfl) (li (Sf := impl_lastLeg_at1fn83_L1_S a0 a1 a2 a3 a4 a5 a6) (M := Mk (impl_lastLeg_at1fn83_L1 a0 a1 a2 a3 a4 a5 a6) (impl_lastLeg_at1fn83_L1_k) r) (k := [.blk 0, .code (cAt Try.f82 [1, 1])]) (Nat.lt_succ_self m1) hK1)
        exact pc R 18 [.as 25 true, .ix (Leg.enc v3), .new 2, .call false [] (.o (.c (.v (.int .i64 v5)))) [] [], .ix (encS v7), .as 40 false, .ix (encI v10), .as 46 false, .xg (impl_lastLeg_at1fn83_o4 a1 v13 v15 v17) [.keep [1, 2, 3, 4, 5, 6, 7, 14, 16, 17, 18, 22, 23, 24] [901, 0, 1, 2]] [.keep [1, 2, 3, 4, 5, 6, 7, 14, 19, 20, 22, 23, 24] [901, 0, 1, 3]] (impl_lastLeg_at1fn83_x4 a0 a1 a2 a3 a4 a5 a6 s1 v17) [[0, 1, 3, 4, 5, 7, 9], [0, 1, 2, 3, 4, 5, 7, 9], [0, 1, 3, 4, 5, 6, 7, 9], [0, 1, 3, 4, 5, 7, 8, 9, 10], [0, 1, 3, 4, 5, 7, 9, 16], [0, 1, 2, 3, 4, 5, 6, 7, 9], [0, 1, 2, 3, 4, 5, 7, 8, 9, 10], [0, 1, 2, 3, 4, 5, 7, 9, 16], [0, 1, 3, 4, 5, 6, 7, 8, 9, 10], [0, 1, 3, 4, 5, 6, 7, 9, 16], [0, 1, 3, 4, 5, 7, 8, 9, 10, 16], [0, 1, 2, 3, 4, 5, 6, 7, 8, 9, 10], [0, 1, 2, 3, 4, 5, 6, 7, 9, 16], [0, 1, 2, 3, 4, 5, 7, 8, 9, 10, 16], [0, 1, 3, 4, 5, 6, 7, 8, 9, 10, 16], [0, 1, 2, 3, 4, 5, 6, 7, 8, 9, 10, 11], [0, 1, 2, 3, 4, 5, 6, 7, 8, 9, 10, 16], [0, 1, 2, 3, 4, 5, 6, 7, 8, 9, 10, 11, 12, 13, 14, 15], [0, 1, 2, 3, 4, 5, 6, 7, 8, 9, 10, 11, 16], [0, 1, 2, 3, 4, 5, 6, 7, 8, 9, 10, 11, 12, 13, 14, 15, 16]]] [] (And.intro h2 (And.intro (gi_map Leg.enc h4) (And.intro (impl_placeAt_ok a2 v3.From v5 h6) (And.intro (gi_map encS h8) (And.intro h9 (And.intro (gi_map encI h11) (And.intro h12 (And.intro (gi_map encI h14) (And.intro (impl_lastLeg_at1fn83_y4 a0 a1 a2 a3 a4 a5 a6 s1 v3 v5 v13 v15 v17 [0, 1, 3, 4, 5, 7, 9]) (And.intro (impl_lastLeg_at1fn83_y4 a0 a1 a2 a3 a4 a5 a6 s1 v3 v5 v13 v15 v17 [0, 1, 2, 3, 4, 5, 7, 9]) (And.intro (impl_lastLeg_at1fn83_y4 a0 a1 a2 a3 a4 a5 a6 s1 v3 v5 v13 v15 v17 [0, 1, 3, 4, 5, 6, 7, 9]) (And.intro (impl_lastLeg_at1fn83_y4 a0 a1 a2 a3 a4 a5 a6 s1 v3 v5 v13 v15 v17 [0, 1, 3, 4, 5, 7, 8, 9, 10]) (And.intro (impl_lastLeg_at1fn83_y4 a0 a1 a2 a3 a4 a5 a6 s1 v3 v5 v13 v15 v17 [0, 1, 3, 4, 5, 7, 9, 16]) (And.intro (impl_lastLeg_at1fn83_y4 a0 a1 a2 a3 a4 a5 a6 s1 v3 v5 v13 v15 v17 [0, 1, 2, 3, 4, 5, 6, 7, 9]) (And.intro (impl_lastLeg_at1fn83_y4 a0 a1 a2 a3 a4 a5 a6 s1 v3 v5 v13 v15 v17 [0, 1, 2, 3, 4, 5, 7, 8, 9, 10]) (And.intro (impl_lastLeg_at1fn83_y4 a0 a1 a2 a3 a4 a5 a6 s1 v3 v5 v13 v15 v17 [0, 1, 2, 3, 4, 5, 7, 9, 16]) (And.intro (impl_lastLeg_at1fn83_y4 a0 a1 a2 a3 a4 a5 a6 s1 v3 v5 v13 v15 v17 [0, 1, 2, 3, 4, 5, 6, 7, 9]) (And.intro (impl_lastLeg_at1fn83_y4 a0 a1 a2 a3 a4 a5 a6 s1 v3 v5 v13 v15 v17 [0, 1, 3, 4, 5, 6, 7, 8, 9, 10]) (And.intro (impl_lastLeg_at1fn83_y4 a0 a1 a2 a3 a4 a5 a6 s1 v3 v5 v13 v15 v17 [0, 1, 3, 4, 5, 6, 7, 9, 16]) (And.intro (impl_lastLeg_at1fn83_y4 a0 a1 a2 a3 a4 a5 a6 s1 v3 v5 v13 v15 v17 [0, 1, 2, 3, 4, 5, 7, 8, 9, 10]) (And.intro (impl_lastLeg_at1fn83_y4 a0 a1 a2 a3 a4 a5 a6 s1 v3 v5 v13 v15 v17 [0, 1, 3, 4, 5, 6, 7, 8, 9, 10]) (And.intro (impl_lastLeg_at1fn83_y4 a0 a1 a2 a3 a4 a5 a6 s1 v3 v5 v13 v15 v17 [0, 1, 3, 4, 5, 7, 8, 9, 10, 16]) (And.intro (impl_lastLeg_at1fn83_y4 a0 a1 a2 a3 a4 a5 a6 s1 v3 v5 v13 v15 v17 [0, 1, 2, 3, 4, 5, 7, 9, 16]) (And.intro (impl_lastLeg_at1fn83_y4 a0 a1 a2 a3 a4 a5 a6 s1 v3 v5 v13 v15 v17 [0, 1, 3, 4, 5, 6, 7, 9, 16]) (And.intro (impl_lastLeg_at1fn83_y4 a0 a1 a2 a3 a4 a5 a6 s1 v3 v5 v13 v15 v17 [0, 1, 3, 4, 5, 7, 8, 9, 10, 16]) (And.intro (impl_lastLeg_at1fn83_y4 a0 a1 a2 a3 a4 a5 a6 s1 v3 v5 v13 v15 v17 [0, 1, 2, 3, 4, 5, 6, 7, 8, 9, 10]) (And.intro (impl_lastLeg_at1fn83_y4 a0 a1 a2 a3 a4 a5 a6 s1 v3 v5 v13 v15 v17 [0, 1, 2, 3, 4, 5, 6, 7, 9, 16]) (And.intro (impl_lastLeg_at1fn83_y4 a0 a1 a2 a3 a4 a5 a6 s1 v3 v5 v13 v15 v17 [0, 1, 2, 3, 4, 5, 6, 7, 8, 9, 10]) (And.intro (impl_lastLeg_at1fn83_y4 a0 a1 a2 a3 a4 a5 a6 s1 v3 v5 v13 v15 v17 [0, 1, 2, 3, 4, 5, 7, 8, 9, 10, 16]) (And.intro (impl_lastLeg_at1fn83_y4 a0 a1 a2 a3 a4 a5 a6 s1 v3 v5 v13 v15 v17 [0, 1, 2, 3, 4, 5, 6, 7, 9, 16]) (And.intro (impl_lastLeg_at1fn83_y4 a0 a1 a2 a3 a4 a5 a6 s1 v3 v5 v13 v15 v17 [0, 1, 2, 3, 4, 5, 7, 8, 9, 10, 16]) (And.intro (impl_lastLeg_at1fn83_y4 a0 a1 a2 a3 a4 a5 a6 s1 v3 v5 v13 v15 v17 [0, 1, 2, 3, 4, 5, 6, 7, 8, 9, 10]) (And.intro (impl_lastLeg_at1fn83_y4 a0 a1 a2 a3 a4 a5 a6 s1 v3 v5 v13 v15 v17 [0, 1, 3, 4, 5, 6, 7, 8, 9, 10, 16]) (And.intro (impl_lastLeg_at1fn83_y4 a0 a1 a2 a3 a4 a5 a6 s1 v3 v5 v13 v15 v17 [0, 1, 2, 3, 4, 5, 6, 7, 9, 16]) (And.intro (impl_lastLeg_at1fn83_y4 a0 a1 a2 a3 a4 a5 a6 s1 v3 v5 v13 v15 v17 [0, 1, 3, 4, 5, 6, 7, 8, 9, 10, 16]) (And.intro (impl_lastLeg_at1fn83_y4 a0 a1 a2 a3 a4 a5 a6 s1 v3 v5 v13 v15 v17 [0, 1, 2, 3, 4, 5, 7, 8, 9, 10, 16]) (And.intro (impl_lastLeg_at1fn83_y4 a0 a1 a2 a3 a4 a5 a6 s1 v3 v5 v13 v15 v17 [0, 1, 3, 4, 5, 6, 7, 8, 9, 10, 16]) (And.intro (impl_readyAt_ok a0 v13 (v3.From.toList == a4.toList) v15 h16) (And.intro (impl_lastLeg_at1fn83_y4 a0 a1 a2 a3 a4 a5 a6 s1 v3 v5 v13 v15 v17 [0, 1, 2, 3, 4, 5, 6, 7, 8, 9, 10, 11]) (And.intro (impl_lastLeg_at1fn83_y4 a0 a1 a2 a3 a4 a5 a6 s1 v3 v5 v13 v15 v17 [0, 1, 2, 3, 4, 5, 6, 7, 8, 9, 10, 16]) (And.intro (impl_lastLeg_at1fn83_y4 a0 a1 a2 a3 a4 a5 a6 s1 v3 v5 v13 v15 v17 [0, 1, 2, 3, 4, 5, 6, 7, 8, 9, 10, 16]) (And.intro (impl_lastLeg_at1fn83_y4 a0 a1 a2 a3 a4 a5 a6 s1 v3 v5 v13 v15 v17 [0, 1, 2, 3, 4, 5, 6, 7, 8, 9, 10, 16]) (And.intro (impl_lastLeg_at1fn83_y4 a0 a1 a2 a3 a4 a5 a6 s1 v3 v5 v13 v15 v17 [0, 1, 2, 3, 4, 5, 6, 7, 8, 9, 10, 16]) (And.intro (And.intro (con_sw 902 901 (impl_nextOf_c1_ok s1 v15 a1 v17 h18)) (rfl : ([901] : List Nat) = [901])) (And.intro (impl_lastLeg_at1fn83_y4 a0 a1 a2 a3 a4 a5 a6 s1 v3 v5 v13 v15 v17 [0, 1, 2, 3, 4, 5, 6, 7, 8, 9, 10, 11, 12, 13, 14, 15]) (And.intro (impl_lastLeg_at1fn83_y4 a0 a1 a2 a3 a4 a5 a6 s1 v3 v5 v13 v15 v17 [0, 1, 2, 3, 4, 5, 6, 7, 8, 9, 10, 11, 16]) (And.intro (impl_readyAt_ok a0 v13 (v3.From.toList == a4.toList) v15 h16) (And.intro (impl_lastLeg_at1fn83_y4 a0 a1 a2 a3 a4 a5 a6 s1 v3 v5 v13 v15 v17 [0, 1, 2, 3, 4, 5, 6, 7, 8, 9, 10, 11, 16]) (And.intro (impl_lastLeg_at1fn83_y4 a0 a1 a2 a3 a4 a5 a6 s1 v3 v5 v13 v15 v17 [0, 1, 2, 3, 4, 5, 6, 7, 8, 9, 10, 11, 12, 13, 14, 15, 16]) (And.intro (And.intro (con_sw 902 901 (impl_nextOf_c1_ok s1 v15 a1 v17 h18)) (rfl : ([901] : List Nat) = [901])) (And.intro (impl_lastLeg_at1fn83_y4 a0 a1 a2 a3 a4 a5 a6 s1 v3 v5 v13 v15 v17 [0, 1, 2, 3, 4, 5, 6, 7, 8, 9, 10, 11, 12, 13, 14, 15, 16]) (And.intro (rfl : (impl_lastLeg_at1fn83_x4 a0 a1 a2 a3 a4 a5 a6 s1 v17) = (impl_lastLeg_at1fn83_x4 a0 a1 a2 a3 a4 a5 a6 s1 v17)) True.intro)))))))))))))))))))))))))))))))))))))))))))))))))))) (by kernel_rfl) (J1 () hM)
  · have hE : some (Ctl.brk ()) = some c1 := hM
    have hE := Option.some.inj hE
    subst hE
    exact pc R 5 [.as 25 false] [.keep [1, 14] [901, 1]] (And.intro h2 True.intro) (by kernel_rfl) (K1 () hK1)

-- loop.example/g03014/impl.wayTo
def impl_wayTo_at1fn83_L4_b (s20 : (List Trip)) (s21 : (List Trip)) (s22 : Int) : Option (Ctl ((List Trip) × Int) (List Trip) ((List Trip) × Bool)) :=
  bif (decide (s22 ≥ 0)) then
  (gi s20 s22).bind fun v25 =>
  (ap 16 s21 ([v25] : List Trip)).bind fun v27 =>
  some (.next (v27, w64 (s22 - 1)))
  else
  some (.brk s21)
def impl_wayTo_at1fn83_L4 (s20 : (List Trip)) (s : (List Trip) × Int) : Option (Ctl ((List Trip) × Int) (List Trip) ((List Trip) × Bool)) := impl_wayTo_at1fn83_L4_b s20 s.1 s.2
def impl_wayTo_at1fn83_L4_s (a1 : (Network)) (s20 : (List Trip)) (s21 : (List Trip)) (s22 : Int) : St := ⟨[(1, .o (.c (.fn 83 [901]))), (19, .o (.c (.sl 3))), (22, .o (.c (.sl 4))), (23, .o (.c (.v (.int .i64 s22))))], [(901, .box 32 [.rs 6 (a1.Legs.map Leg.enc), .rs 1 (a1.Off.map encI), .v (.int .i64 a1.Change)]), (3, .row 46 2 (s20.map Trip.enc)), (4, .row 46 2 (s21.map Trip.enc))]⟩
def impl_wayTo_at1fn83_L4_S (a1 : (Network)) (s20 : (List Trip)) (s : (List Trip) × Int) : St := impl_wayTo_at1fn83_L4_s a1 s20 s.1 s.2
def impl_wayTo_at1fn83_L4_a (s23 : (List Trip)) : Option ((List Trip) × Bool) :=
  some (s23, true)
def impl_wayTo_at1fn83_L4_k (x : ((List Trip)) ⊕ ((List Trip) × Bool)) : Option ((List Trip) × Bool) := match x with
  | .inl t => impl_wayTo_at1fn83_L4_a t
  | .inr y => some y
def impl_wayTo_at1fn83_x4 (a0 : Network) (a1 : (Network)) (a2 : ByteArray) (s7 : (List (List Int))) (s15 : (List ByteArray)) (s18 : Int) (s19 : (List Trip)) (v32 : (Trip × Bool)) : St := ⟨[(1, .o (.c (.fn 83 [901]))), (2, .o (.c (.v (.string a2)))), (5, .o (.c (.ptr 0 0))), (12, .o (.c (.rs 1 (s15.map encS)))), (14, .o (.c (.sl 2))), (18, .o (.c (.v (.int .i64 s18)))), (19, .o (.c (.sl 3))), (20, .o (.c (.ptr 7 0))), (21, .o (.c (.v (.bool v32.2))))], [(901, .box 32 [.rs 6 (a1.Legs.map Leg.enc), .rs 1 (a1.Off.map encI), .v (.int .i64 a1.Change)]), (0, .box 32 [.rs 6 (a0.Legs.map Leg.enc), .rs 1 (a0.Off.map encI), .v (.int .i64 a0.Change)]), (2, .rows 23 1 (s7.map (List.map encI))), (3, .row 46 2 (s19.map Trip.enc)), (7, .box 46 [.v (.int .i64 v32.1.Leg), .v (.int .i64 v32.1.Day)])]⟩
def impl_wayTo_at1fn83_s4 (a0 : Network) (a1 : (Network)) (a2 : ByteArray) (s7 : (List (List Int))) (s15 : (List ByteArray)) (s16 : Int) (s17 : Int) (s18 : Int) (s19 : (List Trip)) : St := ⟨[(1, .o (.c (.fn 83 [901]))), (2, .o (.c (.v (.string a2)))), (5, .o (.c (.ptr 0 0))), (12, .o (.c (.rs 1 (s15.map encS)))), (13, .o (.c (.v (.int .i64 s16)))), (14, .o (.c (.sl 2))), (17, .o (.c (.v (.int .i64 s17)))), (18, .o (.c (.v (.int .i64 s18)))), (19, .o (.c (.sl 3)))], [(901, .box 32 [.rs 6 (a1.Legs.map Leg.enc), .rs 1 (a1.Off.map encI), .v (.int .i64 a1.Change)]), (0, .box 32 [.rs 6 (a0.Legs.map Leg.enc), .rs 1 (a0.Off.map encI), .v (.int .i64 a0.Change)]), (2, .rows 23 1 (s7.map (List.map encI))), (3, .row 46 2 (s19.map Trip.enc))]⟩
def impl_wayTo_at1fn83_o4 (a1 : (Network)) (v30 : (List Int)) (v32 : (Trip × Bool)) : List (List Orc) := [[], [], [], [], [], [], [], [.nm ((List.map encI) v30)], [], [], [], [.call true [901] (.tup [.c (.v (.agg (Trip.enc v32.1).toArray)), .c (.v (.bool v32.2))]) [(901, .box 32 [.rs 6 (a1.Legs.map Leg.enc), .rs 1 (a1.Off.map encI), .v (.int .i64 a1.Change)])] []], [], [], [], [.new 7], [], []]
theorem impl_wayTo_at1fn83_y4 (a0 : Network) (a1 : (Network)) (a2 : ByteArray) (s7 : (List (List Int))) (s15 : (List ByteArray)) (s16 : Int) (s17 : Int) (s18 : Int) (s19 : (List Trip)) (v30 : (List Int)) (v32 : (Trip × Bool)) (L : List Nat) : subX Try.prog [901] 133 (opsOf (cAt Try.f42 [1, 1, 1, 1, 1, 1, 1, 1, 1, 1, 0, 0, 0, 1, 0, 0, 0])) (impl_wayTo_at1fn83_o4 a1 v30 v32) L (impl_wayTo_at1fn83_s4 a0 a1 a2 s7 s15 s16 s17 s18 s19) = subX Try.prog [901] 133 (opsOf (cAt Try.f42 [1, 1, 1, 1, 1, 1, 1, 1, 1, 1, 0, 0, 0, 1, 0, 0, 0])) (impl_wayTo_at1fn83_o4 a1 v30 v32) L (impl_wayTo_at1fn83_s4 a0 a1 a2 s7 s15 s16 s17 s18 s19) := rfl
def impl_wayTo_at1fn83_j1 (a0 : Network) (s7 : (List (List Int))) (s15 : (List ByteArray)) (s18 : Int) (s19 : (List Trip)) (v32 : (Trip × Bool)) : Option (Ctl ((List ByteArray) × Int × Int × Int × (List Trip)) (List Trip) ((List Trip) × Bool)) :=
  bif (!v32.2) then
  some (.ret (([] : List Trip), false))
  else
  (ap 16 s19 ([v32.1] : List Trip)).bind fun v35 =>
  (gi a0.Legs v32.1.Leg).bind fun v37 =>
  (impl_placeAt s15 v37.From).bind fun v39 =>
  (gi s7 (w64 (s18 - 1))).bind fun v41 =>
  (gi v41 v39).bind fun v43 =>
  some (.next (s15, v39, v43, w64 (s18 - 1), v35))
def impl_wayTo_at1fn83_L3_b (a0 : Network) (a1 : (Network)) (a2 : ByteArray) (s7 : (List (List Int))) (s15 : (List ByteArray)) (s16 : Int) (s17 : Int) (s18 : Int) (s19 : (List Trip)) : Option (Ctl ((List ByteArray) × Int × Int × Int × (List Trip)) (List Trip) ((List Trip) × Bool)) :=
  bif (decide (s18 > 0)) then
  (gi s7 (w64 (s18 - 1))).bind fun v30 =>
  (impl_lastLeg_at1fn83 a0 a1 s15 v30 a2 s16 s17).bind fun v32 =>
  impl_wayTo_at1fn83_j1 a0 s7 s15 s18 s19 v32
  else
  some (.brk s19)
def impl_wayTo_at1fn83_L3 (a0 : Network) (a1 : (Network)) (a2 : ByteArray) (s7 : (List (List Int))) (s : (List ByteArray) × Int × Int × Int × (List Trip)) : Option (Ctl ((List ByteArray) × Int × Int × Int × (List Trip)) (List Trip) ((List Trip) × Bool)) := impl_wayTo_at1fn83_L3_b a0 a1 a2 s7 s.1 s.2.1 s.2.2.1 s.2.2.2.1 s.2.2.2.2
def impl_wayTo_at1fn83_L3_s (a0 : Network) (a1 : (Network)) (a2 : ByteArray) (s7 : (List (List Int))) (s15 : (List ByteArray)) (s16 : Int) (s17 : Int) (s18 : Int) (s19 : (List Trip)) : St := ⟨[(1, .o (.c (.fn 83 [901]))), (2, .o (.c (.v (.string a2)))), (5, .o (.c (.ptr 0 0))), (12, .o (.c (.rs 1 (s15.map encS)))), (13, .o (.c (.v (.int .i64 s16)))), (14, .o (.c (.sl 2))), (17, .o (.c (.v (.int .i64 s17)))), (18, .o (.c (.v (.int .i64 s18)))), (19, .o (.c (.sl 3)))], [(901, .box 32 [.rs 6 (a1.Legs.map Leg.enc), .rs 1 (a1.Off.map encI), .v (.int .i64 a1.Change)]), (0, .box 32 [.rs 6 (a0.Legs.map Leg.enc), .rs 1 (a0.Off.map encI), .v (.int .i64 a0.Change)]), (2, .rows 23 1 (s7.map (List.map encI))), (3, .row 46 2 (s19.map Trip.enc))]⟩
def impl_wayTo_at1fn83_L3_S (a0 : Network) (a1 : (Network)) (a2 : ByteArray) (s7 : (List (List Int))) (s : (List ByteArray) × Int × Int × Int × (List Trip)) : St := impl_wayTo_at1fn83_L3_s a0 a1 a2 s7 s.1 s.2.1 s.2.2.1 s.2.2.2.1 s.2.2.2.2
def impl_wayTo_at1fn83_L3_a (s20 : (List Trip)) : Option ((List Trip) × Bool) :=
  (loopM (impl_wayTo_at1fn83_L4 s20) big (([] : List Trip), w64 ((s20.length : Int) - 1))).bind (impl_wayTo_at1fn83_L4_k)
def impl_wayTo_at1fn83_L3_k (x : ((List Trip)) ⊕ ((List Trip) × Bool)) : Option ((List Trip) × Bool) := match x with
  | .inl t => impl_wayTo_at1fn83_L3_a t
  | .inr y => some y
def impl_wayTo_at1fn83_L2_b (v3 : Int) (s7 : (List (List Int))) (v10 : Int) (s13 : Int) : Option (Ctl Int Int ((List Trip) × Bool)) :=
  (gi s7 s13).bind fun v45 =>
  (gi v45 v3).bind fun v47 =>
  bif (v47 != v10) then
  some (.next (w64 (s13 + 1)))
  else
  some (.brk s13)
def impl_wayTo_at1fn83_L2 (v3 : Int) (s7 : (List (List Int))) (v10 : Int) (s : Int) : Option (Ctl Int Int ((List Trip) × Bool)) := impl_wayTo_at1fn83_L2_b v3 s7 v10 s
def impl_wayTo_at1fn83_L2_s (a0 : Network) (a1 : (Network)) (a2 : ByteArray) (v1 : (List ByteArray)) (v3 : Int) (s7 : (List (List Int))) (v10 : Int) (s13 : Int) : St := ⟨[(1, .o (.c (.fn 83 [901]))), (2, .o (.c (.v (.string a2)))), (5, .o (.c (.ptr 0 0))), (12, .o (.c (.sl 1))), (13, .o (.c (.v (.int .i64 v3)))), (14, .o (.c (.sl 2))), (17, .o (.c (.v (.int .i64 v10)))), (18, .o (.c (.v (.int .i64 s13))))], [(901, .box 32 [.rs 6 (a1.Legs.map Leg.enc), .rs 1 (a1.Off.map encI), .v (.int .i64 a1.Change)]), (0, .box 32 [.rs 6 (a0.Legs.map Leg.enc), .rs 1 (a0.Off.map encI), .v (.int .i64 a0.Change)]), (1, .row 9 1 (v1.map encS)), (2, .rows 23 1 (s7.map (List.map encI)))]⟩
def impl_wayTo_at1fn83_L2_S (a0 : Network) (a1 : (Network)) (a2 : ByteArray) (v1 : (List ByteArray)) (v3 : Int) (s7 : (List (List Int))) (v10 : Int) (s : Int) : St := impl_wayTo_at1fn83_L2_s a0 a1 a2 v1 v3 s7 v10 s
def impl_wayTo_at1fn83_L2_a (a0 : Network) (a1 : (Network)) (a2 : ByteArray) (v1 : (List ByteArray)) (v3 : Int) (s7 : (List (List Int))) (v10 : Int) (s14 : Int) : Option ((List Trip) × Bool) :=
  (loopM (impl_wayTo_at1fn83_L3 a0 a1 a2 s7) big (v1, v3, v10, s14, ([] : List Trip))).bind (impl_wayTo_at1fn83_L3_k)
def impl_wayTo_at1fn83_L2_k (a0 : Network) (a1 : (Network)) (a2 : ByteArray) (v1 : (List ByteArray)) (v3 : Int) (s7 : (List (List Int))) (v10 : Int) (x : (Int) ⊕ ((List Trip) × Bool)) : Option ((List Trip) × Bool) := match x with
  | .inl t => impl_wayTo_at1fn83_L2_a a0 a1 a2 v1 v3 s7 v10 t
  | .inr y => some y
def impl_wayTo_at1fn83_L1_b (a0 : Network) (a1 : (Network)) (a2 : ByteArray) (a4 : Int) (v1 : (List ByteArray)) (v3 : Int) (s5 : (List (List Int))) (s6 : Int) : Option (Ctl ((List (List Int)) × Int) (List (List Int)) ((List Trip) × Bool)) :=
  bif (decide (s6 ≤ (v1.length : Int))) then
  (impl_arrivals_at1fn83 a0 a1 a2 a4 s6).bind fun v51 =>
  bif ((v51.length : Int) == 0) then
  some (.ret (([] : List Trip), false))
  else
  bif (decide (v3 < 0)) then
  some (.ret (([] : List Trip), false))
  else
  (ap 24 s5 ([v51] : List (List Int))).bind fun v55 =>
  some (.next (v55, w64 (s6 + 1)))
  else
  some (.brk s5)
def impl_wayTo_at1fn83_L1 (a0 : Network) (a1 : (Network)) (a2 : ByteArray) (a4 : Int) (v1 : (List ByteArray)) (v3 : Int) (s : (List (List Int)) × Int) : Option (Ctl ((List (List Int)) × Int) (List (List Int)) ((List Trip) × Bool)) := impl_wayTo_at1fn83_L1_b a0 a1 a2 a4 v1 v3 s.1 s.2
def impl_wayTo_at1fn83_L1_s (a0 : Network) (a1 : (Network)) (a2 : ByteArray) (a4 : Int) (v1 : (List ByteArray)) (v3 : Int) (s5 : (List (List Int))) (s6 : Int) : St := ⟨[(1, .o (.c (.fn 83 [901]))), (2, .o (.c (.v (.string a2)))), (4, .o (.c (.v (.int .i64 a4)))), (5, .o (.c (.ptr 0 0))), (12, .o (.c (.sl 1))), (13, .o (.c (.v (.int .i64 v3)))), (14, .o (.c (.sl 2))), (15, .o (.c (.v (.int .i64 s6))))], [(901, .box 32 [.rs 6 (a1.Legs.map Leg.enc), .rs 1 (a1.Off.map encI), .v (.int .i64 a1.Change)]), (0, .box 32 [.rs 6 (a0.Legs.map Leg.enc), .rs 1 (a0.Off.map encI), .v (.int .i64 a0.Change)]), (1, .row 9 1 (v1.map encS)), (2, .rows 23 1 (s5.map (List.map encI)))]⟩
def impl_wayTo_at1fn83_L1_S (a0 : Network) (a1 : (Network)) (a2 : ByteArray) (a4 : Int) (v1 : (List ByteArray)) (v3 : Int) (s : (List (List Int)) × Int) : St := impl_wayTo_at1fn83_L1_s a0 a1 a2 a4 v1 v3 s.1 s.2
def impl_wayTo_at1fn83_L1_a (a0 : Network) (a1 : (Network)) (a2 : ByteArray) (v1 : (List ByteArray)) (v3 : Int) (s7 : (List (List Int))) : Option ((List Trip) × Bool) :=
  (gi s7 (v1.length : Int)).bind fun v8 =>
  (gi v8 v3).bind fun v10 =>
  bif (decide (v10 < 0)) then
  some (([] : List Trip), false)
  else
  (loopM (impl_wayTo_at1fn83_L2 v3 s7 v10) big 0).bind (impl_wayTo_at1fn83_L2_k a0 a1 a2 v1 v3 s7 v10)
def impl_wayTo_at1fn83_L1_k (a0 : Network) (a1 : (Network)) (a2 : ByteArray) (v1 : (List ByteArray)) (v3 : Int) (x : ((List (List Int))) ⊕ ((List Trip) × Bool)) : Option ((List Trip) × Bool) := match x with
  | .inl t => impl_wayTo_at1fn83_L1_a a0 a1 a2 v1 v3 t
  | .inr y => some y
def impl_wayTo_at1fn83 (a0 : Network) (a1 : (Network)) (a2 : ByteArray) (a3 : ByteArray) (a4 : Int) : Option ((List Trip) × Bool) :=
  (impl_PlacesOf a0).bind fun v1 =>
  (impl_placeAt v1 a3).bind fun v3 =>
  (loopM (impl_wayTo_at1fn83_L1 a0 a1 a2 a4 v1 v3) big (([] : List (List Int)), 0)).bind (impl_wayTo_at1fn83_L1_k a0 a1 a2 v1 v3)
theorem impl_wayTo_at1fn83_ok (a0 : Network) (a1 : (Network)) (a2 : ByteArray) (a3 : ByteArray) (a4 : Int) (r : (List Trip) × Bool) (hM : impl_wayTo_at1fn83 a0 a1 a2 a3 a4 = some r) :
    Con Try.prog 42 [.agg [.rs 6 (a0.Legs.map Leg.enc), .rs 1 (a0.Off.map encI), .v (.int .i64 a0.Change)], .c (.fn 83 [901]), .c (.v (.string a2)), .c (.v (.string a3)), .c (.v (.int .i64 a4))] [(901, .box 32 [.rs 6 (a1.Legs.map Leg.enc), .rs 1 (a1.Off.map encI), .v (.int .i64 a1.Change)])] (.tup [.c (.sl 1000), .c (.v (.bool r.2))]) [(901, .box 32 [.rs 6 (a1.Legs.map Leg.enc), .rs 1 (a1.Off.map encI), .v (.int .i64 a1.Change)])] [(1000, .row 46 2 (r.1.map Trip.enc))] := by
  unfold impl_wayTo_at1fn83 at hM
  refine cn (N := 133) (pids := [901]) Try_mixed Try.func42 (by kernel_rfl) (by kernel_rfl) (by kernel_rfl) rfl fun ρ g w R => ?_
  obtain ⟨v1, h2, hM⟩ := bind_some hM
  obtain ⟨v3, h4, hM⟩ := bind_some hM
  have K1 : ∀ (s7 : (List (List Int))), impl_wayTo_at1fn83_L1_a a0 a1 a2 v1 v3 s7 = some r → Gr R [.code (cAt Try.f42 [1, 1, 1, 1, 1])] (⟨[(1, .o (.c (.fn 83 [901]))), (2, .o (.c (.v (.string a2)))), (5, .o (.c (.ptr 0 0))), (12, .o (.c (.sl 1))), (13, .o (.c (.v (.int .i64 v3)))), (14, .o (.c (.sl 2)))], [(901, .box 32 [.rs 6 (a1.Legs.map Leg.enc), .rs 1 (a1.Off.map encI), .v (.int .i64 a1.Change)]), (0, .box 32 [.rs 6 (a0.Legs.map Leg.enc), .rs 1 (a0.Off.map encI), .v (.int .i64 a0.Change)]), (1, .row 9 1 (v1.map encS)), (2, .rows 23 1 (s7.map (List.map encI)))]⟩) := by
    intro s7 hM
    unfold impl_wayTo_at1fn83_L1_a at hM
    obtain ⟨v8, h9, hM⟩ := bind_some hM
    obtain ⟨v10, h11, hM⟩ := bind_some hM
    rcases cond_cases hM with ⟨h12, hM⟩ | ⟨h12, hM⟩
    · have hE : some (([] : List Trip), false) = some r := hM
      have hE := Option.some.inj hE
      subst hE
      exact pr R 9999 [.ln (v1.length), .nm ((List.map encI) v8), .ix (encI v10), .as 62 true] [.nl 10 1000 46 2] [901] [1000] (And.intro (lenm encS v1) (And.intro (gi_lt (List.map encI) h9) (And.intro ((gi_map (List.map encI) h9).2) (And.intro (gi_map encI h11) (And.intro h12 True.intro))))) (by kernel_rfl)
    · have K2 : ∀ (s14 : Int), impl_wayTo_at1fn83_L2_a a0 a1 a2 v1 v3 s7 v10 s14 = some r → Gr R [.code (cAt Try.f42 [1, 1, 1, 1, 1, 1, 1, 1, 1])] (⟨[(1, .o (.c (.fn 83 [901]))), (2, .o (.c (.v (.string a2)))), (5, .o (.c (.ptr 0 0))), (12, .o (.c (.sl 1))), (13, .o (.c (.v (.int .i64 v3)))), (14, .o (.c (.sl 2))), (17, .o (.c (.v (.int .i64 v10)))), (18, .o (.c (.v (.int .i64 s14))))], [(901, .box 32 [.rs 6 (a1.Legs.map Leg.enc), .rs 1 (a1.Off.map encI), .v (.int .i64 a1.Change)]), (0, .box 32 [.rs 6 (a0.Legs.map Leg.enc), .rs 1 (a0.Off.map encI), .v (.int .i64 a0.Change)]), (1, .row 9 1 (v1.map encS)), (2, .rows 23 1 (s7.map (List.map encI)))]⟩) := by
        intro s14 hM
        unfold impl_wayTo_at1fn83_L2_a at hM
        have K3 : ∀ (s20 : (List Trip)), impl_wayTo_at1fn83_L3_a s20 = some r → Gr R [.code (cAt Try.f42 [1, 1, 1, 1, 1, 1, 1, 1, 1, 1, 1])] (⟨[(1, .o (.c (.fn 83 [901]))), (19, .o (.c (.sl 3)))], [(901, .box 32 [.rs 6 (a1.Legs.map Leg.enc), .rs 1 (a1.Off.map encI), .v (.int .i64 a1.Change)]), (3, .row 46 2 (s20.map Trip.enc))]⟩) := by
          intro s20 hM
          unfold impl_wayTo_at1fn83_L3_a at hM
          have K4 : ∀ (s23 : (List Trip)), impl_wayTo_at1fn83_L4_a s23 = some r → Gr R [.code (cAt Try.f42 [1, 1, 1, 1, 1, 1, 1, 1, 1, 1, 1, 1, 1])] (⟨[(1, .o (.c (.fn 83 [901]))), (22, .o (.c (.sl 4)))], [(901, .box 32 [.rs 6 (a1.Legs.map Leg.enc), .rs 1 (a1.Off.map encI), .v (.int .i64 a1.Change)]), (4, .row 46 2 (s23.map Trip.enc))]⟩) := by
            intro s23 hM
            unfold impl_wayTo_at1fn83_L4_a at hM
            have hE : some (s23, true) = some r := hM
            have hE := Option.some.inj hE
            subst hE
            exact pr R 9999 [] [.sw 4 1000] [901] [1000] True.intro (by kernel_rfl)
          refine pc R 9999 [.new 4, .ln (s20.length)] [.keep [1, 19, 22, 23] [901, 3, 4]] (k' := [.code (.loop (cAt Try.f42 [1, 1, 1, 1, 1, 1, 1, 1, 1, 1, 1, 1, 0, 1, 0, 0])), .blk 6, .code (cAt Try.f42 [1, 1, 1, 1, 1, 1, 1, 1, 1, 1, 1, 1, 1])]) (S' := impl_wayTo_at1fn83_L4_S a1 s20 (([] : List Trip), w64 ((s20.length : Int) - 1))) (And.intro (lenm Trip.enc s20) True.intro) (by kernel_rfl) ?_
          refine lq (impl_wayTo_at1fn83_L4_S a1 s20) (body := impl_wayTo_at1fn83_L4 s20) (k := impl_wayTo_at1fn83_L4_k) hM fun m4 s c4 hM hK4 => ?_
          obtain ⟨s21, s22⟩ := s
          have hM : impl_wayTo_at1fn83_L4_b s20 s21 s22 = some c4 := hM
          unfold impl_wayTo_at1fn83_L4_b at hM
          rcases cond_cases hM with ⟨h24, hM⟩ | ⟨h24, hM⟩
          · obtain ⟨v25, h26, hM⟩ := bind_some hM
            obtain ⟨v27, h28, hM⟩ := bind_some hM
            have hE : some (Ctl.next (v27, w64 (s22 - 1))) = some c4 := hM
            have hE := Option.some.inj hE
            subst hE
            exact pc R 9999 [.as 122 true, .ix (Trip.enc v25), .new 5, .new 6, .nm (v27.map Trip.enc)] [.sw 6 4, .keep [1, 19, 22, 23] [901, 3, 4]] (And.intro h24 (And.intro (gi_lt Trip.enc h26) (And.intro ((gi_map Trip.enc h26).2) (And.intro (ap_ok Trip.enc h28) True.intro)))) (by kernel_rfl) (li (Sf := impl_wayTo_at1fn83_L4_S a1 s20) (M := Mk (impl_wayTo_at1fn83_L4 s20) (impl_wayTo_at1fn83_L4_k) r) (k := [.blk 6, .code (cAt Try.f42 [1, 1, 1, 1, 1, 1, 1, 1, 1, 1, 1, 1, 1])]) (Nat.lt_succ_self m4) hK4)
          · have hE : some (Ctl.brk s21) = some c4 := hM
            have hE := Option.some.inj hE
            subst hE
            exact pc R 5 [.as 122 false] [.keep [1, 22] [901, 4]] (And.intro h24 True.intro) (by kernel_rfl) (K4 s21 hK4)
        refine pc R 9999 [.new 3] [.fz 1, .keep [1, 2, 5, 12, 13, 14, 17, 18, 19] [901, 0, 2, 3]] (k' := [.code (.loop (cAt Try.f42 [1, 1, 1, 1, 1, 1, 1, 1, 1, 1, 0, 0, 0])), .blk 4, .code (cAt Try.f42 [1, 1, 1, 1, 1, 1, 1, 1, 1, 1, 1])]) (S' := impl_wayTo_at1fn83_L3_S a0 a1 a2 s7 (v1, v3, v10, s14, ([] : List Trip))) True.intro (by kernel_rfl) ?_
        refine lq (impl_wayTo_at1fn83_L3_S a0 a1 a2 s7) (body := impl_wayTo_at1fn83_L3 a0 a1 a2 s7) (k := impl_wayTo_at1fn83_L3_k) hM fun m3 s c3 hM hK3 => ?_
        obtain ⟨s15, s16, s17, s18, s19⟩ := s
        have hM : impl_wayTo_at1fn83_L3_b a0 a1 a2 s7 s15 s16 s17 s18 s19 = some c3 := hM
        unfold impl_wayTo_at1fn83_L3_b at hM
        rcases cond_cases hM with ⟨h29, hM⟩ | ⟨h29, hM⟩
        · obtain ⟨v30, h31, hM⟩ := bind_some hM
          obtain ⟨v32, h33, hM⟩ := bind_some hM
          have J1 : ∀ (_ : Unit), impl_wayTo_at1fn83_j1 a0 s7 s15 s18 s19 v32 = some c3 → Gr R [.code (cAt Try.f42 [1, 1, 1, 1, 1, 1, 1, 1, 1, 1, 0, 0, 0, 1, 0, 0, 1]), .blk 5, .code (cAt Try.f42 [1, 1, 1, 1, 1, 1, 1, 1, 1, 1, 0, 0, 0, 1, 1]), .inv (Jr R (impl_wayTo_at1fn83_L3_S a0 a1 a2 s7) (Mk (impl_wayTo_at1fn83_L3 a0 a1 a2 s7) (impl_wayTo_at1fn83_L3_k) r) (m3 + 1)), .blk 4, .code (cAt Try.f42 [1, 1, 1, 1, 1, 1, 1, 1, 1, 1, 1])] (impl_wayTo_at1fn83_x4 a0 a1 a2 s7 s15 s18 s19 v32) := by
            intro _ hM
            unfold impl_wayTo_at1fn83_j1 at hM
            rcases cond_cases hM with ⟨h34, hM⟩ | ⟨h34, hM⟩
            · have hE : some (Ctl.ret (([] : List Trip), false)) = some c3 := hM
              have hE := Option.some.inj hE
              subst hE
              have hE : some (([] : List Trip), false) = some r := hK3
              have hE := Option.some.inj hE
              subst hE
              exact pr R 9999 [.as 95 true] [.nl 10 1000 46 2] [901] [1000] (And.intro h34 True.intro) (by kernel_rfl)
            · obtain ⟨v35, h36, hM⟩ := bind_some hM
              obtain ⟨v37, h38, hM⟩ := bind_some hM
              obtain ⟨v39, h40, hM⟩ := bind_some hM
              obtain ⟨v41, h42, hM⟩ := bind_some hM
              obtain ⟨v43, h44, hM⟩ := bind_some hM
              have hE : some (Ctl.next (s15, v39, v43, w64 (s18 - 1), v35)) = some c3 := hM
              have hE := Option.some.inj hE
              subst hE
              exact pc R 9999 [.as 95 false, .new 8, .new 9, .nm (v35.map Trip.enc), .ix (Leg.enc v37), .call false [] (.o (.c (.v (.int .i64 v39)))) [] [], .nm ((List.map encI) v41), .ix (encI v43)] [.sw 9 3, .keep [1, 2, 5, 12, 13, 14, 17, 18, 19] [901, 0, 2, 3]] (And.intro h34 (And.intro (ap_ok Trip.enc h36) (And.intro (gi_map Leg.enc h38) (And.intro (impl_placeAt_ok s15 v37.From v39 h40) (And.intro (gi_lt (List.map encI) h42) (And.intro ((gi_map (List.map encI) h42).2) (And.intro (gi_map encI h44) True.intro))))))) (by kernel_rfl) (li (Sf := impl_wayTo_at1fn83_L3_S a0 a1 a2 s7) (M := Mk (impl_wayTo_at1fn83_L3 a0 a1 a2 s7) (impl_wayTo_at1fn83_L3_k) r) (k := [.blk 4, .code (cAt Try.f42 [1, 1, 1, 1, 1, 1, 1, 1, 1, 1, 1])]) (Nat.lt_succ_self m3) hK3)
          exact pc R 9 [.as 76 true, .xg (impl_wayTo_at1fn83_o4 a1 v30 v32) [.keep [1, 2, 5, 12, 13, 14, 17, 18, 19] [901, 0, 2, 3]] [.keep [1, 2, 5, 12, 14, 18, 19, 20, 21] [901, 0, 2, 3, 7]] (impl_wayTo_at1fn83_x4 a0 a1 a2 s7 s15 s18 s19 v32) [[1, 2, 3, 4, 5, 6, 8, 9, 10], [0, 1, 2, 3, 4, 5, 6, 8, 9, 10], [1, 2, 3, 4, 5, 6, 7, 8, 9, 10], [1, 2, 3, 4, 5, 6, 8, 9, 10, 15], [0, 1, 2, 3, 4, 5, 6, 7, 8, 9, 10], [0, 1, 2, 3, 4, 5, 6, 8, 9, 10, 15], [1, 2, 3, 4, 5, 6, 7, 8, 9, 10, 15], [0, 1, 2, 3, 4, 5, 6, 7, 8, 9, 10, 11, 12, 13, 14], [0, 1, 2, 3, 4, 5, 6, 7, 8, 9, 10, 15], [0, 1, 2, 3, 4, 5, 6, 7, 8, 9, 10, 11, 12, 13, 14, 15]]] [] (And.intro h29 (And.intro (gi_lt (List.map encI) h31) (And.intro (impl_wayTo_at1fn83_y4 a0 a1 a2 s7 s15 s16 s17 s18 s19 v30 v32 [1, 2, 3, 4, 5, 6, 8, 9, 10]) (And.intro (impl_wayTo_at1fn83_y4 a0 a1 a2 s7 s15 s16 s17 s18 s19 v30 v32 [0, 1, 2, 3, 4, 5, 6, 8, 9, 10]) (And.intro ((gi_map (List.map encI) h31).2) (And.intro (impl_wayTo_at1fn83_y4 a0 a1 a2 s7 s15 s16 s17 s18 s19 v30 v32 [1, 2, 3, 4, 5, 6, 7, 8, 9, 10]) (And.intro (impl_wayTo_at1fn83_y4 a0 a1 a2 s7 s15 s16 s17 s18 s19 v30 v32 [1, 2, 3, 4, 5, 6, 8, 9, 10, 15]) (And.intro ((gi_map (List.map encI) h31).2) (And.intro (impl_wayTo_at1fn83_y4 a0 a1 a2 s7 s15 s16 s17 s18 s19 v30 v32 [0, 1, 2, 3, 4, 5, 6, 7, 8, 9, 10]) (And.intro (impl_wayTo_at1fn83_y4 a0 a1 a2 s7 s15 s16 s17 s18 s19 v30 v32 [0, 1, 2, 3, 4, 5, 6, 8, 9, 10, 15]) (And.intro (impl_wayTo_at1fn83_y4 a0 a1 a2 s7 s15 s16 s17 s18 s19 v30 v32 [0, 1, 2, 3, 4, 5, 6, 7, 8, 9, 10]) (And.intro (impl_wayTo_at1fn83_y4 a0 a1 a2 s7 s15 s16 s17 s18 s19 v30 v32 [1, 2, 3, 4, 5, 6, 7, 8, 9, 10, 15]) (And.intro (impl_wayTo_at1fn83_y4 a0 a1 a2 s7 s15 s16 s17 s18 s19 v30 v32 [0, 1, 2, 3, 4, 5, 6, 8, 9, 10, 15]) (And.intro ((gi_map (List.map encI) h31).2) (And.intro (impl_wayTo_at1fn83_y4 a0 a1 a2 s7 s15 s16 s17 s18 s19 v30 v32 [1, 2, 3, 4, 5, 6, 7, 8, 9, 10, 15]) (And.intro (And.intro (con_sw 901 901 (impl_lastLeg_at1fn83_ok a0 a1 s15 v30 a2 s16 s17 v32 h33)) (rfl : ([901] : List Nat) = [901])) (And.intro (impl_wayTo_at1fn83_y4 a0 a1 a2 s7 s15 s16 s17 s18 s19 v30 v32 [0, 1, 2, 3, 4, 5, 6, 7, 8, 9, 10, 11, 12, 13, 14]) (And.intro (impl_wayTo_at1fn83_y4 a0 a1 a2 s7 s15 s16 s17 s18 s19 v30 v32 [0, 1, 2, 3, 4, 5, 6, 7, 8, 9, 10, 15]) (And.intro ((gi_map (List.map encI) h31).2) (And.intro (impl_wayTo_at1fn83_y4 a0 a1 a2 s7 s15 s16 s17 s18 s19 v30 v32 [0, 1, 2, 3, 4, 5, 6, 7, 8, 9, 10, 15]) (And.intro (impl_wayTo_at1fn83_y4 a0 a1 a2 s7 s15 s16 s17 s18 s19 v30 v32 [0, 1, 2, 3, 4, 5, 6, 7, 8, 9, 10, 15]) (And.intro (impl_wayTo_at1fn83_y4 a0 a1 a2 s7 s15 s16 s17 s18 s19 v30 v32 [0, 1, 2, 3, 4, 5, 6, 7, 8, 9, 10, 11, 12, 13, 14, 15]) (And.intro (And.intro (con_sw 901 901 (impl_lastLeg_at1fn83_ok a0 a1 s15 v30 a2 s16 s17 v32 h33)) (rfl : ([901] : List Nat) = [901])) (And.intro (impl_wayTo_at1fn83_y4 a0 a1 a2 s7 s15 s16 s17 s18 s19 v30 v32 [0, 1, 2, 3, 4, 5, 6, 7, 8, 9, 10, 11, 12, 13, 14, 15]) (And.intro (rfl : (impl_wayTo_at1fn83_x4 a0 a1 a2 s7 s15 s18 s19 v32) = (impl_wayTo_at1fn83_x4 a0 a1 a2 s7 s15 s18 s19 v32)) True.intro))))))))))))))))))))))))) (by kernel_rfl) (J1 () hM)
        · have hE : some (Ctl.brk s19) = some c3 := hM
          have hE := Option.some.inj hE
          subst hE
          exact pc R 5 [.as 76 false] [.keep [1, 19] [901, 3]] (And.intro h29 True.intro) (by kernel_rfl) (K3 s19 hK3)
      refine pc R 9999 [.ln (v1.length), .nm ((List.map encI) v8), .ix (encI v10), .as 62 false] [.keep [1, 2, 5, 12, 13, 14, 17, 18] [901, 0, 1, 2]] (k' := [.code (.loop (cAt Try.f42 [1, 1, 1, 1, 1, 1, 1, 1, 0, 0, 0])), .blk 2, .code (cAt Try.f42 [1, 1, 1, 1, 1, 1, 1, 1, 1])]) (S' := impl_wayTo_at1fn83_L2_S a0 a1 a2 v1 v3 s7 v10 0) (And.intro (lenm encS v1) (And.intro (gi_lt (List.map encI) h9) (And.intro ((gi_map (List.map encI) h9).2) (And.intro (gi_map encI h11) (And.intro h12 True.intro))))) (by kernel_rfl) ?_
      refine lq (impl_wayTo_at1fn83_L2_S a0 a1 a2 v1 v3 s7 v10) (body := impl_wayTo_at1fn83_L2 v3 s7 v10) (k := impl_wayTo_at1fn83_L2_k a0 a1 a2 v1 v3 s7 v10) hM fun m2 s c2 hM hK2 => ?_
      obtain ⟨s13, hs⟩ : ∃ z, z = s := ⟨_, rfl⟩
      subst hs
      have hM : impl_wayTo_at1fn83_L2_b v3 s7 v10 s13 = some c2 := hM
      unfold impl_wayTo_at1fn83_L2_b at hM
      obtain ⟨v45, h46, hM⟩ := bind_some hM
      obtain ⟨v47, h48, hM⟩ := bind_some hM
      rcases cond_cases hM with ⟨h49, hM⟩ | ⟨h49, hM⟩
      · have hE : some (Ctl.next (w64 (s13 + 1))) = some c2 := hM
        have hE := Option.some.inj hE
        subst hE
        exact pc R 9999 [.nm ((List.map encI) v45), .ix (encI v47), .as 71 true] [.keep [1, 2, 5, 12, 13, 14, 17, 18] [901, 0, 1, 2]] (And.intro (gi_lt (List.map encI) h46) (And.intro ((gi_map (List.map encI) h46).2) (And.intro (gi_map encI h48) (And.intro h49 True.intro)))) (by kernel_rfl) (li (Sf := impl_wayTo_at1fn83_L2_S a0 a1 a2 v1 v3 s7 v10) (M := Mk (impl_wayTo_at1fn83_L2 v3 s7 v10) (impl_wayTo_at1fn83_L2_k a0 a1 a2 v1 v3 s7 v10) r) (k := [.blk 2, .code (cAt Try.f42 [1, 1, 1, 1, 1, 1, 1, 1, 1])]) (Nat.lt_succ_self m2) hK2)
      · have hE : some (Ctl.brk s13) = some c2 := hM
        have hE := Option.some.inj hE
        subst hE
        exact pc R 5 [.nm ((List.map encI) v45), .ix (encI v47), .as 71 false] [.keep [1, 2, 5, 12, 13, 14, 17, 18] [901, 0, 1, 2]] (And.intro (gi_lt (List.map encI) h46) (And.intro ((gi_map (List.map encI) h46).2) (And.intro (gi_map encI h48) (And.intro h49 True.intro)))) (by kernel_rfl) (K2 s13 hK2)
  refine pc R 9999 [.new 0, .call false [] (.o (.c (.sl 1))) [] [(1, .row 9 1 (v1.map encS))], .call false [] (.o (.c (.v (.int .i64 v3)))) [] [], .new 2, .ad (.rw 2 1)] [.keep [1, 2, 4, 5, 12, 13, 14, 15] [901, 0, 1, 2]] (k' := [.code (.loop (cAt Try.f42 [1, 1, 1, 1, 0, 1, 0, 0])), .blk 0, .code (cAt Try.f42 [1, 1, 1, 1, 1])]) (S' := impl_wayTo_at1fn83_L1_S a0 a1 a2 a4 v1 v3 (([] : List (List Int)), 0)) (And.intro (And.intro (con_sw 1000 1 (impl_PlacesOf_ok a0 v1 h2)) (rfl : ([] : List Nat) = [])) (And.intro (impl_placeAt_ok v1 a3 v3 h4) True.intro)) (by kernel_rfl) ?_
  refine lq (impl_wayTo_at1fn83_L1_S a0 a1 a2 a4 v1 v3) (body := impl_wayTo_at1fn83_L1 a0 a1 a2 a4 v1 v3) (k := impl_wayTo_at1fn83_L1_k a0 a1 a2 v1 v3) hM fun m1 s c1 hM hK1 => ?_
  obtain ⟨s5, s6⟩ := s
  have hM : impl_wayTo_at1fn83_L1_b a0 a1 a2 a4 v1 v3 s5 s6 = some c1 := hM
  unfold impl_wayTo_at1fn83_L1_b at hM
  rcases cond_cases hM with ⟨h50, hM⟩ | ⟨h50, hM⟩
  · obtain ⟨v51, h52, hM⟩ := bind_some hM
    rcases cond_cases hM with ⟨h53, hM⟩ | ⟨h53, hM⟩
    · have hE : some (Ctl.ret (([] : List Trip), false)) = some c1 := hM
      have hE := Option.some.inj hE
      subst hE
      have hE : some (([] : List Trip), false) = some r := hK1
      have hE := Option.some.inj hE
      subst hE
      exact pr R 9999 [.ln (v1.length), .as 33 true, .call true [901] (.o (.c (.sl 10))) [(901, .box 32 [.rs 6 (a1.Legs.map Leg.enc), .rs 1 (a1.Off.map encI), .v (.int .i64 a1.Change)])] [(10, .row 3 1 (v51.map encI))], .ln (v51.length), .as 45 true] [.nl 10 1000 46 2] [901] [1000] (And.intro (lenm encS v1) (And.intro h50 (And.intro (And.intro (con_sw 901 901 (con_sw 1000 10 (impl_arrivals_at1fn83_ok a0 a1 a2 a4 s6 v51 h52))) (rfl : ([901] : List Nat) = [901])) (And.intro (lenm encI v51) (And.intro h53 True.intro))))) (by kernel_rfl)
    · rcases cond_cases hM with ⟨h54, hM⟩ | ⟨h54, hM⟩
      · have hE : some (Ctl.ret (([] : List Trip), false)) = some c1 := hM
        have hE := Option.some.inj hE
        subst hE
        have hE : some (([] : List Trip), false) = some r := hK1
        have hE := Option.some.inj hE
        subst hE
        exact pr R 9999 [.ln (v1.length), .as 33 true, .call true [901] (.o (.c (.sl 10))) [(901, .box 32 [.rs 6 (a1.Legs.map Leg.enc), .rs 1 (a1.Off.map encI), .v (.int .i64 a1.Change)])] [(10, .row 3 1 (v51.map encI))], .ln (v51.length), .as 45 false, .as 48 true] [.nl 10 1000 46 2] [901] [1000] (And.intro (lenm encS v1) (And.intro h50 (And.intro (And.intro (con_sw 901 901 (con_sw 1000 10 (impl_arrivals_at1fn83_ok a0 a1 a2 a4 s6 v51 h52))) (rfl : ([901] : List Nat) = [901])) (And.intro (lenm encI v51) (And.intro h53 (And.intro h54 True.intro)))))) (by kernel_rfl)
      · obtain ⟨v55, h56, hM⟩ := bind_some hM
        have hE : some (Ctl.next (v55, w64 (s6 + 1))) = some c1 := hM
        have hE := Option.some.inj hE
        subst hE
        exact pc R 9999 [.ln (v1.length), .as 33 true, .call true [901] (.o (.c (.sl 10))) [(901, .box 32 [.rs 6 (a1.Legs.map Leg.enc), .rs 1 (a1.Off.map encI), .v (.int .i64 a1.Change)])] [(10, .row 3 1 (v51.map encI))], .ln (v51.length), .as 45 false, .as 48 false, .ad (.fz 10), .new 11, .new 12, .nd (v55.map (List.map encI))] [.sw 12 2, .keep [1, 2, 4, 5, 12, 13, 14, 15] [901, 0, 1, 2]] (And.intro (lenm encS v1) (And.intro h50 (And.intro (And.intro (con_sw 901 901 (con_sw 1000 10 (impl_arrivals_at1fn83_ok a0 a1 a2 a4 s6 v51 h52))) (rfl : ([901] : List Nat) = [901])) (And.intro (lenm encI v51) (And.intro h53 (And.intro h54 (And.intro (ap_ok (List.map encI) h56) True.intro))))))) (by kernel_rfl) (li (Sf := impl_wayTo_at1fn83_L1_S a0 a1 a2 a4 v1 v3) (M := Mk (impl_wayTo_at1fn83_L1 a0 a1 a2 a4 v1 v3) (impl_wayTo_at1fn83_L1_k a0 a1 a2 v1 v3) r) (k := [.blk 0, .code (cAt Try.f42 [1, 1, 1, 1, 1])]) (Nat.lt_succ_self m1) hK1)
  · have hE : some (Ctl.brk s5) = some c1 := hM
    have hE := Option.some.inj hE
    subst hE
    exact pc R 5 [.ln (v1.length), .as 33 false] [.keep [1, 2, 5, 12, 13, 14] [901, 0, 1, 2]] (And.intro (lenm encS v1) (And.intro h50 True.intro)) (by kernel_rfl) (K1 s5 hK1)

-- loop.example/g03014/impl.FindWay
def impl_FindWay_x1 (v6 : ((List Trip) × Bool)) : St := ⟨[(10, .o (.c (.sl 2))), (11, .o (.c (.v (.bool v6.2))))], [(2, .row 46 2 (v6.1.map Trip.enc))]⟩
def impl_FindWay (a0 : Network) (a1 : ByteArray) (a2 : ByteArray) (a3 : Int) : Option ((List Trip) × Bool) :=
  (impl_IsNetwork a0).bind fun v1 =>
  bif (!v1) then
  some (([] : List Trip), false)
  else
  (impl_nextOf a0).bind fun v4 =>
  (impl_wayTo_at1fn83 a0 v4 a1 a2 a3).bind fun v6 =>
  some (v6.1, v6.2)
theorem impl_FindWay_ok (a0 : Network) (a1 : ByteArray) (a2 : ByteArray) (a3 : Int) (r : (List Trip) × Bool) (hM : impl_FindWay a0 a1 a2 a3 = some r) :
    Con Try.prog 10 [.agg [.rs 6 (a0.Legs.map Leg.enc), .rs 1 (a0.Off.map encI), .v (.int .i64 a0.Change)], .c (.v (.string a1)), .c (.v (.string a2)), .c (.v (.int .i64 a3))] [] (.tup [.c (.sl 1000), .c (.v (.bool r.2))]) [] [(1000, .row 46 2 (r.1.map Trip.enc))] := by
  unfold impl_FindWay at hM
  refine cn (N := 27) (pids := []) Try_mixed Try.func10 (by kernel_rfl) (by kernel_rfl) (by kernel_rfl) rfl fun ρ g w R => ?_
  obtain ⟨v1, h2, hM⟩ := bind_some hM
  rcases cond_cases hM with ⟨h3, hM⟩ | ⟨h3, hM⟩
  · have hE : some (([] : List Trip), false) = some r := hM
    have hE := Option.some.inj hE
    subst hE
    exact pr R 9999 [.new 0, .call false [] (.o (.c (.v (.bool v1)))) [] [], .as 14 true] [.nl 8 1000 46 2] [] [1000] (And.intro (impl_IsNetwork_ok a0 v1 h2) (And.intro h3 True.intro)) (by kernel_rfl)
  · obtain ⟨v4, h5, hM⟩ := bind_some hM
    obtain ⟨v6, h7, hM⟩ := bind_some hM
    have hE : some (v6.1, v6.2) = some r := hM
    have hE := Option.some.inj hE
    subst hE
    exact pr R 9999 [.new 0, .call false [] (.o (.c (.v (.bool v1)))) [] [], .as 14 false, .xo [[], [], [.call true [] (.o (.c (.fn 83 [1]))) [] [(1, .box 32 [.rs 6 (v4.Legs.map Leg.enc), .rs 1 (v4.Off.map encI), .v (.int .i64 v4.Change)])]], [], [], [], [.call true [1] (.tup [.c (.sl 2), .c (.v (.bool v6.2))]) [(1, .box 32 [.rs 6 (v4.Legs.map Leg.enc), .rs 1 (v4.Off.map encI), .v (.int .i64 v4.Change)])] [(2, .row 46 2 (v6.1.map Trip.enc))]], [], [], [], [], []] [.keep [10, 11] [2]] (impl_FindWay_x1 v6)] [.sw 2 1000] [] [1000] (And.intro (impl_IsNetwork_ok a0 v1 h2) (And.intro h3 (And.intro (And.intro (con_sw 1000 1 (impl_nextOf_ok a0 v4 h5)) (rfl : ([] : List Nat) = [])) (And.intro (And.intro (con_sw 901 1 (con_sw 1000 2 (impl_wayTo_at1fn83_ok a0 v4 a1 a2 a3 v6 h7))) (rfl : ([1] : List Nat) = [1])) (And.intro (rfl : (impl_FindWay_x1 v6) = (impl_FindWay_x1 v6)) (And.intro (And.intro (con_sw 1000 1 (impl_nextOf_ok a0 v4 h5)) (rfl : ([] : List Nat) = [])) (And.intro (And.intro (con_sw 901 1 (con_sw 1000 2 (impl_wayTo_at1fn83_ok a0 v4 a1 a2 a3 v6 h7))) (rfl : ([1] : List Nat) = [1])) (And.intro (rfl : (impl_FindWay_x1 v6) = (impl_FindWay_x1 v6)) (And.intro (And.intro (con_sw 1000 1 (impl_nextOf_ok a0 v4 h5)) (rfl : ([] : List Nat) = [])) (And.intro (And.intro (con_sw 901 1 (con_sw 1000 2 (impl_wayTo_at1fn83_ok a0 v4 a1 a2 a3 v6 h7))) (rfl : ([1] : List Nat) = [1])) (And.intro (rfl : (impl_FindWay_x1 v6) = (impl_FindWay_x1 v6)) True.intro))))))))))) (by kernel_rfl)

-- loop.example/g03014/laws.eqTrip
def laws_eqTrip (a0 : Trip) (a1 : Trip) : Option Bool :=
  bif (a0.Leg != a1.Leg) then
  some false
  else
  bif (a0.Day != a1.Day) then
  some false
  else
  some true
theorem laws_eqTrip_ok (a0 : Trip) (a1 : Trip) (r : Bool) (hM : laws_eqTrip a0 a1 = some r) :
    Con Try.prog 44 [.c (.v (.agg (Trip.enc a0).toArray)), .c (.v (.agg (Trip.enc a1).toArray))] [] (.o (.c (.v (.bool r)))) [] [] := by
  unfold laws_eqTrip at hM
  refine cn (N := 15) (pids := []) Try_mixed Try.func44 (by kernel_rfl) (by kernel_rfl) (by kernel_rfl) rfl fun ρ g w R => ?_
  rcases cond_cases hM with ⟨h1, hM⟩ | ⟨h1, hM⟩
  · have hE : some false = some r := hM
    have hE := Option.some.inj hE
    subst hE
    exact pr R 9999 [.new 0, .new 1, .as 9 true] [] [] [] (And.intro h1 True.intro) (by kernel_rfl)
  · rcases cond_cases hM with ⟨h2, hM⟩ | ⟨h2, hM⟩
    · have hE : some false = some r := hM
      have hE := Option.some.inj hE
      subst hE
      exact pr R 9999 [.new 0, .new 1, .as 9 false, .as 14 true] [] [] [] (And.intro h1 (And.intro h2 True.intro)) (by kernel_rfl)
    · have hE : some true = some r := hM
      have hE := Option.some.inj hE
      subst hE
      exact pr R 9999 [.new 0, .new 1, .as 9 false, .as 14 false] [] [] [] (And.intro h1 (And.intro h2 True.intro)) (by kernel_rfl)

-- loop.example/g03014/laws.eqTripS
def laws_eqTripS_L1_b (a0 : (List Trip)) (a1 : (List Trip)) (s2 : Int) : Option (Ctl Int Unit Bool) :=
  bif (decide (s2 < (a0.length : Int))) then
  (gi a0 s2).bind fun v4 =>
  (gi a1 s2).bind fun v6 =>
  (laws_eqTrip v4 v6).bind fun v8 =>
  bif (!v8) then
  some (.ret false)
  else
  some (.next (w64 (s2 + 1)))
  else
  some (.brk ())
def laws_eqTripS_L1 (a0 : (List Trip)) (a1 : (List Trip)) (s : Int) : Option (Ctl Int Unit Bool) := laws_eqTripS_L1_b a0 a1 s
def laws_eqTripS_L1_s (a0 : (List Trip)) (a1 : (List Trip)) (s2 : Int) : St := ⟨[(0, .o (.c (.rs 2 (a0.map Trip.enc)))), (1, .o (.c (.rs 2 (a1.map Trip.enc)))), (5, .o (.c (.v (.int .i64 s2))))], []⟩
def laws_eqTripS_L1_S (a0 : (List Trip)) (a1 : (List Trip)) (s : Int) : St := laws_eqTripS_L1_s a0 a1 s
def laws_eqTripS_L1_a : Option Bool :=
  some true
def laws_eqTripS_L1_k (x : (Unit) ⊕ (Bool)) : Option Bool := match x with
  | .inl t => laws_eqTripS_L1_a
  | .inr y => some y
def laws_eqTripS (a0 : (List Trip)) (a1 : (List Trip)) : Option Bool :=
  bif ((a0.length : Int) != (a1.length : Int)) then
  some false
  else
  (loopM (laws_eqTripS_L1 a0 a1) big 0).bind (laws_eqTripS_L1_k)
theorem laws_eqTripS_ok (a0 : (List Trip)) (a1 : (List Trip)) (r : Bool) (hM : laws_eqTripS a0 a1 = some r) :
    Con Try.prog 11 [.c (.rs 2 (a0.map Trip.enc)), .c (.rs 2 (a1.map Trip.enc))] [] (.o (.c (.v (.bool r)))) [] [] := by
  unfold laws_eqTripS at hM
  refine cn (N := 27) (pids := []) Try_mixed Try.func11 (by kernel_rfl) (by kernel_rfl) (by kernel_rfl) rfl fun ρ g w R => ?_
  rcases cond_cases hM with ⟨h1, hM⟩ | ⟨h1, hM⟩
  · have hE : some false = some r := hM
    have hE := Option.some.inj hE
    subst hE
    exact pr R 9999 [.ln (a0.length), .ln (a1.length), .as 10 true] [] [] [] (And.intro (lenm Trip.enc a0) (And.intro (lenm Trip.enc a1) (And.intro h1 True.intro))) (by kernel_rfl)
  · have K1 : ∀ (_ : Unit), laws_eqTripS_L1_a = some r → Gr R [.code (cAt Try.f11 [1, 1, 1])] (⟨[], []⟩) := by
      intro _ hM
      unfold laws_eqTripS_L1_a at hM
      have hE : some true = some r := hM
      have hE := Option.some.inj hE
      subst hE
      exact pr R 9999 [] [] [] [] True.intro (by kernel_rfl)
    refine pc R 9999 [.ln (a0.length), .ln (a1.length), .as 10 false] [.keep [0, 1, 5] []] (k' := [.code (.loop (cAt Try.f11 [1, 1, 0, 1, 0, 0])), .blk 0, .code (cAt Try.f11 [1, 1, 1])]) (S' := laws_eqTripS_L1_S a0 a1 0) (And.intro (lenm Trip.enc a0) (And.intro (lenm Trip.enc a1) (And.intro h1 True.intro))) (by kernel_rfl) ?_
    refine lq (laws_eqTripS_L1_S a0 a1) (body := laws_eqTripS_L1 a0 a1) (k := laws_eqTripS_L1_k) hM fun m1 s c1 hM hK1 => ?_
    obtain ⟨s2, hs⟩ : ∃ z, z = s := ⟨_, rfl⟩
    subst hs
    have hM : laws_eqTripS_L1_b a0 a1 s2 = some c1 := hM
    unfold laws_eqTripS_L1_b at hM
    rcases cond_cases hM with ⟨h3, hM⟩ | ⟨h3, hM⟩
    · obtain ⟨v4, h5, hM⟩ := bind_some hM
      obtain ⟨v6, h7, hM⟩ := bind_some hM
      obtain ⟨v8, h9, hM⟩ := bind_some hM
      rcases cond_cases hM with ⟨h10, hM⟩ | ⟨h10, hM⟩
      · have hE : some (Ctl.ret false) = some c1 := hM
        have hE := Option.some.inj hE
        subst hE
        have hE : some false = some r := hK1
        have hE := Option.some.inj hE
        subst hE
        exact pr R 9999 [.ln (a0.length), .as 14 true, .ix (Trip.enc v4), .ix (Trip.enc v6), .call false [] (.o (.c (.v (.bool v8)))) [] [], .as 26 true] [] [] [] (And.intro (lenm Trip.enc a0) (And.intro h3 (And.intro (gi_map Trip.enc h5) (And.intro (gi_map Trip.enc h7) (And.intro (laws_eqTrip_ok v4 v6 v8 h9) (And.intro h10 True.intro)))))) (by kernel_rfl)
      · have hE : some (Ctl.next (w64 (s2 + 1))) = some c1 := hM
        have hE := Option.some.inj hE
        subst hE
        exact pc R 9999 [.ln (a0.length), .as 14 true, .ix (Trip.enc v4), .ix (Trip.enc v6), .call false [] (.o (.c (.v (.bool v8)))) [] [], .as 26 false] [.keep [0, 1, 5] []] (And.intro (lenm Trip.enc a0) (And.intro h3 (And.intro (gi_map Trip.enc h5) (And.intro (gi_map Trip.enc h7) (And.intro (laws_eqTrip_ok v4 v6 v8 h9) (And.intro h10 True.intro)))))) (by kernel_rfl) (li (Sf := laws_eqTripS_L1_S a0 a1) (M := Mk (laws_eqTripS_L1 a0 a1) (laws_eqTripS_L1_k) r) (k := [.blk 0, .code (cAt Try.f11 [1, 1, 1])]) (Nat.lt_succ_self m1) hK1)
    · have hE : some (Ctl.brk ()) = some c1 := hM
      have hE := Option.some.inj hE
      subst hE
      exact pc R 5 [.ln (a0.length), .as 14 false] [.keep [] []] (And.intro (lenm Trip.enc a0) (And.intro h3 True.intro)) (by kernel_rfl) (K1 () hK1)

-- loop.example/g03014/laws.eqLeg
def laws_eqLeg (a0 : Leg) (a1 : Leg) : Option Bool :=
  bif (!(a0.From.toList == a1.From.toList)) then
  some false
  else
  bif (!(a0.To.toList == a1.To.toList)) then
  some false
  else
  bif (a0.Start != a1.Start) then
  some false
  else
  bif (a0.Takes != a1.Takes) then
  some false
  else
  bif (a0.Days != a1.Days) then
  some false
  else
  bif (a0.Room != a1.Room) then
  some false
  else
  some true
theorem laws_eqLeg_ok (a0 : Leg) (a1 : Leg) (r : Bool) (hM : laws_eqLeg a0 a1 = some r) :
    Con Try.prog 84 [.c (.v (.agg (Leg.enc a0).toArray)), .c (.v (.agg (Leg.enc a1).toArray))] [] (.o (.c (.v (.bool r)))) [] [] := by
  unfold laws_eqLeg at hM
  refine cn (N := 35) (pids := []) Try_mixed Try.func84 (by kernel_rfl) (by kernel_rfl) (by kernel_rfl) rfl fun ρ g w R => ?_
  rcases cond_cases hM with ⟨h1, hM⟩ | ⟨h1, hM⟩
  · have hE : some false = some r := hM
    have hE := Option.some.inj hE
    subst hE
    exact pr R 9999 [.new 0, .new 1, .as 9 true] [] [] [] (And.intro h1 True.intro) (by kernel_rfl)
  · rcases cond_cases hM with ⟨h2, hM⟩ | ⟨h2, hM⟩
    · have hE : some false = some r := hM
      have hE := Option.some.inj hE
      subst hE
      exact pr R 9999 [.new 0, .new 1, .as 9 false, .as 14 true] [] [] [] (And.intro h1 (And.intro h2 True.intro)) (by kernel_rfl)
    · rcases cond_cases hM with ⟨h3, hM⟩ | ⟨h3, hM⟩
      · have hE : some false = some r := hM
        have hE := Option.some.inj hE
        subst hE
        exact pr R 9999 [.new 0, .new 1, .as 9 false, .as 14 false, .as 19 true] [] [] [] (And.intro h1 (And.intro h2 (And.intro h3 True.intro))) (by kernel_rfl)
      · rcases cond_cases hM with ⟨h4, hM⟩ | ⟨h4, hM⟩
        · have hE : some false = some r := hM
          have hE := Option.some.inj hE
          subst hE
          exact pr R 9999 [.new 0, .new 1, .as 9 false, .as 14 false, .as 19 false, .as 24 true] [] [] [] (And.intro h1 (And.intro h2 (And.intro h3 (And.intro h4 True.intro)))) (by kernel_rfl)
        · rcases cond_cases hM with ⟨h5, hM⟩ | ⟨h5, hM⟩
          · have hE : some false = some r := hM
            have hE := Option.some.inj hE
            subst hE
            exact pr R 9999 [.new 0, .new 1, .as 9 false, .as 14 false, .as 19 false, .as 24 false, .as 29 true] [] [] [] (And.intro h1 (And.intro h2 (And.intro h3 (And.intro h4 (And.intro h5 True.intro))))) (by kernel_rfl)
          · rcases cond_cases hM with ⟨h6, hM⟩ | ⟨h6, hM⟩
            · have hE : some false = some r := hM
              have hE := Option.some.inj hE
              subst hE
              exact pr R 9999 [.new 0, .new 1, .as 9 false, .as 14 false, .as 19 false, .as 24 false, .as 29 false, .as 34 true] [] [] [] (And.intro h1 (And.intro h2 (And.intro h3 (And.intro h4 (And.intro h5 (And.intro h6 True.intro)))))) (by kernel_rfl)
            · have hE : some true = some r := hM
              have hE := Option.some.inj hE
              subst hE
              exact pr R 9999 [.new 0, .new 1, .as 9 false, .as 14 false, .as 19 false, .as 24 false, .as 29 false, .as 34 false] [] [] [] (And.intro h1 (And.intro h2 (And.intro h3 (And.intro h4 (And.intro h5 (And.intro h6 True.intro)))))) (by kernel_rfl)

-- loop.example/g03014/laws.eqLegS
def laws_eqLegS_L1_b (a0 : (List Leg)) (a1 : (List Leg)) (s2 : Int) : Option (Ctl Int Unit Bool) :=
  bif (decide (s2 < (a0.length : Int))) then
  (gi a0 s2).bind fun v4 =>
  (gi a1 s2).bind fun v6 =>
  (laws_eqLeg v4 v6).bind fun v8 =>
  bif (!v8) then
  some (.ret false)
  else
  some (.next (w64 (s2 + 1)))
  else
  some (.brk ())
def laws_eqLegS_L1 (a0 : (List Leg)) (a1 : (List Leg)) (s : Int) : Option (Ctl Int Unit Bool) := laws_eqLegS_L1_b a0 a1 s
def laws_eqLegS_L1_s (a0 : (List Leg)) (a1 : (List Leg)) (s2 : Int) : St := ⟨[(0, .o (.c (.rs 6 (a0.map Leg.enc)))), (1, .o (.c (.rs 6 (a1.map Leg.enc)))), (5, .o (.c (.v (.int .i64 s2))))], []⟩
def laws_eqLegS_L1_S (a0 : (List Leg)) (a1 : (List Leg)) (s : Int) : St := laws_eqLegS_L1_s a0 a1 s
def laws_eqLegS_L1_a : Option Bool :=
  some true
def laws_eqLegS_L1_k (x : (Unit) ⊕ (Bool)) : Option Bool := match x with
  | .inl t => laws_eqLegS_L1_a
  | .inr y => some y
def laws_eqLegS (a0 : (List Leg)) (a1 : (List Leg)) : Option Bool :=
  bif ((a0.length : Int) != (a1.length : Int)) then
  some false
  else
  (loopM (laws_eqLegS_L1 a0 a1) big 0).bind (laws_eqLegS_L1_k)
theorem laws_eqLegS_ok (a0 : (List Leg)) (a1 : (List Leg)) (r : Bool) (hM : laws_eqLegS a0 a1 = some r) :
    Con Try.prog 45 [.c (.rs 6 (a0.map Leg.enc)), .c (.rs 6 (a1.map Leg.enc))] [] (.o (.c (.v (.bool r)))) [] [] := by
  unfold laws_eqLegS at hM
  refine cn (N := 27) (pids := []) Try_mixed Try.func45 (by kernel_rfl) (by kernel_rfl) (by kernel_rfl) rfl fun ρ g w R => ?_
  rcases cond_cases hM with ⟨h1, hM⟩ | ⟨h1, hM⟩
  · have hE : some false = some r := hM
    have hE := Option.some.inj hE
    subst hE
    exact pr R 9999 [.ln (a0.length), .ln (a1.length), .as 10 true] [] [] [] (And.intro (lenm Leg.enc a0) (And.intro (lenm Leg.enc a1) (And.intro h1 True.intro))) (by kernel_rfl)
  · have K1 : ∀ (_ : Unit), laws_eqLegS_L1_a = some r → Gr R [.code (cAt Try.f45 [1, 1, 1])] (⟨[], []⟩) := by
      intro _ hM
      unfold laws_eqLegS_L1_a at hM
      have hE : some true = some r := hM
      have hE := Option.some.inj hE
      subst hE
      exact pr R 9999 [] [] [] [] True.intro (by kernel_rfl)
    refine pc R 9999 [.ln (a0.length), .ln (a1.length), .as 10 false] [.keep [0, 1, 5] []] (k' := [.code (.loop (cAt Try.f45 [1, 1, 0, 1, 0, 0])), .blk 0, .code (cAt Try.f45 [1, 1, 1])]) (S' := laws_eqLegS_L1_S a0 a1 0) (And.intro (lenm Leg.enc a0) (And.intro (lenm Leg.enc a1) (And.intro h1 True.intro))) (by kernel_rfl) ?_
    refine lq (laws_eqLegS_L1_S a0 a1) (body := laws_eqLegS_L1 a0 a1) (k := laws_eqLegS_L1_k) hM fun m1 s c1 hM hK1 => ?_
    obtain ⟨s2, hs⟩ : ∃ z, z = s := ⟨_, rfl⟩
    subst hs
    have hM : laws_eqLegS_L1_b a0 a1 s2 = some c1 := hM
    unfold laws_eqLegS_L1_b at hM
    rcases cond_cases hM with ⟨h3, hM⟩ | ⟨h3, hM⟩
    · obtain ⟨v4, h5, hM⟩ := bind_some hM
      obtain ⟨v6, h7, hM⟩ := bind_some hM
      obtain ⟨v8, h9, hM⟩ := bind_some hM
      rcases cond_cases hM with ⟨h10, hM⟩ | ⟨h10, hM⟩
      · have hE : some (Ctl.ret false) = some c1 := hM
        have hE := Option.some.inj hE
        subst hE
        have hE : some false = some r := hK1
        have hE := Option.some.inj hE
        subst hE
        exact pr R 9999 [.ln (a0.length), .as 14 true, .ix (Leg.enc v4), .ix (Leg.enc v6), .call false [] (.o (.c (.v (.bool v8)))) [] [], .as 26 true] [] [] [] (And.intro (lenm Leg.enc a0) (And.intro h3 (And.intro (gi_map Leg.enc h5) (And.intro (gi_map Leg.enc h7) (And.intro (laws_eqLeg_ok v4 v6 v8 h9) (And.intro h10 True.intro)))))) (by kernel_rfl)
      · have hE : some (Ctl.next (w64 (s2 + 1))) = some c1 := hM
        have hE := Option.some.inj hE
        subst hE
        exact pc R 9999 [.ln (a0.length), .as 14 true, .ix (Leg.enc v4), .ix (Leg.enc v6), .call false [] (.o (.c (.v (.bool v8)))) [] [], .as 26 false] [.keep [0, 1, 5] []] (And.intro (lenm Leg.enc a0) (And.intro h3 (And.intro (gi_map Leg.enc h5) (And.intro (gi_map Leg.enc h7) (And.intro (laws_eqLeg_ok v4 v6 v8 h9) (And.intro h10 True.intro)))))) (by kernel_rfl) (li (Sf := laws_eqLegS_L1_S a0 a1) (M := Mk (laws_eqLegS_L1 a0 a1) (laws_eqLegS_L1_k) r) (k := [.blk 0, .code (cAt Try.f45 [1, 1, 1])]) (Nat.lt_succ_self m1) hK1)
    · have hE : some (Ctl.brk ()) = some c1 := hM
      have hE := Option.some.inj hE
      subst hE
      exact pc R 5 [.ln (a0.length), .as 14 false] [.keep [] []] (And.intro (lenm Leg.enc a0) (And.intro h3 True.intro)) (by kernel_rfl) (K1 () hK1)

-- loop.example/g03014/laws.eqIntS
def laws_eqIntS_L1_b (a0 : (List Int)) (a1 : (List Int)) (s2 : Int) : Option (Ctl Int Unit Bool) :=
  bif (decide (s2 < (a0.length : Int))) then
  (gi a0 s2).bind fun v4 =>
  (gi a1 s2).bind fun v6 =>
  bif (v4 != v6) then
  some (.ret false)
  else
  some (.next (w64 (s2 + 1)))
  else
  some (.brk ())
def laws_eqIntS_L1 (a0 : (List Int)) (a1 : (List Int)) (s : Int) : Option (Ctl Int Unit Bool) := laws_eqIntS_L1_b a0 a1 s
def laws_eqIntS_L1_s (a0 : (List Int)) (a1 : (List Int)) (s2 : Int) : St := ⟨[(0, .o (.c (.rs 1 (a0.map encI)))), (1, .o (.c (.rs 1 (a1.map encI)))), (5, .o (.c (.v (.int .i64 s2))))], []⟩
def laws_eqIntS_L1_S (a0 : (List Int)) (a1 : (List Int)) (s : Int) : St := laws_eqIntS_L1_s a0 a1 s
def laws_eqIntS_L1_a : Option Bool :=
  some true
def laws_eqIntS_L1_k (x : (Unit) ⊕ (Bool)) : Option Bool := match x with
  | .inl t => laws_eqIntS_L1_a
  | .inr y => some y
def laws_eqIntS (a0 : (List Int)) (a1 : (List Int)) : Option Bool :=
  bif ((a0.length : Int) != (a1.length : Int)) then
  some false
  else
  (loopM (laws_eqIntS_L1 a0 a1) big 0).bind (laws_eqIntS_L1_k)
theorem laws_eqIntS_ok (a0 : (List Int)) (a1 : (List Int)) (r : Bool) (hM : laws_eqIntS a0 a1 = some r) :
    Con Try.prog 46 [.c (.rs 1 (a0.map encI)), .c (.rs 1 (a1.map encI))] [] (.o (.c (.v (.bool r)))) [] [] := by
  unfold laws_eqIntS at hM
  refine cn (N := 26) (pids := []) Try_mixed Try.func46 (by kernel_rfl) (by kernel_rfl) (by kernel_rfl) rfl fun ρ g w R => ?_
  rcases cond_cases hM with ⟨h1, hM⟩ | ⟨h1, hM⟩
  · have hE : some false = some r := hM
    have hE := Option.some.inj hE
    subst hE
    exact pr R 9999 [.ln (a0.length), .ln (a1.length), .as 10 true] [] [] [] (And.intro (lenm encI a0) (And.intro (lenm encI a1) (And.intro h1 True.intro))) (by kernel_rfl)
  · have K1 : ∀ (_ : Unit), laws_eqIntS_L1_a = some r → Gr R [.code (cAt Try.f46 [1, 1, 1])] (⟨[], []⟩) := by
      intro _ hM
      unfold laws_eqIntS_L1_a at hM
      have hE : some true = some r := hM
      have hE := Option.some.inj hE
      subst hE
      exact pr R 9999 [] [] [] [] True.intro (by kernel_rfl)
    refine pc R 9999 [.ln (a0.length), .ln (a1.length), .as 10 false] [.keep [0, 1, 5] []] (k' := [.code (.loop (cAt Try.f46 [1, 1, 0, 1, 0, 0])), .blk 0, .code (cAt Try.f46 [1, 1, 1])]) (S' := laws_eqIntS_L1_S a0 a1 0) (And.intro (lenm encI a0) (And.intro (lenm encI a1) (And.intro h1 True.intro))) (by kernel_rfl) ?_
    refine lq (laws_eqIntS_L1_S a0 a1) (body := laws_eqIntS_L1 a0 a1) (k := laws_eqIntS_L1_k) hM fun m1 s c1 hM hK1 => ?_
    obtain ⟨s2, hs⟩ : ∃ z, z = s := ⟨_, rfl⟩
    subst hs
    have hM : laws_eqIntS_L1_b a0 a1 s2 = some c1 := hM
    unfold laws_eqIntS_L1_b at hM
    rcases cond_cases hM with ⟨h3, hM⟩ | ⟨h3, hM⟩
    · obtain ⟨v4, h5, hM⟩ := bind_some hM
      obtain ⟨v6, h7, hM⟩ := bind_some hM
      rcases cond_cases hM with ⟨h8, hM⟩ | ⟨h8, hM⟩
      · have hE : some (Ctl.ret false) = some c1 := hM
        have hE := Option.some.inj hE
        subst hE
        have hE : some false = some r := hK1
        have hE := Option.some.inj hE
        subst hE
        exact pr R 9999 [.ln (a0.length), .as 14 true, .ix (encI v4), .ix (encI v6), .as 25 true] [] [] [] (And.intro (lenm encI a0) (And.intro h3 (And.intro (gi_map encI h5) (And.intro (gi_map encI h7) (And.intro h8 True.intro))))) (by kernel_rfl)
      · have hE : some (Ctl.next (w64 (s2 + 1))) = some c1 := hM
        have hE := Option.some.inj hE
        subst hE
        exact pc R 9999 [.ln (a0.length), .as 14 true, .ix (encI v4), .ix (encI v6), .as 25 false] [.keep [0, 1, 5] []] (And.intro (lenm encI a0) (And.intro h3 (And.intro (gi_map encI h5) (And.intro (gi_map encI h7) (And.intro h8 True.intro))))) (by kernel_rfl) (li (Sf := laws_eqIntS_L1_S a0 a1) (M := Mk (laws_eqIntS_L1 a0 a1) (laws_eqIntS_L1_k) r) (k := [.blk 0, .code (cAt Try.f46 [1, 1, 1])]) (Nat.lt_succ_self m1) hK1)
    · have hE : some (Ctl.brk ()) = some c1 := hM
      have hE := Option.some.inj hE
      subst hE
      exact pc R 5 [.ln (a0.length), .as 14 false] [.keep [] []] (And.intro (lenm encI a0) (And.intro h3 True.intro)) (by kernel_rfl) (K1 () hK1)

-- loop.example/g03014/laws.eqNetwork
def laws_eqNetwork (a0 : Network) (a1 : Network) : Option Bool :=
  (laws_eqLegS a0.Legs a1.Legs).bind fun v1 =>
  bif (!v1) then
  some false
  else
  (laws_eqIntS a0.Off a1.Off).bind fun v4 =>
  bif (!v4) then
  some false
  else
  bif (a0.Change != a1.Change) then
  some false
  else
  some true
theorem laws_eqNetwork_ok (a0 : Network) (a1 : Network) (r : Bool) (hM : laws_eqNetwork a0 a1 = some r) :
    Con Try.prog 12 [.agg [.rs 6 (a0.Legs.map Leg.enc), .rs 1 (a0.Off.map encI), .v (.int .i64 a0.Change)], .agg [.rs 6 (a1.Legs.map Leg.enc), .rs 1 (a1.Off.map encI), .v (.int .i64 a1.Change)]] [] (.o (.c (.v (.bool r)))) [] [] := by
  unfold laws_eqNetwork at hM
  refine cn (N := 22) (pids := []) Try_mixed Try.func12 (by kernel_rfl) (by kernel_rfl) (by kernel_rfl) rfl fun ρ g w R => ?_
  obtain ⟨v1, h2, hM⟩ := bind_some hM
  rcases cond_cases hM with ⟨h3, hM⟩ | ⟨h3, hM⟩
  · have hE : some false = some r := hM
    have hE := Option.some.inj hE
    subst hE
    exact pr R 9999 [.new 0, .new 1, .call false [] (.o (.c (.v (.bool v1)))) [] [], .as 10 true] [] [] [] (And.intro (laws_eqLegS_ok a0.Legs a1.Legs v1 h2) (And.intro h3 True.intro)) (by kernel_rfl)
  · obtain ⟨v4, h5, hM⟩ := bind_some hM
    rcases cond_cases hM with ⟨h6, hM⟩ | ⟨h6, hM⟩
    · have hE : some false = some r := hM
      have hE := Option.some.inj hE
      subst hE
      exact pr R 9999 [.new 0, .new 1, .call false [] (.o (.c (.v (.bool v1)))) [] [], .as 10 false, .call false [] (.o (.c (.v (.bool v4)))) [] [], .as 16 true] [] [] [] (And.intro (laws_eqLegS_ok a0.Legs a1.Legs v1 h2) (And.intro h3 (And.intro (laws_eqIntS_ok a0.Off a1.Off v4 h5) (And.intro h6 True.intro)))) (by kernel_rfl)
    · rcases cond_cases hM with ⟨h7, hM⟩ | ⟨h7, hM⟩
      · have hE : some false = some r := hM
        have hE := Option.some.inj hE
        subst hE
        exact pr R 9999 [.new 0, .new 1, .call false [] (.o (.c (.v (.bool v1)))) [] [], .as 10 false, .call false [] (.o (.c (.v (.bool v4)))) [] [], .as 16 false, .as 21 true] [] [] [] (And.intro (laws_eqLegS_ok a0.Legs a1.Legs v1 h2) (And.intro h3 (And.intro (laws_eqIntS_ok a0.Off a1.Off v4 h5) (And.intro h6 (And.intro h7 True.intro))))) (by kernel_rfl)
      · have hE : some true = some r := hM
        have hE := Option.some.inj hE
        subst hE
        exact pr R 9999 [.new 0, .new 1, .call false [] (.o (.c (.v (.bool v1)))) [] [], .as 10 false, .call false [] (.o (.c (.v (.bool v4)))) [] [], .as 16 false, .as 21 false] [] [] [] (And.intro (laws_eqLegS_ok a0.Legs a1.Legs v1 h2) (And.intro h3 (And.intro (laws_eqIntS_ok a0.Off a1.Off v4 h5) (And.intro h6 (And.intro h7 True.intro))))) (by kernel_rfl)

-- loop.example/g03014/laws.markText
def laws_markText_L1_b (s2 : Int) (s3 : ByteArray) : Option (Ctl (Int × ByteArray) ByteArray ByteArray) :=
  bif (decide (s2 > 0)) then
  (catM (strOfNums ([IntKind.u8.wrap (w64 (48 + (Int.tmod s2 10)))] : List Int)) s3).bind fun v8 =>
  some (.next (w64 (Int.tdiv s2 10), v8))
  else
  some (.brk s3)
def laws_markText_L1 (s : Int × ByteArray) : Option (Ctl (Int × ByteArray) ByteArray ByteArray) := laws_markText_L1_b s.1 s.2
def laws_markText_L1_s (s2 : Int) (s3 : ByteArray) : St := ⟨[(0, .o (.c (.v (.int .i64 s2)))), (3, .o (.c (.v (.string s3))))], []⟩
def laws_markText_L1_S (s : Int × ByteArray) : St := laws_markText_L1_s s.1 s.2
def laws_markText_L1_a (s4 : ByteArray) : Option ByteArray :=
  (catM (ByteArray.mk #[109]) s4).bind fun v5 =>
  some v5
def laws_markText_L1_k (x : (ByteArray) ⊕ (ByteArray)) : Option ByteArray := match x with
  | .inl t => laws_markText_L1_a t
  | .inr y => some y
def laws_markText (a0 : Int) : Option ByteArray :=
  bif (decide (a0 ≤ 0)) then
  some (ByteArray.mk #[109, 48])
  else
  (loopM (laws_markText_L1) big (a0, (ByteArray.mk #[]))).bind (laws_markText_L1_k)
theorem laws_markText_ok (a0 : Int) (r : ByteArray) (hM : laws_markText a0 = some r) :
    Con Try.prog 85 [.c (.v (.int .i64 a0))] [] (.o (.c (.v (.string r)))) [] [] := by
  unfold laws_markText at hM
  refine cn (N := 20) (pids := []) Try_mixed Try.func85 (by kernel_rfl) (by kernel_rfl) (by kernel_rfl) rfl fun ρ g w R => ?_
  rcases cond_cases hM with ⟨h1, hM⟩ | ⟨h1, hM⟩
  · have hE : some (ByteArray.mk #[109, 48]) = some r := hM
    have hE := Option.some.inj hE
    subst hE
    exact pr R 9999 [.as 5 true] [] [] [] (And.intro h1 True.intro) (by kernel_rfl)
  · have K1 : ∀ (s4 : ByteArray), laws_markText_L1_a s4 = some r → Gr R [.code (cAt Try.f85 [1, 1, 1, 1])] (⟨[(3, .o (.c (.v (.string s4))))], []⟩) := by
      intro s4 hM
      unfold laws_markText_L1_a at hM
      obtain ⟨v5, h6, hM⟩ := bind_some hM
      have hE : some v5 = some r := hM
      have hE := Option.some.inj hE
      subst hE
      exact pr R 9999 [.run 19 (.string v5)] [] [] [] (And.intro (catM_run (P := Try.prog) (t := 9) (x := .tmp 0) (y := .tmp 0) h6) True.intro) (by kernel_rfl)
    refine pc R 9999 [.as 5 false] [.keep [0, 3] []] (k' := [.code (.loop (cAt Try.f85 [1, 1, 1, 0, 0, 0])), .blk 0, .code (cAt Try.f85 [1, 1, 1, 1])]) (S' := laws_markText_L1_S (a0, (ByteArray.mk #[]))) (And.intro h1 True.intro) (by kernel_rfl) ?_
    refine lq (laws_markText_L1_S) (body := laws_markText_L1) (k := laws_markText_L1_k) hM fun m1 s c1 hM hK1 => ?_
    obtain ⟨s2, s3⟩ := s
    have hM : laws_markText_L1_b s2 s3 = some c1 := hM
    unfold laws_markText_L1_b at hM
    rcases cond_cases hM with ⟨h7, hM⟩ | ⟨h7, hM⟩
    · obtain ⟨v8, h9, hM⟩ := bind_some hM
      have hE : some (Ctl.next (w64 (Int.tdiv s2 10), v8)) = some c1 := hM
      have hE := Option.some.inj hE
      subst hE
      exact pc R 9999 [.as 7 true, .new 0, .ix [.string (strOfNums ([IntKind.u8.wrap (w64 (48 + (Int.tmod s2 10)))] : List Int))], .run 15 (.string v8)] [.keep [0, 3] []] (And.intro h7 (And.intro (conv_ok ([IntKind.u8.wrap (w64 (48 + (Int.tmod s2 10)))] : List Int)) (And.intro (catM_run (P := Try.prog) (t := 9) (x := .tmp 0) (y := .tmp 0) h9) True.intro))) (by kernel_rfl) (li (Sf := laws_markText_L1_S) (M := Mk (laws_markText_L1) (laws_markText_L1_k) r) (k := [.blk 0, .code (cAt Try.f85 [1, 1, 1, 1])]) (Nat.lt_succ_self m1) hK1)
    · have hE : some (Ctl.brk s3) = some c1 := hM
      have hE := Option.some.inj hE
      subst hE
      exact pc R 5 [.as 7 false] [.keep [3] []] (And.intro h7 True.intro) (by kernel_rfl) (K1 s3 hK1)

-- loop.example/g03014/laws.markLegS
def laws_markLegS_L1_b (s1 : (List Leg)) (s2 : Int) (s3 : Int) : Option (Ctl ((List Leg) × Int × Int) ((List Leg) × Int) (Int × (List Leg))) :=
  bif (decide (s3 < (s1.length : Int))) then
  (laws_markText s2).bind fun v7 =>
  (gi s1 s3).bind fun v9 =>
  (laws_markText (w64 (s2 + 1))).bind fun v11 =>
  (gi (List.set s1 (Int.toNat s3) (Leg.mk v7 v9.To v9.Start v9.Takes v9.Days v9.Room)) s3).bind fun v13 =>
  (gi (List.set (List.set s1 (Int.toNat s3) (Leg.mk v7 v9.To v9.Start v9.Takes v9.Days v9.Room)) (Int.toNat s3) (Leg.mk v13.From v11 v13.Start v13.Takes v13.Days v13.Room)) s3).bind fun v15 =>
  (gi (List.set (List.set (List.set s1 (Int.toNat s3) (Leg.mk v7 v9.To v9.Start v9.Takes v9.Days v9.Room)) (Int.toNat s3) (Leg.mk v13.From v11 v13.Start v13.Takes v13.Days v13.Room)) (Int.toNat s3) (Leg.mk v15.From v15.To (w64 ((w64 (s2 + 1)) + 1)) v15.Takes v15.Days v15.Room)) s3).bind fun v17 =>
  (gi (List.set (List.set (List.set (List.set s1 (Int.toNat s3) (Leg.mk v7 v9.To v9.Start v9.Takes v9.Days v9.Room)) (Int.toNat s3) (Leg.mk v13.From v11 v13.Start v13.Takes v13.Days v13.Room)) (Int.toNat s3) (Leg.mk v15.From v15.To (w64 ((w64 (s2 + 1)) + 1)) v15.Takes v15.Days v15.Room)) (Int.toNat s3) (Leg.mk v17.From v17.To v17.Start (w64 ((w64 ((w64 (s2 + 1)) + 1)) + 1)) v17.Days v17.Room)) s3).bind fun v19 =>
  (gi (List.set (List.set (List.set (List.set (List.set s1 (Int.toNat s3) (Leg.mk v7 v9.To v9.Start v9.Takes v9.Days v9.Room)) (Int.toNat s3) (Leg.mk v13.From v11 v13.Start v13.Takes v13.Days v13.Room)) (Int.toNat s3) (Leg.mk v15.From v15.To (w64 ((w64 (s2 + 1)) + 1)) v15.Takes v15.Days v15.Room)) (Int.toNat s3) (Leg.mk v17.From v17.To v17.Start (w64 ((w64 ((w64 (s2 + 1)) + 1)) + 1)) v17.Days v17.Room)) (Int.toNat s3) (Leg.mk v19.From v19.To v19.Start v19.Takes (w64 ((w64 ((w64 ((w64 (s2 + 1)) + 1)) + 1)) + 1)) v19.Room)) s3).bind fun v21 =>
  some (.next (List.set (List.set (List.set (List.set (List.set (List.set s1 (Int.toNat s3) (Leg.mk v7 v9.To v9.Start v9.Takes v9.Days v9.Room)) (Int.toNat s3) (Leg.mk v13.From v11 v13.Start v13.Takes v13.Days v13.Room)) (Int.toNat s3) (Leg.mk v15.From v15.To (w64 ((w64 (s2 + 1)) + 1)) v15.Takes v15.Days v15.Room)) (Int.toNat s3) (Leg.mk v17.From v17.To v17.Start (w64 ((w64 ((w64 (s2 + 1)) + 1)) + 1)) v17.Days v17.Room)) (Int.toNat s3) (Leg.mk v19.From v19.To v19.Start v19.Takes (w64 ((w64 ((w64 ((w64 (s2 + 1)) + 1)) + 1)) + 1)) v19.Room)) (Int.toNat s3) (Leg.mk v21.From v21.To v21.Start v21.Takes v21.Days (w64 ((w64 ((w64 ((w64 ((w64 (s2 + 1)) + 1)) + 1)) + 1)) + 1))), w64 ((w64 ((w64 ((w64 ((w64 ((w64 (s2 + 1)) + 1)) + 1)) + 1)) + 1)) + 1), w64 (s3 + 1)))
  else
  some (.brk (s1, s2))
def laws_markLegS_L1 (s : (List Leg) × Int × Int) : Option (Ctl ((List Leg) × Int × Int) ((List Leg) × Int) (Int × (List Leg))) := laws_markLegS_L1_b s.1 s.2.1 s.2.2
def laws_markLegS_L1_s (s1 : (List Leg)) (s2 : Int) (s3 : Int) : St := ⟨[(0, .o (.c (.sl 900))), (1, .o (.c (.v (.int .i64 s2)))), (5, .o (.c (.v (.int .i64 s3))))], [(900, .row 66 6 (s1.map Leg.enc))]⟩
def laws_markLegS_L1_S (s : (List Leg) × Int × Int) : St := laws_markLegS_L1_s s.1 s.2.1 s.2.2
def laws_markLegS_L1_a (s4 : (List Leg)) (s5 : Int) : Option (Int × (List Leg)) :=
  some (s5, s4)
def laws_markLegS_L1_k (x : ((List Leg) × Int) ⊕ (Int × (List Leg))) : Option (Int × (List Leg)) := match x with
  | .inl t => laws_markLegS_L1_a t.1 t.2
  | .inr y => some y
def laws_markLegS (a0 : (List Leg)) (a1 : Int) : Option (Int × (List Leg)) :=
  (loopM (laws_markLegS_L1) big (a0, a1, 0)).bind (laws_markLegS_L1_k)
theorem laws_markLegS_ok (a0 : (List Leg)) (a1 : Int) (r : Int × (List Leg)) (hM : laws_markLegS a0 a1 = some r) :
    Con Try.prog 47 [.c (.sl 900), .c (.v (.int .i64 a1))] [(900, .row 66 6 (a0.map Leg.enc))] (.o (.c (.v (.int .i64 r.1)))) [(900, .row 66 6 (r.2.map Leg.enc))] [] := by
  unfold laws_markLegS at hM
  refine cn (N := 57) (pids := [900]) Try_mixed Try.func47 (by kernel_rfl) (by kernel_rfl) (by kernel_rfl) rfl fun ρ g w R => ?_
  have K1 : ∀ (s4 : (List Leg)) (s5 : Int), laws_markLegS_L1_a s4 s5 = some r → Gr R [.code (cAt Try.f47 [1, 1])] (⟨[(0, .o (.c (.sl 900))), (1, .o (.c (.v (.int .i64 s5))))], [(900, .row 66 6 (s4.map Leg.enc))]⟩) := by
    intro s4 s5 hM
    unfold laws_markLegS_L1_a at hM
    have hE : some (s5, s4) = some r := hM
    have hE := Option.some.inj hE
    subst hE
    exact pr R 9999 [] [] [900] [] True.intro (by kernel_rfl)
  refine pc R 9999 [] [.keep [0, 1, 5] [900]] (k' := [.code (.loop (cAt Try.f47 [1, 0, 1, 0, 0])), .blk 0, .code (cAt Try.f47 [1, 1])]) (S' := laws_markLegS_L1_S (a0, a1, 0)) True.intro (by kernel_rfl) ?_
  refine lq (laws_markLegS_L1_S) (body := laws_markLegS_L1) (k := laws_markLegS_L1_k) hM fun m1 s c1 hM hK1 => ?_
  obtain ⟨s1, s2, s3⟩ := s
  have hM : laws_markLegS_L1_b s1 s2 s3 = some c1 := hM
  unfold laws_markLegS_L1_b at hM
  rcases cond_cases hM with ⟨h6, hM⟩ | ⟨h6, hM⟩
  · obtain ⟨v7, h8, hM⟩ := bind_some hM
    obtain ⟨v9, h10, hM⟩ := bind_some hM
    obtain ⟨v11, h12, hM⟩ := bind_some hM
    obtain ⟨v13, h14, hM⟩ := bind_some hM
    obtain ⟨v15, h16, hM⟩ := bind_some hM
    obtain ⟨v17, h18, hM⟩ := bind_some hM
    obtain ⟨v19, h20, hM⟩ := bind_some hM
    obtain ⟨v21, h22, hM⟩ := bind_some hM
    have hE : some (Ctl.next (List.set (List.set (List.set (List.set (List.set (List.set s1 (Int.toNat s3) (Leg.mk v7 v9.To v9.Start v9.Takes v9.Days v9.Room)) (Int.toNat s3) (Leg.mk v13.From v11 v13.Start v13.Takes v13.Days v13.Room)) (Int.toNat s3) (Leg.mk v15.From v15.To (w64 ((w64 (s2 + 1)) + 1)) v15.Takes v15.Days v15.Room)) (Int.toNat s3) (Leg.mk v17.From v17.To v17.Start (w64 ((w64 ((w64 (s2 + 1)) + 1)) + 1)) v17.Days v17.Room)) (Int.toNat s3) (Leg.mk v19.From v19.To v19.Start v19.Takes (w64 ((w64 ((w64 ((w64 (s2 + 1)) + 1)) + 1)) + 1)) v19.Room)) (Int.toNat s3) (Leg.mk v21.From v21.To v21.Start v21.Takes v21.Days (w64 ((w64 ((w64 ((w64 ((w64 (s2 + 1)) + 1)) + 1)) + 1)) + 1))), w64 ((w64 ((w64 ((w64 ((w64 ((w64 (s2 + 1)) + 1)) + 1)) + 1)) + 1)) + 1), w64 (s3 + 1))) = some c1 := hM
    have hE := Option.some.inj hE
    subst hE
    exact pc R 9999 [.ln (s1.length), .as 9 true, .call false [] (.o (.c (.v (.string v7)))) [] [], .ix (Leg.enc v9), .nm ((List.set s1 (Int.toNat s3) (Leg.mk v7 v9.To v9.Start v9.Takes v9.Days v9.Room)).map Leg.enc), .call false [] (.o (.c (.v (.string v11)))) [] [], .ix (Leg.enc v13), .nm ((List.set (List.set s1 (Int.toNat s3) (Leg.mk v7 v9.To v9.Start v9.Takes v9.Days v9.Room)) (Int.toNat s3) (Leg.mk v13.From v11 v13.Start v13.Takes v13.Days v13.Room)).map Leg.enc), .ix (Leg.enc v15), .nm ((List.set (List.set (List.set s1 (Int.toNat s3) (Leg.mk v7 v9.To v9.Start v9.Takes v9.Days v9.Room)) (Int.toNat s3) (Leg.mk v13.From v11 v13.Start v13.Takes v13.Days v13.Room)) (Int.toNat s3) (Leg.mk v15.From v15.To (w64 ((w64 (s2 + 1)) + 1)) v15.Takes v15.Days v15.Room)).map Leg.enc), .ix (Leg.enc v17), .nm ((List.set (List.set (List.set (List.set s1 (Int.toNat s3) (Leg.mk v7 v9.To v9.Start v9.Takes v9.Days v9.Room)) (Int.toNat s3) (Leg.mk v13.From v11 v13.Start v13.Takes v13.Days v13.Room)) (Int.toNat s3) (Leg.mk v15.From v15.To (w64 ((w64 (s2 + 1)) + 1)) v15.Takes v15.Days v15.Room)) (Int.toNat s3) (Leg.mk v17.From v17.To v17.Start (w64 ((w64 ((w64 (s2 + 1)) + 1)) + 1)) v17.Days v17.Room)).map Leg.enc), .ix (Leg.enc v19), .nm ((List.set (List.set (List.set (List.set (List.set s1 (Int.toNat s3) (Leg.mk v7 v9.To v9.Start v9.Takes v9.Days v9.Room)) (Int.toNat s3) (Leg.mk v13.From v11 v13.Start v13.Takes v13.Days v13.Room)) (Int.toNat s3) (Leg.mk v15.From v15.To (w64 ((w64 (s2 + 1)) + 1)) v15.Takes v15.Days v15.Room)) (Int.toNat s3) (Leg.mk v17.From v17.To v17.Start (w64 ((w64 ((w64 (s2 + 1)) + 1)) + 1)) v17.Days v17.Room)) (Int.toNat s3) (Leg.mk v19.From v19.To v19.Start v19.Takes (w64 ((w64 ((w64 ((w64 (s2 + 1)) + 1)) + 1)) + 1)) v19.Room)).map Leg.enc), .ix (Leg.enc v21), .nm ((List.set (List.set (List.set (List.set (List.set (List.set s1 (Int.toNat s3) (Leg.mk v7 v9.To v9.Start v9.Takes v9.Days v9.Room)) (Int.toNat s3) (Leg.mk v13.From v11 v13.Start v13.Takes v13.Days v13.Room)) (Int.toNat s3) (Leg.mk v15.From v15.To (w64 ((w64 (s2 + 1)) + 1)) v15.Takes v15.Days v15.Room)) (Int.toNat s3) (Leg.mk v17.From v17.To v17.Start (w64 ((w64 ((w64 (s2 + 1)) + 1)) + 1)) v17.Days v17.Room)) (Int.toNat s3) (Leg.mk v19.From v19.To v19.Start v19.Takes (w64 ((w64 ((w64 ((w64 (s2 + 1)) + 1)) + 1)) + 1)) v19.Room)) (Int.toNat s3) (Leg.mk v21.From v21.To v21.Start v21.Takes v21.Days (w64 ((w64 ((w64 ((w64 ((w64 (s2 + 1)) + 1)) + 1)) + 1)) + 1)))).map Leg.enc)] [.keep [0, 1, 5] [900]] (And.intro (lenm Leg.enc s1) (And.intro h6 (And.intro (laws_markText_ok s2 v7 h8) (And.intro (gi_lt Leg.enc h10) (And.intro (And.intro (gi_map Leg.enc h10).2 (set_map Leg.enc s1 (Int.toNat s3) (Leg.mk v7 v9.To v9.Start v9.Takes v9.Days v9.Room))) (And.intro (laws_markText_ok (w64 (s2 + 1)) v11 h12) (And.intro (gi_lt Leg.enc h14) (And.intro (And.intro (gi_map Leg.enc h14).2 (set_map Leg.enc (List.set s1 (Int.toNat s3) (Leg.mk v7 v9.To v9.Start v9.Takes v9.Days v9.Room)) (Int.toNat s3) (Leg.mk v13.From v11 v13.Start v13.Takes v13.Days v13.Room))) (And.intro (gi_lt Leg.enc h16) (And.intro (And.intro (gi_map Leg.enc h16).2 (set_map Leg.enc (List.set (List.set s1 (Int.toNat s3) (Leg.mk v7 v9.To v9.Start v9.Takes v9.Days v9.Room)) (Int.toNat s3) (Leg.mk v13.From v11 v13.Start v13.Takes v13.Days v13.Room)) (Int.toNat s3) (Leg.mk v15.From v15.To (w64 ((w64 (s2 + 1)) + 1)) v15.Takes v15.Days v15.Room))) (And.intro (gi_lt Leg.enc h18) (And.intro (And.intro (gi_map Leg.enc h18).2 (set_map Leg.enc (List.set (List.set (List.set s1 (Int.toNat s3) (Leg.mk v7 v9.To v9.Start v9.Takes v9.Days v9.Room)) (Int.toNat s3) (Leg.mk v13.From v11 v13.Start v13.Takes v13.Days v13.Room)) (Int.toNat s3) (Leg.mk v15.From v15.To (w64 ((w64 (s2 + 1)) + 1)) v15.Takes v15.Days v15.Room)) (Int.toNat s3) (Leg.mk v17.From v17.To v17.Start (w64 ((w64 ((w64 (s2 + 1)) + 1)) + 1)) v17.Days v17.Room))) (And.intro (gi_lt Leg.enc h20) (And.intro (And.intro (gi_map Leg.enc h20).2 (set_map Leg.enc (List.set (List.set (List.set (List.set s1 (Int.toNat s3) (Leg.mk v7 v9.To v9.Start v9.Takes v9.Days v9.Room)) (Int.toNat s3) (Leg.mk v13.From v11 v13.Start v13.Takes v13.Days v13.Room)) (Int.toNat s3) (Leg.mk v15.From v15.To (w64 ((w64 (s2 + 1)) + 1)) v15.Takes v15.Days v15.Room)) (Int.toNat s3) (Leg.mk v17.From v17.To v17.Start (w64 ((w64 ((w64 (s2 + 1)) + 1)) + 1)) v17.Days v17.Room)) (Int.toNat s3) (Leg.mk v19.From v19.To v19.Start v19.Takes (w64 ((w64 ((w64 ((w64 (s2 + 1)) + 1)) + 1)) + 1)) v19.Room))) (And.intro (gi_lt Leg.enc h22) (And.intro (And.intro (gi_map Leg.enc h22).2 (set_map Leg.enc (List.set (List.set (List.set (List.set (List.set s1 (Int.toNat s3) (Leg.mk v7 v9.To v9.Start v9.Takes v9.Days v9.Room)) (Int.toNat s3) (Leg.mk v13.From v11 v13.Start v13.Takes v13.Days v13.Room)) (Int.toNat s3) (Leg.mk v15.From v15.To (w64 ((w64 (s2 + 1)) + 1)) v15.Takes v15.Days v15.Room)) (Int.toNat s3) (Leg.mk v17.From v17.To v17.Start (w64 ((w64 ((w64 (s2 + 1)) + 1)) + 1)) v17.Days v17.Room)) (Int.toNat s3) (Leg.mk v19.From v19.To v19.Start v19.Takes (w64 ((w64 ((w64 ((w64 (s2 + 1)) + 1)) + 1)) + 1)) v19.Room)) (Int.toNat s3) (Leg.mk v21.From v21.To v21.Start v21.Takes v21.Days (w64 ((w64 ((w64 ((w64 ((w64 (s2 + 1)) + 1)) + 1)) + 1)) + 1))))) True.intro)))))))))))))))) (by kernel_rfl) (li (Sf := laws_markLegS_L1_S) (M := Mk (laws_markLegS_L1) (laws_markLegS_L1_k) r) (k := [.blk 0, .code (cAt Try.f47 [1, 1])]) (Nat.lt_succ_self m1) hK1)
  · have hE : some (Ctl.brk (s1, s2)) = some c1 := hM
    have hE := Option.some.inj hE
    subst hE
    exact pc R 5 [.ln (s1.length), .as 9 false] [.keep [0, 1] [900]] (And.intro (lenm Leg.enc s1) (And.intro h6 True.intro)) (by kernel_rfl) (K1 s1 s2 hK1)

-- loop.example/g03014/laws.markIntS
def laws_markIntS_L1_b (s1 : (List Int)) (s2 : Int) (s3 : Int) : Option (Ctl ((List Int) × Int × Int) ((List Int) × Int) (Int × (List Int))) :=
  bif (decide (s3 < (s1.length : Int))) then
  (gi s1 s3).bind fun v7 =>
  some (.next (List.set s1 (Int.toNat s3) s2, w64 (s2 + 1), w64 (s3 + 1)))
  else
  some (.brk (s1, s2))
def laws_markIntS_L1 (s : (List Int) × Int × Int) : Option (Ctl ((List Int) × Int × Int) ((List Int) × Int) (Int × (List Int))) := laws_markIntS_L1_b s.1 s.2.1 s.2.2
def laws_markIntS_L1_s (s1 : (List Int)) (s2 : Int) (s3 : Int) : St := ⟨[(0, .o (.c (.sl 900))), (1, .o (.c (.v (.int .i64 s2)))), (5, .o (.c (.v (.int .i64 s3))))], [(900, .row 3 1 (s1.map encI))]⟩
def laws_markIntS_L1_S (s : (List Int) × Int × Int) : St := laws_markIntS_L1_s s.1 s.2.1 s.2.2
def laws_markIntS_L1_a (s4 : (List Int)) (s5 : Int) : Option (Int × (List Int)) :=
  some (s5, s4)
def laws_markIntS_L1_k (x : ((List Int) × Int) ⊕ (Int × (List Int))) : Option (Int × (List Int)) := match x with
  | .inl t => laws_markIntS_L1_a t.1 t.2
  | .inr y => some y
def laws_markIntS (a0 : (List Int)) (a1 : Int) : Option (Int × (List Int)) :=
  (loopM (laws_markIntS_L1) big (a0, a1, 0)).bind (laws_markIntS_L1_k)
theorem laws_markIntS_ok (a0 : (List Int)) (a1 : Int) (r : Int × (List Int)) (hM : laws_markIntS a0 a1 = some r) :
    Con Try.prog 48 [.c (.sl 900), .c (.v (.int .i64 a1))] [(900, .row 3 1 (a0.map encI))] (.o (.c (.v (.int .i64 r.1)))) [(900, .row 3 1 (r.2.map encI))] [] := by
  unfold laws_markIntS at hM
  refine cn (N := 19) (pids := [900]) Try_mixed Try.func48 (by kernel_rfl) (by kernel_rfl) (by kernel_rfl) rfl fun ρ g w R => ?_
  have K1 : ∀ (s4 : (List Int)) (s5 : Int), laws_markIntS_L1_a s4 s5 = some r → Gr R [.code (cAt Try.f48 [1, 1])] (⟨[(0, .o (.c (.sl 900))), (1, .o (.c (.v (.int .i64 s5))))], [(900, .row 3 1 (s4.map encI))]⟩) := by
    intro s4 s5 hM
    unfold laws_markIntS_L1_a at hM
    have hE : some (s5, s4) = some r := hM
    have hE := Option.some.inj hE
    subst hE
    exact pr R 9999 [] [] [900] [] True.intro (by kernel_rfl)
  refine pc R 9999 [] [.keep [0, 1, 5] [900]] (k' := [.code (.loop (cAt Try.f48 [1, 0, 1, 0, 0])), .blk 0, .code (cAt Try.f48 [1, 1])]) (S' := laws_markIntS_L1_S (a0, a1, 0)) True.intro (by kernel_rfl) ?_
  refine lq (laws_markIntS_L1_S) (body := laws_markIntS_L1) (k := laws_markIntS_L1_k) hM fun m1 s c1 hM hK1 => ?_
  obtain ⟨s1, s2, s3⟩ := s
  have hM : laws_markIntS_L1_b s1 s2 s3 = some c1 := hM
  unfold laws_markIntS_L1_b at hM
  rcases cond_cases hM with ⟨h6, hM⟩ | ⟨h6, hM⟩
  · obtain ⟨v7, h8, hM⟩ := bind_some hM
    have hE : some (Ctl.next (List.set s1 (Int.toNat s3) s2, w64 (s2 + 1), w64 (s3 + 1))) = some c1 := hM
    have hE := Option.some.inj hE
    subst hE
    exact pc R 9999 [.ln (s1.length), .as 9 true, .ix (encI v7), .nm ((List.set s1 (Int.toNat s3) s2).map encI)] [.keep [0, 1, 5] [900]] (And.intro (lenm encI s1) (And.intro h6 (And.intro (gi_lt encI h8) (And.intro (And.intro (gi_map encI h8).2 (set_map encI s1 (Int.toNat s3) s2)) True.intro)))) (by kernel_rfl) (li (Sf := laws_markIntS_L1_S) (M := Mk (laws_markIntS_L1) (laws_markIntS_L1_k) r) (k := [.blk 0, .code (cAt Try.f48 [1, 1])]) (Nat.lt_succ_self m1) hK1)
  · have hE : some (Ctl.brk (s1, s2)) = some c1 := hM
    have hE := Option.some.inj hE
    subst hE
    exact pc R 5 [.ln (s1.length), .as 9 false] [.keep [0, 1] [900]] (And.intro (lenm encI s1) (And.intro h6 True.intro)) (by kernel_rfl) (K1 s1 s2 hK1)

-- loop.example/g03014/laws.markNetwork
def laws_markNetwork (a0 : Network) (a1 : Int) : Option (Int × Network) :=
  (laws_markLegS a0.Legs a1).bind fun v1 =>
  (laws_markIntS a0.Off v1.1).bind fun v3 =>
  some (v3.1, (Network.mk v1.2 v3.2 a0.Change))
theorem laws_markNetwork_ok (a0 : Network) (a1 : Int) (r : Int × Network) (hM : laws_markNetwork a0 a1 = some r) :
    Con Try.prog 13 [.agg [.sl 900, .sl 920, .v (.int .i64 a0.Change)], .c (.v (.int .i64 a1))] [(900, .row 66 6 (a0.Legs.map Leg.enc)), (920, .row 3 1 (a0.Off.map encI))] (.o (.c (.v (.int .i64 r.1)))) [(900, .row 66 6 (r.2.Legs.map Leg.enc)), (920, .row 3 1 (r.2.Off.map encI))] [] := by
  unfold laws_markNetwork at hM
  refine cn (N := 14) (pids := [900, 920]) Try_mixed Try.func13 (by kernel_rfl) (by kernel_rfl) (by kernel_rfl) rfl fun ρ g w R => ?_
  obtain ⟨v1, h2, hM⟩ := bind_some hM
  obtain ⟨v3, h4, hM⟩ := bind_some hM
  have hE : some (v3.1, (Network.mk v1.2 v3.2 a0.Change)) = some r := hM
  have hE := Option.some.inj hE
  subst hE
  exact pr R 9999 [.new 0, .call false [900] (.o (.c (.v (.int .i64 v1.1)))) [(900, .row 66 6 (v1.2.map Leg.enc))] [], .call false [920] (.o (.c (.v (.int .i64 v3.1)))) [(920, .row 3 1 (v3.2.map encI))] []] [] [900, 920] [] (And.intro (And.intro (con_sw 900 900 (laws_markLegS_ok a0.Legs a1 v1 h2)) (rfl : ([900] : List Nat) = [900])) (And.intro (And.intro (con_sw 900 920 (laws_markIntS_ok a0.Off v1.1 v3 h4)) (rfl : ([920] : List Nat) = [920])) True.intro)) (by kernel_rfl)

-- loop.example/g03014/laws.markTripS
def laws_markTripS_L1_b (s1 : (List Trip)) (s2 : Int) (s3 : Int) : Option (Ctl ((List Trip) × Int × Int) ((List Trip) × Int) (Int × (List Trip))) :=
  bif (decide (s3 < (s1.length : Int))) then
  (gi s1 s3).bind fun v7 =>
  (gi (List.set s1 (Int.toNat s3) (Trip.mk s2 v7.Day)) s3).bind fun v9 =>
  some (.next (List.set (List.set s1 (Int.toNat s3) (Trip.mk s2 v7.Day)) (Int.toNat s3) (Trip.mk v9.Leg (w64 (s2 + 1))), w64 ((w64 (s2 + 1)) + 1), w64 (s3 + 1)))
  else
  some (.brk (s1, s2))
def laws_markTripS_L1 (s : (List Trip) × Int × Int) : Option (Ctl ((List Trip) × Int × Int) ((List Trip) × Int) (Int × (List Trip))) := laws_markTripS_L1_b s.1 s.2.1 s.2.2
def laws_markTripS_L1_s (s1 : (List Trip)) (s2 : Int) (s3 : Int) : St := ⟨[(0, .o (.c (.sl 900))), (1, .o (.c (.v (.int .i64 s2)))), (5, .o (.c (.v (.int .i64 s3))))], [(900, .row 46 2 (s1.map Trip.enc))]⟩
def laws_markTripS_L1_S (s : (List Trip) × Int × Int) : St := laws_markTripS_L1_s s.1 s.2.1 s.2.2
def laws_markTripS_L1_a (s4 : (List Trip)) (s5 : Int) : Option (Int × (List Trip)) :=
  some (s5, s4)
def laws_markTripS_L1_k (x : ((List Trip) × Int) ⊕ (Int × (List Trip))) : Option (Int × (List Trip)) := match x with
  | .inl t => laws_markTripS_L1_a t.1 t.2
  | .inr y => some y
def laws_markTripS (a0 : (List Trip)) (a1 : Int) : Option (Int × (List Trip)) :=
  (loopM (laws_markTripS_L1) big (a0, a1, 0)).bind (laws_markTripS_L1_k)
theorem laws_markTripS_ok (a0 : (List Trip)) (a1 : Int) (r : Int × (List Trip)) (hM : laws_markTripS a0 a1 = some r) :
    Con Try.prog 14 [.c (.sl 900), .c (.v (.int .i64 a1))] [(900, .row 46 2 (a0.map Trip.enc))] (.o (.c (.v (.int .i64 r.1)))) [(900, .row 46 2 (r.2.map Trip.enc))] [] := by
  unfold laws_markTripS at hM
  refine cn (N := 27) (pids := [900]) Try_mixed Try.func14 (by kernel_rfl) (by kernel_rfl) (by kernel_rfl) rfl fun ρ g w R => ?_
  have K1 : ∀ (s4 : (List Trip)) (s5 : Int), laws_markTripS_L1_a s4 s5 = some r → Gr R [.code (cAt Try.f14 [1, 1])] (⟨[(0, .o (.c (.sl 900))), (1, .o (.c (.v (.int .i64 s5))))], [(900, .row 46 2 (s4.map Trip.enc))]⟩) := by
    intro s4 s5 hM
    unfold laws_markTripS_L1_a at hM
    have hE : some (s5, s4) = some r := hM
    have hE := Option.some.inj hE
    subst hE
    exact pr R 9999 [] [] [900] [] True.intro (by kernel_rfl)
  refine pc R 9999 [] [.keep [0, 1, 5] [900]] (k' := [.code (.loop (cAt Try.f14 [1, 0, 1, 0, 0])), .blk 0, .code (cAt Try.f14 [1, 1])]) (S' := laws_markTripS_L1_S (a0, a1, 0)) True.intro (by kernel_rfl) ?_
  refine lq (laws_markTripS_L1_S) (body := laws_markTripS_L1) (k := laws_markTripS_L1_k) hM fun m1 s c1 hM hK1 => ?_
  obtain ⟨s1, s2, s3⟩ := s
  have hM : laws_markTripS_L1_b s1 s2 s3 = some c1 := hM
  unfold laws_markTripS_L1_b at hM
  rcases cond_cases hM with ⟨h6, hM⟩ | ⟨h6, hM⟩
  · obtain ⟨v7, h8, hM⟩ := bind_some hM
    obtain ⟨v9, h10, hM⟩ := bind_some hM
    have hE : some (Ctl.next (List.set (List.set s1 (Int.toNat s3) (Trip.mk s2 v7.Day)) (Int.toNat s3) (Trip.mk v9.Leg (w64 (s2 + 1))), w64 ((w64 (s2 + 1)) + 1), w64 (s3 + 1))) = some c1 := hM
    have hE := Option.some.inj hE
    subst hE
    exact pc R 9999 [.ln (s1.length), .as 9 true, .ix (Trip.enc v7), .nm ((List.set s1 (Int.toNat s3) (Trip.mk s2 v7.Day)).map Trip.enc), .ix (Trip.enc v9), .nm ((List.set (List.set s1 (Int.toNat s3) (Trip.mk s2 v7.Day)) (Int.toNat s3) (Trip.mk v9.Leg (w64 (s2 + 1)))).map Trip.enc)] [.keep [0, 1, 5] [900]] (And.intro (lenm Trip.enc s1) (And.intro h6 (And.intro (gi_lt Trip.enc h8) (And.intro (And.intro (gi_map Trip.enc h8).2 (set_map Trip.enc s1 (Int.toNat s3) (Trip.mk s2 v7.Day))) (And.intro (gi_lt Trip.enc h10) (And.intro (And.intro (gi_map Trip.enc h10).2 (set_map Trip.enc (List.set s1 (Int.toNat s3) (Trip.mk s2 v7.Day)) (Int.toNat s3) (Trip.mk v9.Leg (w64 (s2 + 1))))) True.intro)))))) (by kernel_rfl) (li (Sf := laws_markTripS_L1_S) (M := Mk (laws_markTripS_L1) (laws_markTripS_L1_k) r) (k := [.blk 0, .code (cAt Try.f14 [1, 1])]) (Nat.lt_succ_self m1) hK1)
  · have hE : some (Ctl.brk (s1, s2)) = some c1 := hM
    have hE := Option.some.inj hE
    subst hE
    exact pc R 5 [.ln (s1.length), .as 9 false] [.keep [0, 1] [900]] (And.intro (lenm Trip.enc s1) (And.intro h6 True.intro)) (by kernel_rfl) (K1 s1 s2 hK1)

-- loop.example/g03014/laws.heldTripS
def laws_heldTripS_L1_b (a0 : (List Trip)) (s1 : Int) (s2 : Int) : Option (Ctl (Int × Int) Int Int) :=
  bif (decide (s2 < (a0.length : Int))) then
  (gi a0 s2).bind fun v5 =>
  bif (v5.Leg != s1) then
  some (.ret (-1))
  else
  (gi a0 s2).bind fun v8 =>
  bif (v8.Day != (w64 (s1 + 1))) then
  some (.ret (-1))
  else
  some (.next (w64 ((w64 (s1 + 1)) + 1), w64 (s2 + 1)))
  else
  some (.brk s1)
def laws_heldTripS_L1 (a0 : (List Trip)) (s : Int × Int) : Option (Ctl (Int × Int) Int Int) := laws_heldTripS_L1_b a0 s.1 s.2
def laws_heldTripS_L1_s (a0 : (List Trip)) (s1 : Int) (s2 : Int) : St := ⟨[(0, .o (.c (.rs 2 (a0.map Trip.enc)))), (1, .o (.c (.v (.int .i64 s1)))), (5, .o (.c (.v (.int .i64 s2))))], []⟩
def laws_heldTripS_L1_S (a0 : (List Trip)) (s : Int × Int) : St := laws_heldTripS_L1_s a0 s.1 s.2
def laws_heldTripS_L1_a (s3 : Int) : Option Int :=
  some s3
def laws_heldTripS_L1_k (x : (Int) ⊕ (Int)) : Option Int := match x with
  | .inl t => laws_heldTripS_L1_a t
  | .inr y => some y
def laws_heldTripS (a0 : (List Trip)) (a1 : Int) : Option Int :=
  (loopM (laws_heldTripS_L1 a0) big (a1, 0)).bind (laws_heldTripS_L1_k)
theorem laws_heldTripS_ok (a0 : (List Trip)) (a1 : Int) (r : Int) (hM : laws_heldTripS a0 a1 = some r) :
    Con Try.prog 15 [.c (.rs 2 (a0.map Trip.enc)), .c (.v (.int .i64 a1))] [] (.o (.c (.v (.int .i64 r)))) [] [] := by
  unfold laws_heldTripS at hM
  refine cn (N := 31) (pids := []) Try_mixed Try.func15 (by kernel_rfl) (by kernel_rfl) (by kernel_rfl) rfl fun ρ g w R => ?_
  have K1 : ∀ (s3 : Int), laws_heldTripS_L1_a s3 = some r → Gr R [.code (cAt Try.f15 [1, 1])] (⟨[(1, .o (.c (.v (.int .i64 s3))))], []⟩) := by
    intro s3 hM
    unfold laws_heldTripS_L1_a at hM
    have hE : some s3 = some r := hM
    have hE := Option.some.inj hE
    subst hE
    exact pr R 9999 [] [] [] [] True.intro (by kernel_rfl)
  refine pc R 9999 [] [.keep [0, 1, 5] []] (k' := [.code (.loop (cAt Try.f15 [1, 0, 1, 0, 0])), .blk 0, .code (cAt Try.f15 [1, 1])]) (S' := laws_heldTripS_L1_S a0 (a1, 0)) True.intro (by kernel_rfl) ?_
  refine lq (laws_heldTripS_L1_S a0) (body := laws_heldTripS_L1 a0) (k := laws_heldTripS_L1_k) hM fun m1 s c1 hM hK1 => ?_
  obtain ⟨s1, s2⟩ := s
  have hM : laws_heldTripS_L1_b a0 s1 s2 = some c1 := hM
  unfold laws_heldTripS_L1_b at hM
  rcases cond_cases hM with ⟨h4, hM⟩ | ⟨h4, hM⟩
  · obtain ⟨v5, h6, hM⟩ := bind_some hM
    rcases cond_cases hM with ⟨h7, hM⟩ | ⟨h7, hM⟩
    · have hE : some (Ctl.ret (-1)) = some c1 := hM
      have hE := Option.some.inj hE
      subst hE
      have hE : some (-1) = some r := hK1
      have hE := Option.some.inj hE
      subst hE
      exact pr R 9999 [.ln (a0.length), .as 9 true, .ix (Trip.enc v5), .as 18 true] [] [] [] (And.intro (lenm Trip.enc a0) (And.intro h4 (And.intro (gi_map Trip.enc h6) (And.intro h7 True.intro)))) (by kernel_rfl)
    · obtain ⟨v8, h9, hM⟩ := bind_some hM
      rcases cond_cases hM with ⟨h10, hM⟩ | ⟨h10, hM⟩
      · have hE : some (Ctl.ret (-1)) = some c1 := hM
        have hE := Option.some.inj hE
        subst hE
        have hE : some (-1) = some r := hK1
        have hE := Option.some.inj hE
        subst hE
        exact pr R 9999 [.ln (a0.length), .as 9 true, .ix (Trip.enc v5), .as 18 false, .ix (Trip.enc v8), .as 27 true] [] [] [] (And.intro (lenm Trip.enc a0) (And.intro h4 (And.intro (gi_map Trip.enc h6) (And.intro h7 (And.intro (gi_map Trip.enc h9) (And.intro h10 True.intro)))))) (by kernel_rfl)
      · have hE : some (Ctl.next (w64 ((w64 (s1 + 1)) + 1), w64 (s2 + 1))) = some c1 := hM
        have hE := Option.some.inj hE
        subst hE
        exact pc R 9999 [.ln (a0.length), .as 9 true, .ix (Trip.enc v5), .as 18 false, .ix (Trip.enc v8), .as 27 false] [.keep [0, 1, 5] []] (And.intro (lenm Trip.enc a0) (And.intro h4 (And.intro (gi_map Trip.enc h6) (And.intro h7 (And.intro (gi_map Trip.enc h9) (And.intro h10 True.intro)))))) (by kernel_rfl) (li (Sf := laws_heldTripS_L1_S a0) (M := Mk (laws_heldTripS_L1 a0) (laws_heldTripS_L1_k) r) (k := [.blk 0, .code (cAt Try.f15 [1, 1])]) (Nat.lt_succ_self m1) hK1)
  · have hE : some (Ctl.brk s1) = some c1 := hM
    have hE := Option.some.inj hE
    subst hE
    exact pc R 5 [.ln (a0.length), .as 9 false] [.keep [1] []] (And.intro (lenm Trip.enc a0) (And.intro h4 True.intro)) (by kernel_rfl) (K1 s1 hK1)

-- loop.example/g03014/laws.FnExactFindWay
def laws_FnExactFindWay_x1 (a0 : Network) (a1 : ByteArray) (a2 : ByteArray) (a3 : Int) (v8 : ((List Trip) × Bool)) (v10 : Network) (v12 : ((List Trip) × Bool)) (v20 : Bool) : St := ⟨[(1, .o (.c (.v (.string a1)))), (2, .o (.c (.v (.string a2)))), (3, .o (.c (.v (.int .i64 a3)))), (4, .o (.c (.ptr 0 0))), (10, .o (.c (.sl 3))), (11, .o (.c (.v (.bool v8.2)))), (12, .o (.c (.ptr 6 0))), (13, .o (.c (.sl 7))), (14, .o (.c (.v (.bool v12.2)))), (63, .o (.c (.v (.bool (!v20)))))], [(0, .box 25 [.rs 6 (a0.Legs.map Leg.enc), .rs 1 (a0.Off.map encI), .v (.int .i64 a0.Change)]), (3, .row 46 2 (v8.1.map Trip.enc)), (6, .box 32 [.sl 4, .sl 5, .v (.int .i64 v10.Change)]), (4, .row 66 6 (v10.Legs.map Leg.enc)), (5, .row 3 1 (v10.Off.map encI)), (7, .row 46 2 (v12.1.map Trip.enc))]⟩
def laws_FnExactFindWay (a0 : Network) (a1 : ByteArray) (a2 : ByteArray) (a3 : Int) : Option Bool :=
  bif (decide ((a1.size : Int) > 1048576)) then
  some true
  else
  bif (decide ((a2.size : Int) > 1048576)) then
  some true
  else
  (laws_szNetwork a0 1048576).bind fun v3 =>
  bif (decide (v3 < 0)) then
  some true
  else
  (laws_toNetwork a0).bind fun v6 =>
  (spec_FindWay v6 a1 a2 a3).bind fun v8 =>
  (laws_toNetwork a0).bind fun v10 =>
  (impl_FindWay v10 a1 a2 a3).bind fun v12 =>
  (laws_eqTripS v12.1 v8.1).bind fun v14 =>
  bif (!v14) then
  some false
  else
  bif (!(v12.2 == v8.2)) then
  some false
  else
  (laws_toNetwork a0).bind fun v18 =>
  (laws_eqNetwork v10 v18).bind fun v20 =>
  bif (!v20) then
  some false
  else
  (laws_markNetwork v10 1).bind fun v23 =>
  bif (decide (v23.1 < 0)) then
  some false
  else
  (laws_eqTripS v12.1 v8.1).bind fun v26 =>
  bif (!v26) then
  some false
  else
  bif (!(v12.2 == v8.2)) then
  some false
  else
  (laws_markTripS v12.1 1).bind fun v30 =>
  (laws_heldTripS v30.2 1).bind fun v32 =>
  bif (decide (v32 < 0)) then
  some false
  else
  bif (v32 != v30.1) then
  some false
  else
  (laws_toNetwork a0).bind fun v36 =>
  (impl_FindWay v36 a1 a2 a3).bind fun v38 =>
  (laws_eqTripS v38.1 v8.1).bind fun v40 =>
  bif (!v40) then
  some false
  else
  bif (!(v38.2 == v8.2)) then
  some false
  else
  (laws_heldTripS v30.2 1).bind fun v44 =>
  bif (decide (v44 < 0)) then
  some false
  else
  bif (v44 != v30.1) then
  some false
  else
  some true
theorem laws_FnExactFindWay_ok (a0 : Network) (a1 : ByteArray) (a2 : ByteArray) (a3 : Int) (r : Bool) (hM : laws_FnExactFindWay a0 a1 a2 a3 = some r) :
    Con Try.prog 3 [.agg [.rs 6 (a0.Legs.map Leg.enc), .rs 1 (a0.Off.map encI), .v (.int .i64 a0.Change)], .c (.v (.string a1)), .c (.v (.string a2)), .c (.v (.int .i64 a3))] [] (.o (.c (.v (.bool r)))) [] [] := by
  unfold laws_FnExactFindWay at hM
  refine cn (N := 117) (pids := []) Try_mixed Try.func3 (by kernel_rfl) (by kernel_rfl) (by kernel_rfl) rfl fun ρ g w R => ?_
  rcases cond_cases hM with ⟨h1, hM⟩ | ⟨h1, hM⟩
  · have hE : some true = some r := hM
    have hE := Option.some.inj hE
    subst hE
    exact pr R 9999 [.new 0, .as 22 true] [] [] [] (And.intro h1 True.intro) (by kernel_rfl)
  · rcases cond_cases hM with ⟨h2, hM⟩ | ⟨h2, hM⟩
    · have hE : some true = some r := hM
      have hE := Option.some.inj hE
      subst hE
      exact pr R 9999 [.new 0, .as 22 false, .as 25 true] [] [] [] (And.intro h1 (And.intro h2 True.intro)) (by kernel_rfl)
    · obtain ⟨v3, h4, hM⟩ := bind_some hM
      rcases cond_cases hM with ⟨h5, hM⟩ | ⟨h5, hM⟩
      · have hE : some true = some r := hM
        have hE := Option.some.inj hE
        subst hE
        exact pr R 9999 [.new 0, .as 22 false, .as 25 false, .call false [] (.o (.c (.v (.int .i64 v3)))) [] [], .as 30 true] [] [] [] (And.intro h1 (And.intro h2 (And.intro (laws_szNetwork_ok a0 1048576 v3 h4) (And.intro h5 True.intro)))) (by kernel_rfl)
      · obtain ⟨v6, h7, hM⟩ := bind_some hM
        obtain ⟨v8, h9, hM⟩ := bind_some hM
        obtain ⟨v10, h11, hM⟩ := bind_some hM
        obtain ⟨v12, h13, hM⟩ := bind_some hM
        obtain ⟨v14, h15, hM⟩ := bind_some hM
        rcases cond_cases hM with ⟨h16, hM⟩ | ⟨h16, hM⟩
        · have hE : some false = some r := hM
          have hE := Option.some.inj hE
          subst hE
          exact pr R 9999 [.new 0, .as 22 false, .as 25 false, .call false [] (.o (.c (.v (.int .i64 v3)))) [] [], .as 30 false, .call false [] (.o (.agg [.sl 1, .sl 2, .v (.int .i64 v6.Change)])) [] [(1, .row 66 6 (v6.Legs.map Leg.enc)), (2, .row 3 1 (v6.Off.map encI))], .call false [] (.tup [.c (.sl 3), .c (.v (.bool v8.2))]) [] [(3, .row 46 2 (v8.1.map Trip.enc))], .call false [] (.o (.agg [.sl 4, .sl 5, .v (.int .i64 v10.Change)])) [] [(4, .row 66 6 (v10.Legs.map Leg.enc)), (5, .row 3 1 (v10.Off.map encI))], .new 6, .call false [] (.tup [.c (.sl 7), .c (.v (.bool v12.2))]) [] [(7, .row 46 2 (v12.1.map Trip.enc))], .call false [] (.o (.c (.v (.bool v14)))) [] [], .as 54 true] [] [] [] (And.intro h1 (And.intro h2 (And.intro (laws_szNetwork_ok a0 1048576 v3 h4) (And.intro h5 (And.intro (And.intro (con_sw 1001 2 (con_sw 1000 1 (laws_toNetwork_ok a0 v6 h7))) (rfl : ([] : List Nat) = [])) (And.intro (And.intro (con_sw 1000 3 (spec_FindWay_ok v6 a1 a2 a3 v8 h9)) (rfl : ([] : List Nat) = [])) (And.intro (And.intro (con_sw 1001 5 (con_sw 1000 4 (laws_toNetwork_ok a0 v10 h11))) (rfl : ([] : List Nat) = [])) (And.intro (And.intro (con_sw 1000 7 (impl_FindWay_ok v10 a1 a2 a3 v12 h13)) (rfl : ([] : List Nat) = [])) (And.intro (laws_eqTripS_ok v12.1 v8.1 v14 h15) (And.intro h16 True.intro)))))))))) (by kernel_rfl)
        · rcases cond_cases hM with ⟨h17, hM⟩ | ⟨h17, hM⟩
          · have hE : some false = some r := hM
            have hE := Option.some.inj hE
            subst hE
            exact pr R 9999 [.new 0, .as 22 false, .as 25 false, .call false [] (.o (.c (.v (.int .i64 v3)))) [] [], .as 30 false, .call false [] (.o (.agg [.sl 1, .sl 2, .v (.int .i64 v6.Change)])) [] [(1, .row 66 6 (v6.Legs.map Leg.enc)), (2, .row 3 1 (v6.Off.map encI))], .call false [] (.tup [.c (.sl 3), .c (.v (.bool v8.2))]) [] [(3, .row 46 2 (v8.1.map Trip.enc))], .call false [] (.o (.agg [.sl 4, .sl 5, .v (.int .i64 v10.Change)])) [] [(4, .row 66 6 (v10.Legs.map Leg.enc)), (5, .row 3 1 (v10.Off.map encI))], .new 6, .call false [] (.tup [.c (.sl 7), .c (.v (.bool v12.2))]) [] [(7, .row 46 2 (v12.1.map Trip.enc))], .call false [] (.o (.c (.v (.bool v14)))) [] [], .as 54 false, .as 58 true] [] [] [] (And.intro h1 (And.intro h2 (And.intro (laws_szNetwork_ok a0 1048576 v3 h4) (And.intro h5 (And.intro (And.intro (con_sw 1001 2 (con_sw 1000 1 (laws_toNetwork_ok a0 v6 h7))) (rfl : ([] : List Nat) = [])) (And.intro (And.intro (con_sw 1000 3 (spec_FindWay_ok v6 a1 a2 a3 v8 h9)) (rfl : ([] : List Nat) = [])) (And.intro (And.intro (con_sw 1001 5 (con_sw 1000 4 (laws_toNetwork_ok a0 v10 h11))) (rfl : ([] : List Nat) = [])) (And.intro (And.intro (con_sw 1000 7 (impl_FindWay_ok v10 a1 a2 a3 v12 h13)) (rfl : ([] : List Nat) = [])) (And.intro (laws_eqTripS_ok v12.1 v8.1 v14 h15) (And.intro h16 (And.intro h17 True.intro))))))))))) (by kernel_rfl)
          · obtain ⟨v18, h19, hM⟩ := bind_some hM
            obtain ⟨v20, h21, hM⟩ := bind_some hM
            rcases cond_cases hM with ⟨h22, hM⟩ | ⟨h22, hM⟩
            · have hE : some false = some r := hM
              have hE := Option.some.inj hE
              subst hE
              exact pr R 9999 [.new 0, .as 22 false, .as 25 false, .call false [] (.o (.c (.v (.int .i64 v3)))) [] [], .as 30 false, .call false [] (.o (.agg [.sl 1, .sl 2, .v (.int .i64 v6.Change)])) [] [(1, .row 66 6 (v6.Legs.map Leg.enc)), (2, .row 3 1 (v6.Off.map encI))], .call false [] (.tup [.c (.sl 3), .c (.v (.bool v8.2))]) [] [(3, .row 46 2 (v8.1.map Trip.enc))], .call false [] (.o (.agg [.sl 4, .sl 5, .v (.int .i64 v10.Change)])) [] [(4, .row 66 6 (v10.Legs.map Leg.enc)), (5, .row 3 1 (v10.Off.map encI))], .new 6, .call false [] (.tup [.c (.sl 7), .c (.v (.bool v12.2))]) [] [(7, .row 46 2 (v12.1.map Trip.enc))], .call false [] (.o (.c (.v (.bool v14)))) [] [], .as 54 false, .as 58 false, .xo [[], [], [.call false [] (.o (.agg [.sl 8, .sl 9, .v (.int .i64 v18.Change)])) [] [(8, .row 66 6 (v18.Legs.map Leg.enc)), (9, .row 3 1 (v18.Off.map encI))]], [.call false [] (.o (.c (.v (.bool v20)))) [] []], []] [.keep [1, 2, 3, 4, 10, 11, 12, 13, 14, 63] [0, 3, 6, 4, 5, 7]] (laws_FnExactFindWay_x1 a0 a1 a2 a3 v8 v10 v12 v20), .as 63 true] [] [] [] (And.intro h1 (And.intro h2 (And.intro (laws_szNetwork_ok a0 1048576 v3 h4) (And.intro h5 (And.intro (And.intro (con_sw 1001 2 (con_sw 1000 1 (laws_toNetwork_ok a0 v6 h7))) (rfl : ([] : List Nat) = [])) (And.intro (And.intro (con_sw 1000 3 (spec_FindWay_ok v6 a1 a2 a3 v8 h9)) (rfl : ([] : List Nat) = [])) (And.intro (And.intro (con_sw 1001 5 (con_sw 1000 4 (laws_toNetwork_ok a0 v10 h11))) (rfl : ([] : List Nat) = [])) (And.intro (And.intro (con_sw 1000 7 (impl_FindWay_ok v10 a1 a2 a3 v12 h13)) (rfl : ([] : List Nat) = [])) (And.intro (laws_eqTripS_ok v12.1 v8.1 v14 h15) (And.intro h16 (And.intro h17 (And.intro (And.intro (con_sw 1001 9 (con_sw 1000 8 (laws_toNetwork_ok a0 v18 h19))) (rfl : ([] : List Nat) = [])) (And.intro (laws_eqNetwork_ok v10 v18 v20 h21) (And.intro (rfl : (laws_FnExactFindWay_x1 a0 a1 a2 a3 v8 v10 v12 v20) = (laws_FnExactFindWay_x1 a0 a1 a2 a3 v8 v10 v12 v20)) (And.intro (And.intro (con_sw 1001 9 (con_sw 1000 8 (laws_toNetwork_ok a0 v18 h19))) (rfl : ([] : List Nat) = [])) (And.intro (laws_eqNetwork_ok v10 v18 v20 h21) (And.intro (rfl : (laws_FnExactFindWay_x1 a0 a1 a2 a3 v8 v10 v12 v20) = (laws_FnExactFindWay_x1 a0 a1 a2 a3 v8 v10 v12 v20)) (And.intro (And.intro (con_sw 1001 9 (con_sw 1000 8 (laws_toNetwork_ok a0 v18 h19))) (rfl : ([] : List Nat) = [])) (And.intro (laws_eqNetwork_ok v10 v18 v20 h21) (And.intro (rfl : (laws_FnExactFindWay_x1 a0 a1 a2 a3 v8 v10 v12 v20) = (laws_FnExactFindWay_x1 a0 a1 a2 a3 v8 v10 v12 v20)) (And.intro h22 True.intro))))))))))))))))))))) (by kernel_rfl)
            · obtain ⟨v23, h24, hM⟩ := bind_some hM
              rcases cond_cases hM with ⟨h25, hM⟩ | ⟨h25, hM⟩
              · have hE : some false = some r := hM
                have hE := Option.some.inj hE
                subst hE
                exact pr R 9999 [.new 0, .as 22 false, .as 25 false, .call false [] (.o (.c (.v (.int .i64 v3)))) [] [], .as 30 false, .call false [] (.o (.agg [.sl 1, .sl 2, .v (.int .i64 v6.Change)])) [] [(1, .row 66 6 (v6.Legs.map Leg.enc)), (2, .row 3 1 (v6.Off.map encI))], .call false [] (.tup [.c (.sl 3), .c (.v (.bool v8.2))]) [] [(3, .row 46 2 (v8.1.map Trip.enc))], .call false [] (.o (.agg [.sl 4, .sl 5, .v (.int .i64 v10.Change)])) [] [(4, .row 66 6 (v10.Legs.map Leg.enc)), (5, .row 3 1 (v10.Off.map encI))], .new 6, .call false [] (.tup [.c (.sl 7), .c (.v (.bool v12.2))]) [] [(7, .row 46 2 (v12.1.map Trip.enc))], .call false [] (.o (.c (.v (.bool v14)))) [] [], .as 54 false, .as 58 false, .xo [[], [], [.call false [] (.o (.agg [.sl 8, .sl 9, .v (.int .i64 v18.Change)])) [] [(8, .row 66 6 (v18.Legs.map Leg.enc)), (9, .row 3 1 (v18.Off.map encI))]], [.call false [] (.o (.c (.v (.bool v20)))) [] []], []] [.keep [1, 2, 3, 4, 10, 11, 12, 13, 14, 63] [0, 3, 6, 4, 5, 7]] (laws_FnExactFindWay_x1 a0 a1 a2 a3 v8 v10 v12 v20), .as 63 false, .ad (.keep [1, 2, 3, 4, 10, 11, 12, 13, 14, 15, 63, 64, 65] [4, 5, 0, 3, 6, 7]), .call false [4, 5] (.o (.c (.v (.int .i64 v23.1)))) [(4, .row 66 6 (v23.2.Legs.map Leg.enc)), (5, .row 3 1 (v23.2.Off.map encI))] [], .as 69 true] [] [] [] (And.intro h1 (And.intro h2 (And.intro (laws_szNetwork_ok a0 1048576 v3 h4) (And.intro h5 (And.intro (And.intro (con_sw 1001 2 (con_sw 1000 1 (laws_toNetwork_ok a0 v6 h7))) (rfl : ([] : List Nat) = [])) (And.intro (And.intro (con_sw 1000 3 (spec_FindWay_ok v6 a1 a2 a3 v8 h9)) (rfl : ([] : List Nat) = [])) (And.intro (And.intro (con_sw 1001 5 (con_sw 1000 4 (laws_toNetwork_ok a0 v10 h11))) (rfl : ([] : List Nat) = [])) (And.intro (And.intro (con_sw 1000 7 (impl_FindWay_ok v10 a1 a2 a3 v12 h13)) (rfl : ([] : List Nat) = [])) (And.intro (laws_eqTripS_ok v12.1 v8.1 v14 h15) (And.intro h16 (And.intro h17 (And.intro (And.intro (con_sw 1001 9 (con_sw 1000 8 (laws_toNetwork_ok a0 v18 h19))) (rfl : ([] : List Nat) = [])) (And.intro (laws_eqNetwork_ok v10 v18 v20 h21) (And.intro (rfl : (laws_FnExactFindWay_x1 a0 a1 a2 a3 v8 v10 v12 v20) = (laws_FnExactFindWay_x1 a0 a1 a2 a3 v8 v10 v12 v20)) (And.intro (And.intro (con_sw 1001 9 (con_sw 1000 8 (laws_toNetwork_ok a0 v18 h19))) (rfl : ([] : List Nat) = [])) (And.intro (laws_eqNetwork_ok v10 v18 v20 h21) (And.intro (rfl : (laws_FnExactFindWay_x1 a0 a1 a2 a3 v8 v10 v12 v20) = (laws_FnExactFindWay_x1 a0 a1 a2 a3 v8 v10 v12 v20)) (And.intro (And.intro (con_sw 1001 9 (con_sw 1000 8 (laws_toNetwork_ok a0 v18 h19))) (rfl : ([] : List Nat) = [])) (And.intro (laws_eqNetwork_ok v10 v18 v20 h21) (And.intro (rfl : (laws_FnExactFindWay_x1 a0 a1 a2 a3 v8 v10 v12 v20) = (laws_FnExactFindWay_x1 a0 a1 a2 a3 v8 v10 v12 v20)) (And.intro h22 (And.intro (And.intro (con_sw 920 5 (con_sw 900 4 (laws_markNetwork_ok v10 1 v23 h24))) (rfl : ([4, 5] : List Nat) = [4, 5])) (And.intro h25 True.intro))))))))))))))))))))))) (by kernel_rfl)
              · obtain ⟨v26, h27, hM⟩ := bind_some hM
                rcases cond_cases hM with ⟨h28, hM⟩ | ⟨h28, hM⟩
                · have hE : some false = some r := hM
                  have hE := Option.some.inj hE
                  subst hE
                  exact pr R 9999 [.new 0, .as 22 false, .as 25 false, .call false [] (.o (.c (.v (.int .i64 v3)))) [] [], .as 30 false, .call false [] (.o (.agg [.sl 1, .sl 2, .v (.int .i64 v6.Change)])) [] [(1, .row 66 6 (v6.Legs.map Leg.enc)), (2, .row 3 1 (v6.Off.map encI))], .call false [] (.tup [.c (.sl 3), .c (.v (.bool v8.2))]) [] [(3, .row 46 2 (v8.1.map Trip.enc))], .call false [] (.o (.agg [.sl 4, .sl 5, .v (.int .i64 v10.Change)])) [] [(4, .row 66 6 (v10.Legs.map Leg.enc)), (5, .row 3 1 (v10.Off.map encI))], .new 6, .call false [] (.tup [.c (.sl 7), .c (.v (.bool v12.2))]) [] [(7, .row 46 2 (v12.1.map Trip.enc))], .call false [] (.o (.c (.v (.bool v14)))) [] [], .as 54 false, .as 58 false, .xo [[], [], [.call false [] (.o (.agg [.sl 8, .sl 9, .v (.int .i64 v18.Change)])) [] [(8, .row 66 6 (v18.Legs.map Leg.enc)), (9, .row 3 1 (v18.Off.map encI))]], [.call false [] (.o (.c (.v (.bool v20)))) [] []], []] [.keep [1, 2, 3, 4, 10, 11, 12, 13, 14, 63] [0, 3, 6, 4, 5, 7]] (laws_FnExactFindWay_x1 a0 a1 a2 a3 v8 v10 v12 v20), .as 63 false, .ad (.keep [1, 2, 3, 4, 10, 11, 12, 13, 14, 15, 63, 64, 65] [4, 5, 0, 3, 6, 7]), .call false [4, 5] (.o (.c (.v (.int .i64 v23.1)))) [(4, .row 66 6 (v23.2.Legs.map Leg.enc)), (5, .row 3 1 (v23.2.Off.map encI))] [], .as 69 false, .call false [] (.o (.c (.v (.bool v26)))) [] [], .as 75 true] [] [] [] (And.intro h1 (And.intro h2 (And.intro (laws_szNetwork_ok a0 1048576 v3 h4) (And.intro h5 (And.intro (And.intro (con_sw 1001 2 (con_sw 1000 1 (laws_toNetwork_ok a0 v6 h7))) (rfl : ([] : List Nat) = [])) (And.intro (And.intro (con_sw 1000 3 (spec_FindWay_ok v6 a1 a2 a3 v8 h9)) (rfl : ([] : List Nat) = [])) (And.intro (And.intro (con_sw 1001 5 (con_sw 1000 4 (laws_toNetwork_ok a0 v10 h11))) (rfl : ([] : List Nat) = [])) (And.intro (And.intro (con_sw 1000 7 (impl_FindWay_ok v10 a1 a2 a3 v12 h13)) (rfl : ([] : List Nat) = [])) (And.intro (laws_eqTripS_ok v12.1 v8.1 v14 h15) (And.intro h16 (And.intro h17 (And.intro (And.intro (con_sw 1001 9 (con_sw 1000 8 (laws_toNetwork_ok a0 v18 h19))) (rfl : ([] : List Nat) = [])) (And.intro (laws_eqNetwork_ok v10 v18 v20 h21) (And.intro (rfl : (laws_FnExactFindWay_x1 a0 a1 a2 a3 v8 v10 v12 v20) = (laws_FnExactFindWay_x1 a0 a1 a2 a3 v8 v10 v12 v20)) (And.intro (And.intro (con_sw 1001 9 (con_sw 1000 8 (laws_toNetwork_ok a0 v18 h19))) (rfl : ([] : List Nat) = [])) (And.intro (laws_eqNetwork_ok v10 v18 v20 h21) (And.intro (rfl : (laws_FnExactFindWay_x1 a0 a1 a2 a3 v8 v10 v12 v20) = (laws_FnExactFindWay_x1 a0 a1 a2 a3 v8 v10 v12 v20)) (And.intro (And.intro (con_sw 1001 9 (con_sw 1000 8 (laws_toNetwork_ok a0 v18 h19))) (rfl : ([] : List Nat) = [])) (And.intro (laws_eqNetwork_ok v10 v18 v20 h21) (And.intro (rfl : (laws_FnExactFindWay_x1 a0 a1 a2 a3 v8 v10 v12 v20) = (laws_FnExactFindWay_x1 a0 a1 a2 a3 v8 v10 v12 v20)) (And.intro h22 (And.intro (And.intro (con_sw 920 5 (con_sw 900 4 (laws_markNetwork_ok v10 1 v23 h24))) (rfl : ([4, 5] : List Nat) = [4, 5])) (And.intro h25 (And.intro (laws_eqTripS_ok v12.1 v8.1 v26 h27) (And.intro h28 True.intro))))))))))))))))))))))))) (by kernel_rfl)
                · rcases cond_cases hM with ⟨h29, hM⟩ | ⟨h29, hM⟩
                  · have hE : some false = some r := hM
                    have hE := Option.some.inj hE
                    subst hE
                    exact pr R 9999 [.new 0, .as 22 false, .as 25 false, .call false [] (.o (.c (.v (.int .i64 v3)))) [] [], .as 30 false, .call false [] (.o (.agg [.sl 1, .sl 2, .v (.int .i64 v6.Change)])) [] [(1, .row 66 6 (v6.Legs.map Leg.enc)), (2, .row 3 1 (v6.Off.map encI))], .call false [] (.tup [.c (.sl 3), .c (.v (.bool v8.2))]) [] [(3, .row 46 2 (v8.1.map Trip.enc))], .call false [] (.o (.agg [.sl 4, .sl 5, .v (.int .i64 v10.Change)])) [] [(4, .row 66 6 (v10.Legs.map Leg.enc)), (5, .row 3 1 (v10.Off.map encI))], .new 6, .call false [] (.tup [.c (.sl 7), .c (.v (.bool v12.2))]) [] [(7, .row 46 2 (v12.1.map Trip.enc))], .call false [] (.o (.c (.v (.bool v14)))) [] [], .as 54 false, .as 58 false, .xo [[], [], [.call false [] (.o (.agg [.sl 8, .sl 9, .v (.int .i64 v18.Change)])) [] [(8, .row 66 6 (v18.Legs.map Leg.enc)), (9, .row 3 1 (v18.Off.map encI))]], [.call false [] (.o (.c (.v (.bool v20)))) [] []], []] [.keep [1, 2, 3, 4, 10, 11, 12, 13, 14, 63] [0, 3, 6, 4, 5, 7]] (laws_FnExactFindWay_x1 a0 a1 a2 a3 v8 v10 v12 v20), .as 63 false, .ad (.keep [1, 2, 3, 4, 10, 11, 12, 13, 14, 15, 63, 64, 65] [4, 5, 0, 3, 6, 7]), .call false [4, 5] (.o (.c (.v (.int .i64 v23.1)))) [(4, .row 66 6 (v23.2.Legs.map Leg.enc)), (5, .row 3 1 (v23.2.Off.map encI))] [], .as 69 false, .call false [] (.o (.c (.v (.bool v26)))) [] [], .as 75 false, .as 79 true] [] [] [] (And.intro h1 (And.intro h2 (And.intro (laws_szNetwork_ok a0 1048576 v3 h4) (And.intro h5 (And.intro (And.intro (con_sw 1001 2 (con_sw 1000 1 (laws_toNetwork_ok a0 v6 h7))) (rfl : ([] : List Nat) = [])) (And.intro (And.intro (con_sw 1000 3 (spec_FindWay_ok v6 a1 a2 a3 v8 h9)) (rfl : ([] : List Nat) = [])) (And.intro (And.intro (con_sw 1001 5 (con_sw 1000 4 (laws_toNetwork_ok a0 v10 h11))) (rfl : ([] : List Nat) = [])) (And.intro (And.intro (con_sw 1000 7 (impl_FindWay_ok v10 a1 a2 a3 v12 h13)) (rfl : ([] : List Nat) = [])) (And.intro (laws_eqTripS_ok v12.1 v8.1 v14 h15) (And.intro h16 (And.intro h17 (And.intro (And.intro (con_sw 1001 9 (con_sw 1000 8 (laws_toNetwork_ok a0 v18 h19))) (rfl : ([] : List Nat) = [])) (And.intro (laws_eqNetwork_ok v10 v18 v20 h21) (And.intro (rfl : (laws_FnExactFindWay_x1 a0 a1 a2 a3 v8 v10 v12 v20) = (laws_FnExactFindWay_x1 a0 a1 a2 a3 v8 v10 v12 v20)) (And.intro (And.intro (con_sw 1001 9 (con_sw 1000 8 (laws_toNetwork_ok a0 v18 h19))) (rfl : ([] : List Nat) = [])) (And.intro (laws_eqNetwork_ok v10 v18 v20 h21) (And.intro (rfl : (laws_FnExactFindWay_x1 a0 a1 a2 a3 v8 v10 v12 v20) = (laws_FnExactFindWay_x1 a0 a1 a2 a3 v8 v10 v12 v20)) (And.intro (And.intro (con_sw 1001 9 (con_sw 1000 8 (laws_toNetwork_ok a0 v18 h19))) (rfl : ([] : List Nat) = [])) (And.intro (laws_eqNetwork_ok v10 v18 v20 h21) (And.intro (rfl : (laws_FnExactFindWay_x1 a0 a1 a2 a3 v8 v10 v12 v20) = (laws_FnExactFindWay_x1 a0 a1 a2 a3 v8 v10 v12 v20)) (And.intro h22 (And.intro (And.intro (con_sw 920 5 (con_sw 900 4 (laws_markNetwork_ok v10 1 v23 h24))) (rfl : ([4, 5] : List Nat) = [4, 5])) (And.intro h25 (And.intro (laws_eqTripS_ok v12.1 v8.1 v26 h27) (And.intro h28 (And.intro h29 True.intro)))))))))))))))))))))))))) (by kernel_rfl)
                  · obtain ⟨v30, h31, hM⟩ := bind_some hM
                    obtain ⟨v32, h33, hM⟩ := bind_some hM
                    rcases cond_cases hM with ⟨h34, hM⟩ | ⟨h34, hM⟩
                    · have hE : some false = some r := hM
                      have hE := Option.some.inj hE
                      subst hE
                      exact pr R 9999 [.new 0, .as 22 false, .as 25 false, .call false [] (.o (.c (.v (.int .i64 v3)))) [] [], .as 30 false, .call false [] (.o (.agg [.sl 1, .sl 2, .v (.int .i64 v6.Change)])) [] [(1, .row 66 6 (v6.Legs.map Leg.enc)), (2, .row 3 1 (v6.Off.map encI))], .call false [] (.tup [.c (.sl 3), .c (.v (.bool v8.2))]) [] [(3, .row 46 2 (v8.1.map Trip.enc))], .call false [] (.o (.agg [.sl 4, .sl 5, .v (.int .i64 v10.Change)])) [] [(4, .row 66 6 (v10.Legs.map Leg.enc)), (5, .row 3 1 (v10.Off.map encI))], .new 6, .call false [] (.tup [.c (.sl 7), .c (.v (.bool v12.2))]) [] [(7, .row 46 2 (v12.1.map Trip.enc))], .call false [] (.o (.c (.v (.bool v14)))) [] [], .as 54 false, .as 58 false, .xo [[], [], [.call false [] (.o (.agg [.sl 8, .sl 9, .v (.int .i64 v18.Change)])) [] [(8, .row 66 6 (v18.Legs.map Leg.enc)), (9, .row 3 1 (v18.Off.map encI))]], [.call false [] (.o (.c (.v (.bool v20)))) [] []], []] [.keep [1, 2, 3, 4, 10, 11, 12, 13, 14, 63] [0, 3, 6, 4, 5, 7]] (laws_FnExactFindWay_x1 a0 a1 a2 a3 v8 v10 v12 v20), .as 63 false, .ad (.keep [1, 2, 3, 4, 10, 11, 12, 13, 14, 15, 63, 64, 65] [4, 5, 0, 3, 6, 7]), .call false [4, 5] (.o (.c (.v (.int .i64 v23.1)))) [(4, .row 66 6 (v23.2.Legs.map Leg.enc)), (5, .row 3 1 (v23.2.Off.map encI))] [], .as 69 false, .call false [] (.o (.c (.v (.bool v26)))) [] [], .as 75 false, .as 79 false, .call false [7] (.o (.c (.v (.int .i64 v30.1)))) [(7, .row 46 2 (v30.2.map Trip.enc))] [], .call false [] (.o (.c (.v (.int .i64 v32)))) [] [], .as 87 true] [] [] [] (And.intro h1 (And.intro h2 (And.intro (laws_szNetwork_ok a0 1048576 v3 h4) (And.intro h5 (And.intro (And.intro (con_sw 1001 2 (con_sw 1000 1 (laws_toNetwork_ok a0 v6 h7))) (rfl : ([] : List Nat) = [])) (And.intro (And.intro (con_sw 1000 3 (spec_FindWay_ok v6 a1 a2 a3 v8 h9)) (rfl : ([] : List Nat) = [])) (And.intro (And.intro (con_sw 1001 5 (con_sw 1000 4 (laws_toNetwork_ok a0 v10 h11))) (rfl : ([] : List Nat) = [])) (And.intro (And.intro (con_sw 1000 7 (impl_FindWay_ok v10 a1 a2 a3 v12 h13)) (rfl : ([] : List Nat) = [])) (And.intro (laws_eqTripS_ok v12.1 v8.1 v14 h15) (And.intro h16 (And.intro h17 (And.intro (And.intro (con_sw 1001 9 (con_sw 1000 8 (laws_toNetwork_ok a0 v18 h19))) (rfl : ([] : List Nat) = [])) (And.intro (laws_eqNetwork_ok v10 v18 v20 h21) (And.intro (rfl : (laws_FnExactFindWay_x1 a0 a1 a2 a3 v8 v10 v12 v20) = (laws_FnExactFindWay_x1 a0 a1 a2 a3 v8 v10 v12 v20)) (And.intro (And.intro (con_sw 1001 9 (con_sw 1000 8 (laws_toNetwork_ok a0 v18 h19))) (rfl : ([] : List Nat) = [])) (And.intro (laws_eqNetwork_ok v10 v18 v20 h21) (And.intro (rfl : (laws_FnExactFindWay_x1 a0 a1 a2 a3 v8 v10 v12 v20) = (laws_FnExactFindWay_x1 a0 a1 a2 a3 v8 v10 v12 v20)) (And.intro (And.intro (con_sw 1001 9 (con_sw 1000 8 (laws_toNetwork_ok a0 v18 h19))) (rfl : ([] : List Nat) = [])) (And.intro (laws_eqNetwork_ok v10 v18 v20 h21) (And.intro (rfl : (laws_FnExactFindWay_x1 a0 a1 a2 a3 v8 v10 v12 v20) = (laws_FnExactFindWay_x1 a0 a1 a2 a3 v8 v10 v12 v20)) (And.intro h22 (And.intro (And.intro (con_sw 920 5 (con_sw 900 4 (laws_markNetwork_ok v10 1 v23 h24))) (rfl : ([4, 5] : List Nat) = [4, 5])) (And.intro h25 (And.intro (laws_eqTripS_ok v12.1 v8.1 v26 h27) (And.intro h28 (And.intro h29 (And.intro (And.intro (con_sw 900 7 (laws_markTripS_ok v12.1 1 v30 h31)) (rfl : ([7] : List Nat) = [7])) (And.intro (laws_heldTripS_ok v30.2 1 v32 h33) (And.intro h34 True.intro))))))))))))))))))))))))))))) (by kernel_rfl)
                    · rcases cond_cases hM with ⟨h35, hM⟩ | ⟨h35, hM⟩
                      · have hE : some false = some r := hM
                        have hE := Option.some.inj hE
                        subst hE
                        exact pr R 9999 [.new 0, .as 22 false, .as 25 false, .call false [] (.o (.c (.v (.int .i64 v3)))) [] [], .as 30 false, .call false [] (.o (.agg [.sl 1, .sl 2, .v (.int .i64 v6.Change)])) [] [(1, .row 66 6 (v6.Legs.map Leg.enc)), (2, .row 3 1 (v6.Off.map encI))], .call false [] (.tup [.c (.sl 3), .c (.v (.bool v8.2))]) [] [(3, .row 46 2 (v8.1.map Trip.enc))], .call false [] (.o (.agg [.sl 4, .sl 5, .v (.int .i64 v10.Change)])) [] [(4, .row 66 6 (v10.Legs.map Leg.enc)), (5, .row 3 1 (v10.Off.map encI))], .new 6, .call false [] (.tup [.c (.sl 7), .c (.v (.bool v12.2))]) [] [(7, .row 46 2 (v12.1.map Trip.enc))], .call false [] (.o (.c (.v (.bool v14)))) [] [], .as 54 false, .as 58 false, .xo [[], [], [.call false [] (.o (.agg [.sl 8, .sl 9, .v (.int .i64 v18.Change)])) [] [(8, .row 66 6 (v18.Legs.map Leg.enc)), (9, .row 3 1 (v18.Off.map encI))]], [.call false [] (.o (.c (.v (.bool v20)))) [] []], []] [.keep [1, 2, 3, 4, 10, 11, 12, 13, 14, 63] [0, 3, 6, 4, 5, 7]] (laws_FnExactFindWay_x1 a0 a1 a2 a3 v8 v10 v12 v20), .as 63 false, .ad (.keep [1, 2, 3, 4, 10, 11, 12, 13, 14, 15, 63, 64, 65] [4, 5, 0, 3, 6, 7]), .call false [4, 5] (.o (.c (.v (.int .i64 v23.1)))) [(4, .row 66 6 (v23.2.Legs.map Leg.enc)), (5, .row 3 1 (v23.2.Off.map encI))] [], .as 69 false, .call false [] (.o (.c (.v (.bool v26)))) [] [], .as 75 false, .as 79 false, .call false [7] (.o (.c (.v (.int .i64 v30.1)))) [(7, .row 46 2 (v30.2.map Trip.enc))] [], .call false [] (.o (.c (.v (.int .i64 v32)))) [] [], .as 87 false, .as 90 true] [] [] [] (And.intro h1 (And.intro h2 (And.intro (laws_szNetwork_ok a0 1048576 v3 h4) (And.intro h5 (And.intro (And.intro (con_sw 1001 2 (con_sw 1000 1 (laws_toNetwork_ok a0 v6 h7))) (rfl : ([] : List Nat) = [])) (And.intro (And.intro (con_sw 1000 3 (spec_FindWay_ok v6 a1 a2 a3 v8 h9)) (rfl : ([] : List Nat) = [])) (And.intro (And.intro (con_sw 1001 5 (con_sw 1000 4 (laws_toNetwork_ok a0 v10 h11))) (rfl : ([] : List Nat) = [])) (And.intro (And.intro (con_sw 1000 7 (impl_FindWay_ok v10 a1 a2 a3 v12 h13)) (rfl : ([] : List Nat) = [])) (And.intro (laws_eqTripS_ok v12.1 v8.1 v14 h15) (And.intro h16 (And.intro h17 (And.intro (And.intro (con_sw 1001 9 (con_sw 1000 8 (laws_toNetwork_ok a0 v18 h19))) (rfl : ([] : List Nat) = [])) (And.intro (laws_eqNetwork_ok v10 v18 v20 h21) (And.intro (rfl : (laws_FnExactFindWay_x1 a0 a1 a2 a3 v8 v10 v12 v20) = (laws_FnExactFindWay_x1 a0 a1 a2 a3 v8 v10 v12 v20)) (And.intro (And.intro (con_sw 1001 9 (con_sw 1000 8 (laws_toNetwork_ok a0 v18 h19))) (rfl : ([] : List Nat) = [])) (And.intro (laws_eqNetwork_ok v10 v18 v20 h21) (And.intro (rfl : (laws_FnExactFindWay_x1 a0 a1 a2 a3 v8 v10 v12 v20) = (laws_FnExactFindWay_x1 a0 a1 a2 a3 v8 v10 v12 v20)) (And.intro (And.intro (con_sw 1001 9 (con_sw 1000 8 (laws_toNetwork_ok a0 v18 h19))) (rfl : ([] : List Nat) = [])) (And.intro (laws_eqNetwork_ok v10 v18 v20 h21) (And.intro (rfl : (laws_FnExactFindWay_x1 a0 a1 a2 a3 v8 v10 v12 v20) = (laws_FnExactFindWay_x1 a0 a1 a2 a3 v8 v10 v12 v20)) (And.intro h22 (And.intro (And.intro (con_sw 920 5 (con_sw 900 4 (laws_markNetwork_ok v10 1 v23 h24))) (rfl : ([4, 5] : List Nat) = [4, 5])) (And.intro h25 (And.intro (laws_eqTripS_ok v12.1 v8.1 v26 h27) (And.intro h28 (And.intro h29 (And.intro (And.intro (con_sw 900 7 (laws_markTripS_ok v12.1 1 v30 h31)) (rfl : ([7] : List Nat) = [7])) (And.intro (laws_heldTripS_ok v30.2 1 v32 h33) (And.intro h34 (And.intro h35 True.intro)))))))))))))))))))))))))))))) (by kernel_rfl)
                      · obtain ⟨v36, h37, hM⟩ := bind_some hM
                        obtain ⟨v38, h39, hM⟩ := bind_some hM
                        obtain ⟨v40, h41, hM⟩ := bind_some hM
                        rcases cond_cases hM with ⟨h42, hM⟩ | ⟨h42, hM⟩
                        · have hE : some false = some r := hM
                          have hE := Option.some.inj hE
                          subst hE
                          exact pr R 9999 [.new 0, .as 22 false, .as 25 false, .call false [] (.o (.c (.v (.int .i64 v3)))) [] [], .as 30 false, .call false [] (.o (.agg [.sl 1, .sl 2, .v (.int .i64 v6.Change)])) [] [(1, .row 66 6 (v6.Legs.map Leg.enc)), (2, .row 3 1 (v6.Off.map encI))], .call false [] (.tup [.c (.sl 3), .c (.v (.bool v8.2))]) [] [(3, .row 46 2 (v8.1.map Trip.enc))], .call false [] (.o (.agg [.sl 4, .sl 5, .v (.int .i64 v10.Change)])) [] [(4, .row 66 6 (v10.Legs.map Leg.enc)), (5, .row 3 1 (v10.Off.map encI))], .new 6, .call false [] (.tup [.c (.sl 7), .c (.v (.bool v12.2))]) [] [(7, .row 46 2 (v12.1.map Trip.enc))], .call false [] (.o (.c (.v (.bool v14)))) [] [], .as 54 false, .as 58 false, .xo [[], [], [.call false [] (.o (.agg [.sl 8, .sl 9, .v (.int .i64 v18.Change)])) [] [(8, .row 66 6 (v18.Legs.map Leg.enc)), (9, .row 3 1 (v18.Off.map encI))]], [.call false [] (.o (.c (.v (.bool v20)))) [] []], []] [.keep [1, 2, 3, 4, 10, 11, 12, 13, 14, 63] [0, 3, 6, 4, 5, 7]] (laws_FnExactFindWay_x1 a0 a1 a2 a3 v8 v10 v12 v20), .as 63 false, .ad (.keep [1, 2, 3, 4, 10, 11, 12, 13, 14, 15, 63, 64, 65] [4, 5, 0, 3, 6, 7]), .call false [4, 5] (.o (.c (.v (.int .i64 v23.1)))) [(4, .row 66 6 (v23.2.Legs.map Leg.enc)), (5, .row 3 1 (v23.2.Off.map encI))] [], .as 69 false, .call false [] (.o (.c (.v (.bool v26)))) [] [], .as 75 false, .as 79 false, .call false [7] (.o (.c (.v (.int .i64 v30.1)))) [(7, .row 46 2 (v30.2.map Trip.enc))] [], .call false [] (.o (.c (.v (.int .i64 v32)))) [] [], .as 87 false, .as 90 false, .call false [] (.o (.agg [.sl 10, .sl 11, .v (.int .i64 v36.Change)])) [] [(10, .row 66 6 (v36.Legs.map Leg.enc)), (11, .row 3 1 (v36.Off.map encI))], .call false [] (.tup [.c (.sl 12), .c (.v (.bool v38.2))]) [] [(12, .row 46 2 (v38.1.map Trip.enc))], .call false [] (.o (.c (.v (.bool v40)))) [] [], .as 104 true] [] [] [] (And.intro h1 (And.intro h2 (And.intro (laws_szNetwork_ok a0 1048576 v3 h4) (And.intro h5 (And.intro (And.intro (con_sw 1001 2 (con_sw 1000 1 (laws_toNetwork_ok a0 v6 h7))) (rfl : ([] : List Nat) = [])) (And.intro (And.intro (con_sw 1000 3 (spec_FindWay_ok v6 a1 a2 a3 v8 h9)) (rfl : ([] : List Nat) = [])) (And.intro (And.intro (con_sw 1001 5 (con_sw 1000 4 (laws_toNetwork_ok a0 v10 h11))) (rfl : ([] : List Nat) = [])) (And.intro (And.intro (con_sw 1000 7 (impl_FindWay_ok v10 a1 a2 a3 v12 h13)) (rfl : ([] : List Nat) = [])) (And.intro (laws_eqTripS_ok v12.1 v8.1 v14 h15) (And.intro h16 (And.intro h17 (And.intro (And.intro (con_sw 1001 9 (con_sw 1000 8 (laws_toNetwork_ok a0 v18 h19))) (rfl : ([] : List Nat) = [])) (And.intro (laws_eqNetwork_ok v10 v18 v20 h21) (And.intro (rfl : (laws_FnExactFindWay_x1 a0 a1 a2 a3 v8 v10 v12 v20) = (laws_FnExactFindWay_x1 a0 a1 a2 a3 v8 v10 v12 v20)) (And.intro (And.intro (con_sw 1001 9 (con_sw 1000 8 (laws_toNetwork_ok a0 v18 h19))) (rfl : ([] : List Nat) = [])) (And.intro (laws_eqNetwork_ok v10 v18 v20 h21) (And.intro (rfl : (laws_FnExactFindWay_x1 a0 a1 a2 a3 v8 v10 v12 v20) = (laws_FnExactFindWay_x1 a0 a1 a2 a3 v8 v10 v12 v20)) (And.intro (And.intro (con_sw 1001 9 (con_sw 1000 8 (laws_toNetwork_ok a0 v18 h19))) (rfl : ([] : List Nat) = [])) (And.intro (laws_eqNetwork_ok v10 v18 v20 h21) (And.intro (rfl : (laws_FnExactFindWay_x1 a0 a1 a2 a3 v8 v10 v12 v20) = (laws_FnExactFindWay_x1 a0 a1 a2 a3 v8 v10 v12 v20)) (And.intro h22 (And.intro (And.intro (con_sw 920 5 (con_sw 900 4 (laws_markNetwork_ok v10 1 v23 h24))) (rfl : ([4, 5] : List Nat) = [4, 5])) (And.intro h25 (And.intro (laws_eqTripS_ok v12.1 v8.1 v26 h27) (And.intro h28 (And.intro h29 (And.intro (And.intro (con_sw 900 7 (laws_markTripS_ok v12.1 1 v30 h31)) (rfl : ([7] : List Nat) = [7])) (And.intro (laws_heldTripS_ok v30.2 1 v32 h33) (And.intro h34 (And.intro h35 (And.intro (And.intro (con_sw 1001 11 (con_sw 1000 10 (laws_toNetwork_ok a0 v36 h37))) (rfl : ([] : List Nat) = [])) (And.intro (And.intro (con_sw 1000 12 (impl_FindWay_ok v36 a1 a2 a3 v38 h39)) (rfl : ([] : List Nat) = [])) (And.intro (laws_eqTripS_ok v38.1 v8.1 v40 h41) (And.intro h42 True.intro)))))))))))))))))))))))))))))))))) (by kernel_rfl)
                        · rcases cond_cases hM with ⟨h43, hM⟩ | ⟨h43, hM⟩
                          · have hE : some false = some r := hM
                            have hE := Option.some.inj hE
                            subst hE
                            exact pr R 9999 [.new 0, .as 22 false, .as 25 false, .call false [] (.o (.c (.v (.int .i64 v3)))) [] [], .as 30 false, .call false [] (.o (.agg [.sl 1, .sl 2, .v (.int .i64 v6.Change)])) [] [(1, .row 66 6 (v6.Legs.map Leg.enc)), (2, .row 3 1 (v6.Off.map encI))], .call false [] (.tup [.c (.sl 3), .c (.v (.bool v8.2))]) [] [(3, .row 46 2 (v8.1.map Trip.enc))], .call false [] (.o (.agg [.sl 4, .sl 5, .v (.int .i64 v10.Change)])) [] [(4, .row 66 6 (v10.Legs.map Leg.enc)), (5, .row 3 1 (v10.Off.map encI))], .new 6, .call false [] (.tup [.c (.sl 7), .c (.v (.bool v12.2))]) [] [(7, .row 46 2 (v12.1.map Trip.enc))], .call false [] (.o (.c (.v (.bool v14)))) [] [], .as 54 false, .as 58 false, .xo [[], [], [.call false [] (.o (.agg [.sl 8, .sl 9, .v (.int .i64 v18.Change)])) [] [(8, .row 66 6 (v18.Legs.map Leg.enc)), (9, .row 3 1 (v18.Off.map encI))]], [.call false [] (.o (.c (.v (.bool v20)))) [] []], []] [.keep [1, 2, 3, 4, 10, 11, 12, 13, 14, 63] [0, 3, 6, 4, 5, 7]] (laws_FnExactFindWay_x1 a0 a1 a2 a3 v8 v10 v12 v20), .as 63 false, .ad (.keep [1, 2, 3, 4, 10, 11, 12, 13, 14, 15, 63, 64, 65] [4, 5, 0, 3, 6, 7]), .call false [4, 5] (.o (.c (.v (.int .i64 v23.1)))) [(4, .row 66 6 (v23.2.Legs.map Leg.enc)), (5, .row 3 1 (v23.2.Off.map encI))] [], .as 69 false, .call false [] (.o (.c (.v (.bool v26)))) [] [], .as 75 false, .as 79 false, .call false [7] (.o (.c (.v (.int .i64 v30.1)))) [(7, .row 46 2 (v30.2.map Trip.enc))] [], .call false [] (.o (.c (.v (.int .i64 v32)))) [] [], .as 87 false, .as 90 false, .call false [] (.o (.agg [.sl 10, .sl 11, .v (.int .i64 v36.Change)])) [] [(10, .row 66 6 (v36.Legs.map Leg.enc)), (11, .row 3 1 (v36.Off.map encI))], .call false [] (.tup [.c (.sl 12), .c (.v (.bool v38.2))]) [] [(12, .row 46 2 (v38.1.map Trip.enc))], .call false [] (.o (.c (.v (.bool v40)))) [] [], .as 104 false, .as 108 true] [] [] [] (And.intro h1 (And.intro h2 (And.intro (laws_szNetwork_ok a0 1048576 v3 h4) (And.intro h5 (And.intro (And.intro (con_sw 1001 2 (con_sw 1000 1 (laws_toNetwork_ok a0 v6 h7))) (rfl : ([] : List Nat) = [])) (And.intro (And.intro (con_sw 1000 3 (spec_FindWay_ok v6 a1 a2 a3 v8 h9)) (rfl : ([] : List Nat) = [])) (And.intro (And.intro (con_sw 1001 5 (con_sw 1000 4 (laws_toNetwork_ok a0 v10 h11))) (rfl : ([] : List Nat) = [])) (And.intro (And.intro (con_sw 1000 7 (impl_FindWay_ok v10 a1 a2 a3 v12 h13)) (rfl : ([] : List Nat) = [])) (And.intro (laws_eqTripS_ok v12.1 v8.1 v14 h15) (And.intro h16 (And.intro h17 (And.intro (And.intro (con_sw 1001 9 (con_sw 1000 8 (laws_toNetwork_ok a0 v18 h19))) (rfl : ([] : List Nat) = [])) (And.intro (laws_eqNetwork_ok v10 v18 v20 h21) (And.intro (rfl : (laws_FnExactFindWay_x1 a0 a1 a2 a3 v8 v10 v12 v20) = (laws_FnExactFindWay_x1 a0 a1 a2 a3 v8 v10 v12 v20)) (And.intro (And.intro (con_sw 1001 9 (con_sw 1000 8 (laws_toNetwork_ok a0 v18 h19))) (rfl : ([] : List Nat) = [])) (And.intro (laws_eqNetwork_ok v10 v18 v20 h21) (And.intro (rfl : (laws_FnExactFindWay_x1 a0 a1 a2 a3 v8 v10 v12 v20) = (laws_FnExactFindWay_x1 a0 a1 a2 a3 v8 v10 v12 v20)) (And.intro (And.intro (con_sw 1001 9 (con_sw 1000 8 (laws_toNetwork_ok a0 v18 h19))) (rfl : ([] : List Nat) = [])) (And.intro (laws_eqNetwork_ok v10 v18 v20 h21) (And.intro (rfl : (laws_FnExactFindWay_x1 a0 a1 a2 a3 v8 v10 v12 v20) = (laws_FnExactFindWay_x1 a0 a1 a2 a3 v8 v10 v12 v20)) (And.intro h22 (And.intro (And.intro (con_sw 920 5 (con_sw 900 4 (laws_markNetwork_ok v10 1 v23 h24))) (rfl : ([4, 5] : List Nat) = [4, 5])) (And.intro h25 (And.intro (laws_eqTripS_ok v12.1 v8.1 v26 h27) (And.intro h28 (And.intro h29 (And.intro (And.intro (con_sw 900 7 (laws_markTripS_ok v12.1 1 v30 h31)) (rfl : ([7] : List Nat) = [7])) (And.intro (laws_heldTripS_ok v30.2 1 v32 h33) (And.intro h34 (And.intro h35 (And.intro (And.intro (con_sw 1001 11 (con_sw 1000 10 (laws_toNetwork_ok a0 v36 h37))) (rfl : ([] : List Nat) = [])) (And.intro (And.intro (con_sw 1000 12 (impl_FindWay_ok v36 a1 a2 a3 v38 h39)) (rfl : ([] : List Nat) = [])) (And.intro (laws_eqTripS_ok v38.1 v8.1 v40 h41) (And.intro h42 (And.intro h43 True.intro))))))))))))))))))))))))))))))))))) (by kernel_rfl)
                          · obtain ⟨v44, h45, hM⟩ := bind_some hM
                            rcases cond_cases hM with ⟨h46, hM⟩ | ⟨h46, hM⟩
                            · have hE : some false = some r := hM
                              have hE := Option.some.inj hE
                              subst hE
                              exact pr R 9999 [.new 0, .as 22 false, .as 25 false, .call false [] (.o (.c (.v (.int .i64 v3)))) [] [], .as 30 false, .call false [] (.o (.agg [.sl 1, .sl 2, .v (.int .i64 v6.Change)])) [] [(1, .row 66 6 (v6.Legs.map Leg.enc)), (2, .row 3 1 (v6.Off.map encI))], .call false [] (.tup [.c (.sl 3), .c (.v (.bool v8.2))]) [] [(3, .row 46 2 (v8.1.map Trip.enc))], .call false [] (.o (.agg [.sl 4, .sl 5, .v (.int .i64 v10.Change)])) [] [(4, .row 66 6 (v10.Legs.map Leg.enc)), (5, .row 3 1 (v10.Off.map encI))], .new 6, .call false [] (.tup [.c (.sl 7), .c (.v (.bool v12.2))]) [] [(7, .row 46 2 (v12.1.map Trip.enc))], .call false [] (.o (.c (.v (.bool v14)))) [] [], .as 54 false, .as 58 false, .xo [[], [], [.call false [] (.o (.agg [.sl 8, .sl 9, .v (.int .i64 v18.Change)])) [] [(8, .row 66 6 (v18.Legs.map Leg.enc)), (9, .row 3 1 (v18.Off.map encI))]], [.call false [] (.o (.c (.v (.bool v20)))) [] []], []] [.keep [1, 2, 3, 4, 10, 11, 12, 13, 14, 63] [0, 3, 6, 4, 5, 7]] (laws_FnExactFindWay_x1 a0 a1 a2 a3 v8 v10 v12 v20), .as 63 false, .ad (.keep [1, 2, 3, 4, 10, 11, 12, 13, 14, 15, 63, 64, 65] [4, 5, 0, 3, 6, 7]), .call false [4, 5] (.o (.c (.v (.int .i64 v23.1)))) [(4, .row 66 6 (v23.2.Legs.map Leg.enc)), (5, .row 3 1 (v23.2.Off.map encI))] [], .as 69 false, .call false [] (.o (.c (.v (.bool v26)))) [] [], .as 75 false, .as 79 false, .call false [7] (.o (.c (.v (.int .i64 v30.1)))) [(7, .row 46 2 (v30.2.map Trip.enc))] [], .call false [] (.o (.c (.v (.int .i64 v32)))) [] [], .as 87 false, .as 90 false, .call false [] (.o (.agg [.sl 10, .sl 11, .v (.int .i64 v36.Change)])) [] [(10, .row 66 6 (v36.Legs.map Leg.enc)), (11, .row 3 1 (v36.Off.map encI))], .call false [] (.tup [.c (.sl 12), .c (.v (.bool v38.2))]) [] [(12, .row 46 2 (v38.1.map Trip.enc))], .call false [] (.o (.c (.v (.bool v40)))) [] [], .as 104 false, .as 108 false, .call false [] (.o (.c (.v (.int .i64 v44)))) [] [], .as 113 true] [] [] [] (And.intro h1 (And.intro h2 (And.intro (laws_szNetwork_ok a0 1048576 v3 h4) (And.intro h5 (And.intro (And.intro (con_sw 1001 2 (con_sw 1000 1 (laws_toNetwork_ok a0 v6 h7))) (rfl : ([] : List Nat) = [])) (And.intro (And.intro (con_sw 1000 3 (spec_FindWay_ok v6 a1 a2 a3 v8 h9)) (rfl : ([] : List Nat) = [])) (And.intro (And.intro (con_sw 1001 5 (con_sw 1000 4 (laws_toNetwork_ok a0 v10 h11))) (rfl : ([] : List Nat) = [])) (And.intro (And.intro (con_sw 1000 7 (impl_FindWay_ok v10 a1 a2 a3 v12 h13)) (rfl : ([] : List Nat) = [])) (And.intro (laws_eqTripS_ok v12.1 v8.1 v14 h15) (And.intro h16 (And.intro h17 (And.intro (And.intro (con_sw 1001 9 (con_sw 1000 8 (laws_toNetwork_ok a0 v18 h19))) (rfl : ([] : List Nat) = [])) (And.intro (laws_eqNetwork_ok v10 v18 v20 h21) (And.intro (rfl : (laws_FnExactFindWay_x1 a0 a1 a2 a3 v8 v10 v12 v20) = (laws_FnExactFindWay_x1 a0 a1 a2 a3 v8 v10 v12 v20)) (And.intro (And.intro (con_sw 1001 9 (con_sw 1000 8 (laws_toNetwork_ok a0 v18 h19))) (rfl : ([] : List Nat) = [])) (And.intro (laws_eqNetwork_ok v10 v18 v20 h21) (And.intro (rfl : (laws_FnExactFindWay_x1 a0 a1 a2 a3 v8 v10 v12 v20) = (laws_FnExactFindWay_x1 a0 a1 a2 a3 v8 v10 v12 v20)) (And.intro (And.intro (con_sw 1001 9 (con_sw 1000 8 (laws_toNetwork_ok a0 v18 h19))) (rfl : ([] : List Nat) = [])) (And.intro (laws_eqNetwork_ok v10 v18 v20 h21) (And.intro (rfl : (laws_FnExactFindWay_x1 a0 a1 a2 a3 v8 v10 v12 v20) = (laws_FnExactFindWay_x1 a0 a1 a2 a3 v8 v10 v12 v20)) (And.intro h22 (And.intro (And.intro (con_sw 920 5 (con_sw 900 4 (laws_markNetwork_ok v10 1 v23 h24))) (rfl : ([4, 5] : List Nat) = [4, 5])) (And.intro h25 (And.intro (laws_eqTripS_ok v12.1 v8.1 v26 h27) (And.intro h28 (And.intro h29 (And.intro (And.intro (con_sw 900 7 (laws_markTripS_ok v12.1 1 v30 h31)) (rfl : ([7] : List Nat) = [7])) (And.intro (laws_heldTripS_ok v30.2 1 v32 h33) (And.intro h34 (And.intro h35 (And.intro (And.intro (con_sw 1001 11 (con_sw 1000 10 (laws_toNetwork_ok a0 v36 h37))) (rfl : ([] : List Nat) = [])) (And.intro (And.intro (con_sw 1000 12 (impl_FindWay_ok v36 a1 a2 a3 v38 h39)) (rfl : ([] : List Nat) = [])) (And.intro (laws_eqTripS_ok v38.1 v8.1 v40 h41) (And.intro h42 (And.intro h43 (And.intro (laws_heldTripS_ok v30.2 1 v44 h45) (And.intro h46 True.intro))))))))))))))))))))))))))))))))))))) (by kernel_rfl)
                            · rcases cond_cases hM with ⟨h47, hM⟩ | ⟨h47, hM⟩
                              · have hE : some false = some r := hM
                                have hE := Option.some.inj hE
                                subst hE
                                exact pr R 9999 [.new 0, .as 22 false, .as 25 false, .call false [] (.o (.c (.v (.int .i64 v3)))) [] [], .as 30 false, .call false [] (.o (.agg [.sl 1, .sl 2, .v (.int .i64 v6.Change)])) [] [(1, .row 66 6 (v6.Legs.map Leg.enc)), (2, .row 3 1 (v6.Off.map encI))], .call false [] (.tup [.c (.sl 3), .c (.v (.bool v8.2))]) [] [(3, .row 46 2 (v8.1.map Trip.enc))], .call false [] (.o (.agg [.sl 4, .sl 5, .v (.int .i64 v10.Change)])) [] [(4, .row 66 6 (v10.Legs.map Leg.enc)), (5, .row 3 1 (v10.Off.map encI))], .new 6, .call false [] (.tup [.c (.sl 7), .c (.v (.bool v12.2))]) [] [(7, .row 46 2 (v12.1.map Trip.enc))], .call false [] (.o (.c (.v (.bool v14)))) [] [], .as 54 false, .as 58 false, .xo [[], [], [.call false [] (.o (.agg [.sl 8, .sl 9, .v (.int .i64 v18.Change)])) [] [(8, .row 66 6 (v18.Legs.map Leg.enc)), (9, .row 3 1 (v18.Off.map encI))]], [.call false [] (.o (.c (.v (.bool v20)))) [] []], []] [.keep [1, 2, 3, 4, 10, 11, 12, 13, 14, 63] [0, 3, 6, 4, 5, 7]] (laws_FnExactFindWay_x1 a0 a1 a2 a3 v8 v10 v12 v20), .as 63 false, .ad (.keep [1, 2, 3, 4, 10, 11, 12, 13, 14, 15, 63, 64, 65] [4, 5, 0, 3, 6, 7]), .call false [4, 5] (.o (.c (.v (.int .i64 v23.1)))) [(4, .row 66 6 (v23.2.Legs.map Leg.enc)), (5, .row 3 1 (v23.2.Off.map encI))] [], .as 69 false, .call false [] (.o (.c (.v (.bool v26)))) [] [], .as 75 false, .as 79 false, .call false [7] (.o (.c (.v (.int .i64 v30.1)))) [(7, .row 46 2 (v30.2.map Trip.enc))] [], .call false [] (.o (.c (.v (.int .i64 v32)))) [] [], .as 87 false, .as 90 false, .call false [] (.o (.agg [.sl 10, .sl 11, .v (.int .i64 v36.Change)])) [] [(10, .row 66 6 (v36.Legs.map Leg.enc)), (11, .row 3 1 (v36.Off.map encI))], .call false [] (.tup [.c (.sl 12), .c (.v (.bool v38.2))]) [] [(12, .row 46 2 (v38.1.map Trip.enc))], .call false [] (.o (.c (.v (.bool v40)))) [] [], .as 104 false, .as 108 false, .call false [] (.o (.c (.v (.int .i64 v44)))) [] [], .as 113 false, .as 116 true] [] [] [] (And.intro h1 (And.intro h2 (And.intro (laws_szNetwork_ok a0 1048576 v3 h4) (And.intro h5 (And.intro (And.intro (con_sw 1001 2 (con_sw 1000 1 (laws_toNetwork_ok a0 v6 h7))) (rfl : ([] : List Nat) = [])) (And.intro (And.intro (con_sw 1000 3 (spec_FindWay_ok v6 a1 a2 a3 v8 h9)) (rfl : ([] : List Nat) = [])) (And.intro (And.intro (con_sw 1001 5 (con_sw 1000 4 (laws_toNetwork_ok a0 v10 h11))) (rfl : ([] : List Nat) = [])) (And.intro (And.intro (con_sw 1000 7 (impl_FindWay_ok v10 a1 a2 a3 v12 h13)) (rfl : ([] : List Nat) = [])) (And.intro (laws_eqTripS_ok v12.1 v8.1 v14 h15) (And.intro h16 (And.intro h17 (And.intro (And.intro (con_sw 1001 9 (con_sw 1000 8 (laws_toNetwork_ok a0 v18 h19))) (rfl : ([] : List Nat) = [])) (And.intro (laws_eqNetwork_ok v10 v18 v20 h21) (And.intro (rfl : (laws_FnExactFindWay_x1 a0 a1 a2 a3 v8 v10 v12 v20) = (laws_FnExactFindWay_x1 a0 a1 a2 a3 v8 v10 v12 v20)) (And.intro (And.intro (con_sw 1001 9 (con_sw 1000 8 (laws_toNetwork_ok a0 v18 h19))) (rfl : ([] : List Nat) = [])) (And.intro (laws_eqNetwork_ok v10 v18 v20 h21) (And.intro (rfl : (laws_FnExactFindWay_x1 a0 a1 a2 a3 v8 v10 v12 v20) = (laws_FnExactFindWay_x1 a0 a1 a2 a3 v8 v10 v12 v20)) (And.intro (And.intro (con_sw 1001 9 (con_sw 1000 8 (laws_toNetwork_ok a0 v18 h19))) (rfl : ([] : List Nat) = [])) (And.intro (laws_eqNetwork_ok v10 v18 v20 h21) (And.intro (rfl : (laws_FnExactFindWay_x1 a0 a1 a2 a3 v8 v10 v12 v20) = (laws_FnExactFindWay_x1 a0 a1 a2 a3 v8 v10 v12 v20)) (And.intro h22 (And.intro (And.intro (con_sw 920 5 (con_sw 900 4 (laws_markNetwork_ok v10 1 v23 h24))) (rfl : ([4, 5] : List Nat) = [4, 5])) (And.intro h25 (And.intro (laws_eqTripS_ok v12.1 v8.1 v26 h27) (And.intro h28 (And.intro h29 (And.intro (And.intro (con_sw 900 7 (laws_markTripS_ok v12.1 1 v30 h31)) (rfl : ([7] : List Nat) = [7])) (And.intro (laws_heldTripS_ok v30.2 1 v32 h33) (And.intro h34 (And.intro h35 (And.intro (And.intro (con_sw 1001 11 (con_sw 1000 10 (laws_toNetwork_ok a0 v36 h37))) (rfl : ([] : List Nat) = [])) (And.intro (And.intro (con_sw 1000 12 (impl_FindWay_ok v36 a1 a2 a3 v38 h39)) (rfl : ([] : List Nat) = [])) (And.intro (laws_eqTripS_ok v38.1 v8.1 v40 h41) (And.intro h42 (And.intro h43 (And.intro (laws_heldTripS_ok v30.2 1 v44 h45) (And.intro h46 (And.intro h47 True.intro)))))))))))))))))))))))))))))))))))))) (by kernel_rfl)
                              · have hE : some true = some r := hM
                                have hE := Option.some.inj hE
                                subst hE
                                exact pr R 9999 [.new 0, .as 22 false, .as 25 false, .call false [] (.o (.c (.v (.int .i64 v3)))) [] [], .as 30 false, .call false [] (.o (.agg [.sl 1, .sl 2, .v (.int .i64 v6.Change)])) [] [(1, .row 66 6 (v6.Legs.map Leg.enc)), (2, .row 3 1 (v6.Off.map encI))], .call false [] (.tup [.c (.sl 3), .c (.v (.bool v8.2))]) [] [(3, .row 46 2 (v8.1.map Trip.enc))], .call false [] (.o (.agg [.sl 4, .sl 5, .v (.int .i64 v10.Change)])) [] [(4, .row 66 6 (v10.Legs.map Leg.enc)), (5, .row 3 1 (v10.Off.map encI))], .new 6, .call false [] (.tup [.c (.sl 7), .c (.v (.bool v12.2))]) [] [(7, .row 46 2 (v12.1.map Trip.enc))], .call false [] (.o (.c (.v (.bool v14)))) [] [], .as 54 false, .as 58 false, .xo [[], [], [.call false [] (.o (.agg [.sl 8, .sl 9, .v (.int .i64 v18.Change)])) [] [(8, .row 66 6 (v18.Legs.map Leg.enc)), (9, .row 3 1 (v18.Off.map encI))]], [.call false [] (.o (.c (.v (.bool v20)))) [] []], []] [.keep [1, 2, 3, 4, 10, 11, 12, 13, 14, 63] [0, 3, 6, 4, 5, 7]] (laws_FnExactFindWay_x1 a0 a1 a2 a3 v8 v10 v12 v20), .as 63 false, .ad (.keep [1, 2, 3, 4, 10, 11, 12, 13, 14, 15, 63, 64, 65] [4, 5, 0, 3, 6, 7]), .call false [4, 5] (.o (.c (.v (.int .i64 v23.1)))) [(4, .row 66 6 (v23.2.Legs.map Leg.enc)), (5, .row 3 1 (v23.2.Off.map encI))] [], .as 69 false, .call false [] (.o (.c (.v (.bool v26)))) [] [], .as 75 false, .as 79 false, .call false [7] (.o (.c (.v (.int .i64 v30.1)))) [(7, .row 46 2 (v30.2.map Trip.enc))] [], .call false [] (.o (.c (.v (.int .i64 v32)))) [] [], .as 87 false, .as 90 false, .call false [] (.o (.agg [.sl 10, .sl 11, .v (.int .i64 v36.Change)])) [] [(10, .row 66 6 (v36.Legs.map Leg.enc)), (11, .row 3 1 (v36.Off.map encI))], .call false [] (.tup [.c (.sl 12), .c (.v (.bool v38.2))]) [] [(12, .row 46 2 (v38.1.map Trip.enc))], .call false [] (.o (.c (.v (.bool v40)))) [] [], .as 104 false, .as 108 false, .call false [] (.o (.c (.v (.int .i64 v44)))) [] [], .as 113 false, .as 116 false] [] [] [] (And.intro h1 (And.intro h2 (And.intro (laws_szNetwork_ok a0 1048576 v3 h4) (And.intro h5 (And.intro (And.intro (con_sw 1001 2 (con_sw 1000 1 (laws_toNetwork_ok a0 v6 h7))) (rfl : ([] : List Nat) = [])) (And.intro (And.intro (con_sw 1000 3 (spec_FindWay_ok v6 a1 a2 a3 v8 h9)) (rfl : ([] : List Nat) = [])) (And.intro (And.intro (con_sw 1001 5 (con_sw 1000 4 (laws_toNetwork_ok a0 v10 h11))) (rfl : ([] : List Nat) = [])) (And.intro (And.intro (con_sw 1000 7 (impl_FindWay_ok v10 a1 a2 a3 v12 h13)) (rfl : ([] : List Nat) = [])) (And.intro (laws_eqTripS_ok v12.1 v8.1 v14 h15) (And.intro h16 (And.intro h17 (And.intro (And.intro (con_sw 1001 9 (con_sw 1000 8 (laws_toNetwork_ok a0 v18 h19))) (rfl : ([] : List Nat) = [])) (And.intro (laws_eqNetwork_ok v10 v18 v20 h21) (And.intro (rfl : (laws_FnExactFindWay_x1 a0 a1 a2 a3 v8 v10 v12 v20) = (laws_FnExactFindWay_x1 a0 a1 a2 a3 v8 v10 v12 v20)) (And.intro (And.intro (con_sw 1001 9 (con_sw 1000 8 (laws_toNetwork_ok a0 v18 h19))) (rfl : ([] : List Nat) = [])) (And.intro (laws_eqNetwork_ok v10 v18 v20 h21) (And.intro (rfl : (laws_FnExactFindWay_x1 a0 a1 a2 a3 v8 v10 v12 v20) = (laws_FnExactFindWay_x1 a0 a1 a2 a3 v8 v10 v12 v20)) (And.intro (And.intro (con_sw 1001 9 (con_sw 1000 8 (laws_toNetwork_ok a0 v18 h19))) (rfl : ([] : List Nat) = [])) (And.intro (laws_eqNetwork_ok v10 v18 v20 h21) (And.intro (rfl : (laws_FnExactFindWay_x1 a0 a1 a2 a3 v8 v10 v12 v20) = (laws_FnExactFindWay_x1 a0 a1 a2 a3 v8 v10 v12 v20)) (And.intro h22 (And.intro (And.intro (con_sw 920 5 (con_sw 900 4 (laws_markNetwork_ok v10 1 v23 h24))) (rfl : ([4, 5] : List Nat) = [4, 5])) (And.intro h25 (And.intro (laws_eqTripS_ok v12.1 v8.1 v26 h27) (And.intro h28 (And.intro h29 (And.intro (And.intro (con_sw 900 7 (laws_markTripS_ok v12.1 1 v30 h31)) (rfl : ([7] : List Nat) = [7])) (And.intro (laws_heldTripS_ok v30.2 1 v32 h33) (And.intro h34 (And.intro h35 (And.intro (And.intro (con_sw 1001 11 (con_sw 1000 10 (laws_toNetwork_ok a0 v36 h37))) (rfl : ([] : List Nat) = [])) (And.intro (And.intro (con_sw 1000 12 (impl_FindWay_ok v36 a1 a2 a3 v38 h39)) (rfl : ([] : List Nat) = [])) (And.intro (laws_eqTripS_ok v38.1 v8.1 v40 h41) (And.intro h42 (And.intro h43 (And.intro (laws_heldTripS_ok v30.2 1 v44 h45) (And.intro h46 (And.intro h47 True.intro)))))))))))))))))))))))))))))))))))))) (by kernel_rfl)

-- loop.example/g03014/laws.big
def laws_big (a0 : (List Int)) : Option Bool :=
  some (decide ((a0.length : Int) > 4096))
theorem laws_big_ok (a0 : (List Int)) (r : Bool) (hM : laws_big a0 = some r) :
    Con Try.prog 16 [.c (.rs 1 (a0.map encU8))] [] (.o (.c (.v (.bool r)))) [] [] := by
  unfold laws_big at hM
  refine cn (N := 6) (pids := []) Try_mixed Try.func16 (by kernel_rfl) (by kernel_rfl) (by kernel_rfl) rfl fun ρ g w R => ?_
  have hE : some (decide ((a0.length : Int) > 4096)) = some r := hM
  have hE := Option.some.inj hE
  subst hE
  exact pr R 9999 [.ln (a0.length)] [] [] [] (And.intro (lenm encU8 a0) True.intro) (by kernel_rfl)

-- loop.example/g03014/spec.l1New
def spec_l1New_L1_b (a0 : (List Int)) (s1 : Int) (s2 : Int) : Option (Ctl (Int × Int) Int l1Cur) :=
  bif (decide (s2 < (a0.length : Int))) then
  bif (decide (s2 < 4000)) then
  (gi a0 s2).bind fun v6 =>
  some (.next (w64 ((BitVec.ofInt 64 (w64 ((w64 ((w64 (s1 * 167)) + (w64 v6))) + 29)) &&& BitVec.ofInt 64 1073741823).toNat), w64 (s2 + 1)))
  else
  some (.brk s1)
  else
  some (.brk s1)
def spec_l1New_L1 (a0 : (List Int)) (s : Int × Int) : Option (Ctl (Int × Int) Int l1Cur) := spec_l1New_L1_b a0 s.1 s.2
def spec_l1New_L1_s (a0 : (List Int)) (s1 : Int) (s2 : Int) : St := ⟨[(0, .o (.c (.rs 1 (a0.map encU8)))), (3, .o (.c (.v (.int .i64 s1)))), (4, .o (.c (.v (.int .i64 s2))))], []⟩
def spec_l1New_L1_S (a0 : (List Int)) (s : Int × Int) : St := spec_l1New_L1_s a0 s.1 s.2
def spec_l1New_L1_a (a0 : (List Int)) (s3 : Int) : Option l1Cur :=
  some (l1Cur.mk a0 0 s3)
def spec_l1New_L1_k (a0 : (List Int)) (x : (Int) ⊕ (l1Cur)) : Option l1Cur := match x with
  | .inl t => spec_l1New_L1_a a0 t
  | .inr y => some y
def spec_l1New (a0 : (List Int)) : Option l1Cur :=
  (loopM (spec_l1New_L1 a0) big (w64 (744201 + (w64 (3 * (a0.length : Int)))), 0)).bind (spec_l1New_L1_k a0)
theorem spec_l1New_ok (a0 : (List Int)) (r : l1Cur) (hM : spec_l1New a0 = some r) :
    Con Try.prog 49 [.c (.rs 1 (a0.map encU8))] [] (.o (.c (.ptr 1000 0))) [] [(1000, .box 112 [.rs 1 (r.b.map encU8), .v (.int .i64 r.i), .v (.int .i64 r.h)])] := by
  unfold spec_l1New at hM
  refine cn (N := 33) (pids := []) Try_mixed Try.func49 (by kernel_rfl) (by kernel_rfl) (by kernel_rfl) rfl fun ρ g w R => ?_
  have K1 : ∀ (s3 : Int), spec_l1New_L1_a a0 s3 = some r → Gr R [.code (cAt Try.f49 [1, 1, 1])] (⟨[(0, .o (.c (.rs 1 (a0.map encU8)))), (3, .o (.c (.v (.int .i64 s3))))], []⟩) := by
    intro s3 hM
    unfold spec_l1New_L1_a at hM
    have hE : some (l1Cur.mk a0 0 s3) = some r := hM
    have hE := Option.some.inj hE
    subst hE
    exact pr R 9999 [.new 0] [.sw 0 1000] [] [1000] True.intro (by kernel_rfl)
  refine pc R 9999 [.ln (a0.length)] [.keep [0, 3, 4] []] (k' := [.code (.loop (cAt Try.f49 [1, 1, 0, 1, 0, 0])), .blk 0, .code (cAt Try.f49 [1, 1, 1])]) (S' := spec_l1New_L1_S a0 (w64 (744201 + (w64 (3 * (a0.length : Int)))), 0)) (And.intro (lenm encU8 a0) True.intro) (by kernel_rfl) ?_
  refine lq (spec_l1New_L1_S a0) (body := spec_l1New_L1 a0) (k := spec_l1New_L1_k a0) hM fun m1 s c1 hM hK1 => ?_
  obtain ⟨s1, s2⟩ := s
  have hM : spec_l1New_L1_b a0 s1 s2 = some c1 := hM
  unfold spec_l1New_L1_b at hM
  rcases cond_cases hM with ⟨h4, hM⟩ | ⟨h4, hM⟩
  · rcases cond_cases hM with ⟨h5, hM⟩ | ⟨h5, hM⟩
    · obtain ⟨v6, h7, hM⟩ := bind_some hM
      have hE : some (Ctl.next (w64 ((BitVec.ofInt 64 (w64 ((w64 ((w64 (s1 * 167)) + (w64 v6))) + 29)) &&& BitVec.ofInt 64 1073741823).toNat), w64 (s2 + 1))) = some c1 := hM
      have hE := Option.some.inj hE
      subst hE
      exact pc R 9999 [.ln (a0.length), .as 13 true, .as 16 true, .ix (encU8 v6)] [.keep [0, 3, 4] []] (And.intro (lenm encU8 a0) (And.intro h4 (And.intro h5 (And.intro (gi_map encU8 h7) True.intro)))) (by kernel_rfl) (li (Sf := spec_l1New_L1_S a0) (M := Mk (spec_l1New_L1 a0) (spec_l1New_L1_k a0) r) (k := [.blk 0, .code (cAt Try.f49 [1, 1, 1])]) (Nat.lt_succ_self m1) hK1)
    · have hE : some (Ctl.brk s1) = some c1 := hM
      have hE := Option.some.inj hE
      subst hE
      exact pc R 5 [.ln (a0.length), .as 13 true, .as 16 false] [.keep [0, 3] []] (And.intro (lenm encU8 a0) (And.intro h4 (And.intro h5 True.intro))) (by kernel_rfl) (K1 s1 hK1)
  · have hE : some (Ctl.brk s1) = some c1 := hM
    have hE := Option.some.inj hE
    subst hE
    exact pc R 5 [.ln (a0.length), .as 13 false] [.keep [0, 3] []] (And.intro (lenm encU8 a0) (And.intro h4 True.intro)) (by kernel_rfl) (K1 s1 hK1)

-- loop.example/g03014/spec.l1Byte
def spec_l1Byte (a0 : l1Cur) : Option (Int × l1Cur) :=
  bif (decide (a0.i < (a0.b.length : Int))) then
  (gi a0.b a0.i).bind fun v2 =>
  some (w64 ((BitVec.ofInt 64 (w64 ((w64 ((BitVec.ofInt 64 (w64 ((BitVec.ofInt 64 (Int.fdiv (w64 ((w64 (a0.h * 6364136223846793005)) + 1442695040888963407)) (2 ^ 35)) ^^^ BitVec.ofInt 64 (Int.fdiv (w64 ((w64 (a0.h * 6364136223846793005)) + 1442695040888963407)) (2 ^ 45))).toNat)) &&& BitVec.ofInt 64 255).toNat)) + (w64 v2))) &&& BitVec.ofInt 64 255).toNat), (l1Cur.mk a0.b (w64 (a0.i + 1)) (w64 ((w64 (a0.h * 6364136223846793005)) + 1442695040888963407))))
  else
  some (w64 ((BitVec.ofInt 64 (w64 ((BitVec.ofInt 64 (Int.fdiv (w64 ((w64 (a0.h * 6364136223846793005)) + 1442695040888963407)) (2 ^ 35)) ^^^ BitVec.ofInt 64 (Int.fdiv (w64 ((w64 (a0.h * 6364136223846793005)) + 1442695040888963407)) (2 ^ 45))).toNat)) &&& BitVec.ofInt 64 255).toNat), (l1Cur.mk a0.b a0.i (w64 ((w64 (a0.h * 6364136223846793005)) + 1442695040888963407))))
theorem spec_l1Byte_ok (a0 : l1Cur) (r : Int × l1Cur) (hM : spec_l1Byte a0 = some r) :
    Con Try.prog 110 [.c (.ptr 900 0)] [(900, .box 112 [.rs 1 (a0.b.map encU8), .v (.int .i64 a0.i), .v (.int .i64 a0.h)])] (.o (.c (.v (.int .i64 r.1)))) [(900, .box 112 [.rs 1 (r.2.b.map encU8), .v (.int .i64 r.2.i), .v (.int .i64 r.2.h)])] [] := by
  unfold spec_l1Byte at hM
  refine cn (N := 58) (pids := [900]) Try_mixed Try.func110 (by kernel_rfl) (by kernel_rfl) (by kernel_rfl) rfl fun ρ g w R => ?_
  rcases cond_cases hM with ⟨h1, hM⟩ | ⟨h1, hM⟩
  · obtain ⟨v2, h3, hM⟩ := bind_some hM
    have hE : some (w64 ((BitVec.ofInt 64 (w64 ((w64 ((BitVec.ofInt 64 (w64 ((BitVec.ofInt 64 (Int.fdiv (w64 ((w64 (a0.h * 6364136223846793005)) + 1442695040888963407)) (2 ^ 35)) ^^^ BitVec.ofInt 64 (Int.fdiv (w64 ((w64 (a0.h * 6364136223846793005)) + 1442695040888963407)) (2 ^ 45))).toNat)) &&& BitVec.ofInt 64 255).toNat)) + (w64 v2))) &&& BitVec.ofInt 64 255).toNat), (l1Cur.mk a0.b (w64 (a0.i + 1)) (w64 ((w64 (a0.h * 6364136223846793005)) + 1442695040888963407)))) = some r := hM
    have hE := Option.some.inj hE
    subst hE
    exact pr R 9999 [.ln (a0.b.length), .as 34 true, .ix (encU8 v2)] [] [900] [] (And.intro (lenm encU8 a0.b) (And.intro h1 (And.intro (gi_map encU8 h3) True.intro))) (by kernel_rfl)
  · have hE : some (w64 ((BitVec.ofInt 64 (w64 ((BitVec.ofInt 64 (Int.fdiv (w64 ((w64 (a0.h * 6364136223846793005)) + 1442695040888963407)) (2 ^ 35)) ^^^ BitVec.ofInt 64 (Int.fdiv (w64 ((w64 (a0.h * 6364136223846793005)) + 1442695040888963407)) (2 ^ 45))).toNat)) &&& BitVec.ofInt 64 255).toNat), (l1Cur.mk a0.b a0.i (w64 ((w64 (a0.h * 6364136223846793005)) + 1442695040888963407)))) = some r := hM
    have hE := Option.some.inj hE
    subst hE
    exact pr R 9999 [.ln (a0.b.length), .as 34 false] [] [900] [] (And.intro (lenm encU8 a0.b) (And.intro h1 True.intro)) (by kernel_rfl)

-- loop.example/g03014/spec.l1Below
def spec_l1Below (a0 : l1Cur) (a1 : Int) : Option (Int × l1Cur) :=
  bif (decide (a1 ≤ 0)) then
  some (0, a0)
  else
  bif (decide (a1 ≤ 256)) then
  (spec_l1Byte a0).bind fun v3 =>
  (rM v3.1 a1).bind fun v5 =>
  some (v5, v3.2)
  else
  (spec_l1Byte a0).bind fun v7 =>
  (spec_l1Byte v7.2).bind fun v9 =>
  (spec_l1Byte v9.2).bind fun v11 =>
  (rM (w64 ((w64 ((w64 (v7.1 * 65536)) + (w64 (v9.1 * 256)))) + v11.1)) a1).bind fun v13 =>
  some (v13, v11.2)
theorem spec_l1Below_ok (a0 : l1Cur) (a1 : Int) (r : Int × l1Cur) (hM : spec_l1Below a0 a1 = some r) :
    Con Try.prog 86 [.c (.ptr 900 0), .c (.v (.int .i64 a1))] [(900, .box 112 [.rs 1 (a0.b.map encU8), .v (.int .i64 a0.i), .v (.int .i64 a0.h)])] (.o (.c (.v (.int .i64 r.1)))) [(900, .box 112 [.rs 1 (r.2.b.map encU8), .v (.int .i64 r.2.i), .v (.int .i64 r.2.h)])] [] := by
  unfold spec_l1Below at hM
  refine cn (N := 31) (pids := [900]) Try_mixed Try.func86 (by kernel_rfl) (by kernel_rfl) (by kernel_rfl) rfl fun ρ g w R => ?_
  rcases cond_cases hM with ⟨h1, hM⟩ | ⟨h1, hM⟩
  · have hE : some (0, a0) = some r := hM
    have hE := Option.some.inj hE
    subst hE
    exact pr R 9999 [.as 9 true] [] [900] [] (And.intro h1 True.intro) (by kernel_rfl)
  · rcases cond_cases hM with ⟨h2, hM⟩ | ⟨h2, hM⟩
    · obtain ⟨v3, h4, hM⟩ := bind_some hM
      obtain ⟨v5, h6, hM⟩ := bind_some hM
      have hE : some (v5, v3.2) = some r := hM
      have hE := Option.some.inj hE
      subst hE
      exact pr R 9999 [.as 9 false, .as 11 true, .call true [900] (.o (.c (.v (.int .i64 v3.1)))) [(900, .box 112 [.rs 1 (v3.2.b.map encU8), .v (.int .i64 v3.2.i), .v (.int .i64 v3.2.h)])] [], .run 15 (.int .i64 v5)] [] [900] [] (And.intro h1 (And.intro h2 (And.intro (And.intro (con_sw 900 900 (spec_l1Byte_ok a0 v3 h4)) (rfl : ([900] : List Nat) = [900])) (And.intro (rM_run (P := Try.prog) (t := 3) (x := .tmp 0) (y := .tmp 0) h6) True.intro)))) (by kernel_rfl)
    · obtain ⟨v7, h8, hM⟩ := bind_some hM
      obtain ⟨v9, h10, hM⟩ := bind_some hM
      obtain ⟨v11, h12, hM⟩ := bind_some hM
      obtain ⟨v13, h14, hM⟩ := bind_some hM
      have hE : some (v13, v11.2) = some r := hM
      have hE := Option.some.inj hE
      subst hE
      exact pr R 9999 [.as 9 false, .as 11 false, .call true [900] (.o (.c (.v (.int .i64 v7.1)))) [(900, .box 112 [.rs 1 (v7.2.b.map encU8), .v (.int .i64 v7.2.i), .v (.int .i64 v7.2.h)])] [], .call true [900] (.o (.c (.v (.int .i64 v9.1)))) [(900, .box 112 [.rs 1 (v9.2.b.map encU8), .v (.int .i64 v9.2.i), .v (.int .i64 v9.2.h)])] [], .call true [900] (.o (.c (.v (.int .i64 v11.1)))) [(900, .box 112 [.rs 1 (v11.2.b.map encU8), .v (.int .i64 v11.2.i), .v (.int .i64 v11.2.h)])] [], .run 30 (.int .i64 v13)] [] [900] [] (And.intro h1 (And.intro h2 (And.intro (And.intro (con_sw 900 900 (spec_l1Byte_ok a0 v7 h8)) (rfl : ([900] : List Nat) = [900])) (And.intro (And.intro (con_sw 900 900 (spec_l1Byte_ok v7.2 v9 h10)) (rfl : ([900] : List Nat) = [900])) (And.intro (And.intro (con_sw 900 900 (spec_l1Byte_ok v9.2 v11 h12)) (rfl : ([900] : List Nat) = [900])) (And.intro (rM_run (P := Try.prog) (t := 3) (x := .tmp 0) (y := .tmp 0) h14) True.intro)))))) (by kernel_rfl)

-- loop.example/g03014/spec.l1Once
def spec_l1Once (a0 : l1Cur) (a1 : Int) : Option (Bool × l1Cur) :=
  (spec_l1Below a0 a1).bind fun v1 =>
  some (v1.1 == 0, v1.2)
theorem spec_l1Once_ok (a0 : l1Cur) (a1 : Int) (r : Bool × l1Cur) (hM : spec_l1Once a0 a1 = some r) :
    Con Try.prog 52 [.c (.ptr 900 0), .c (.v (.int .i64 a1))] [(900, .box 112 [.rs 1 (a0.b.map encU8), .v (.int .i64 a0.i), .v (.int .i64 a0.h)])] (.o (.c (.v (.bool r.1)))) [(900, .box 112 [.rs 1 (r.2.b.map encU8), .v (.int .i64 r.2.i), .v (.int .i64 r.2.h)])] [] := by
  unfold spec_l1Once at hM
  refine cn (N := 9) (pids := [900]) Try_mixed Try.func52 (by kernel_rfl) (by kernel_rfl) (by kernel_rfl) rfl fun ρ g w R => ?_
  obtain ⟨v1, h2, hM⟩ := bind_some hM
  have hE : some (v1.1 == 0, v1.2) = some r := hM
  have hE := Option.some.inj hE
  subst hE
  exact pr R 9999 [.call true [900] (.o (.c (.v (.int .i64 v1.1)))) [(900, .box 112 [.rs 1 (v1.2.b.map encU8), .v (.int .i64 v1.2.i), .v (.int .i64 v1.2.h)])] []] [] [900] [] (And.intro (And.intro (con_sw 900 900 (spec_l1Below_ok a0 a1 v1 h2)) (rfl : ([900] : List Nat) = [900])) True.intro) (by kernel_rfl)

-- loop.example/g03014/spec.l1Str
def spec_l1Str (a0 : l1Cur) (a1 : (List ByteArray)) : Option (ByteArray × l1Cur) :=
  (spec_l1Below a0 (a1.length : Int)).bind fun v1 =>
  (gi a1 v1.1).bind fun v3 =>
  some (v3, v1.2)
theorem spec_l1Str_ok (a0 : l1Cur) (a1 : (List ByteArray)) (r : ByteArray × l1Cur) (hM : spec_l1Str a0 a1 = some r) :
    Con Try.prog 111 [.c (.ptr 900 0), .c (.sl 901)] [(900, .box 112 [.rs 1 (a0.b.map encU8), .v (.int .i64 a0.i), .v (.int .i64 a0.h)]), (901, .row 9 1 (a1.map encS))] (.o (.c (.v (.string r.1)))) [(900, .box 112 [.rs 1 (r.2.b.map encU8), .v (.int .i64 r.2.i), .v (.int .i64 r.2.h)]), (901, .row 9 1 (a1.map encS))] [] := by
  unfold spec_l1Str at hM
  refine cn (N := 12) (pids := [900, 901]) Try_mixed Try.func111 (by kernel_rfl) (by kernel_rfl) (by kernel_rfl) rfl fun ρ g w R => ?_
  obtain ⟨v1, h2, hM⟩ := bind_some hM
  obtain ⟨v3, h4, hM⟩ := bind_some hM
  have hE : some (v3, v1.2) = some r := hM
  have hE := Option.some.inj hE
  subst hE
  exact pr R 9999 [.ln (a1.length), .call true [900] (.o (.c (.v (.int .i64 v1.1)))) [(900, .box 112 [.rs 1 (v1.2.b.map encU8), .v (.int .i64 v1.2.i), .v (.int .i64 v1.2.h)])] [], .ix (encS v3)] [] [900, 901] [] (And.intro (lenm encS a1) (And.intro (And.intro (con_sw 900 900 (spec_l1Below_ok a0 (a1.length : Int) v1 h2)) (rfl : ([900] : List Nat) = [900])) (And.intro (gi_lt encS h4) (And.intro ((gi_map encS h4).2) True.intro)))) (by kernel_rfl)

-- loop.example/g03014/spec.l1Place
def spec_l1Place (a0 : l1Cur) : Option (ByteArray × l1Cur) :=
  (spec_l1Str a0 ([(ByteArray.mk #[65, 77, 83]), (ByteArray.mk #[66, 82, 85]), (ByteArray.mk #[67, 68, 71]), (ByteArray.mk #[68, 85, 66]), (ByteArray.mk #[69, 68, 73]), (ByteArray.mk #[70, 82, 65]), (ByteArray.mk #[71, 79, 84])] : List ByteArray)).bind fun v1 =>
  some (v1.1, v1.2)
theorem spec_l1Place_ok (a0 : l1Cur) (r : ByteArray × l1Cur) (hM : spec_l1Place a0 = some r) :
    Con Try.prog 90 [.c (.ptr 900 0)] [(900, .box 112 [.rs 1 (a0.b.map encU8), .v (.int .i64 a0.i), .v (.int .i64 a0.h)])] (.o (.c (.v (.string r.1)))) [(900, .box 112 [.rs 1 (r.2.b.map encU8), .v (.int .i64 r.2.i), .v (.int .i64 r.2.h)])] [] := by
  unfold spec_l1Place at hM
  refine cn (N := 6) (pids := [900]) Try_mixed Try.func90 (by kernel_rfl) (by kernel_rfl) (by kernel_rfl) rfl fun ρ g w R => ?_
  obtain ⟨v1, h2, hM⟩ := bind_some hM
  have hE : some (v1.1, v1.2) = some r := hM
  have hE := Option.some.inj hE
  subst hE
  exact pr R 9999 [.new 0, .ad (.keep [0, 2, 3, 4] [900, 0]), .call true [900, 0] (.o (.c (.v (.string v1.1)))) [(900, .box 112 [.rs 1 (v1.2.b.map encU8), .v (.int .i64 v1.2.i), .v (.int .i64 v1.2.h)]), (0, .row 9 1 (([(ByteArray.mk #[65, 77, 83]), (ByteArray.mk #[66, 82, 85]), (ByteArray.mk #[67, 68, 71]), (ByteArray.mk #[68, 85, 66]), (ByteArray.mk #[69, 68, 73]), (ByteArray.mk #[70, 82, 65]), (ByteArray.mk #[71, 79, 84])] : List ByteArray).map encS))] []] [] [900] [] (And.intro (And.intro (con_sw 901 0 (con_sw 900 900 (spec_l1Str_ok a0 ([(ByteArray.mk #[65, 77, 83]), (ByteArray.mk #[66, 82, 85]), (ByteArray.mk #[67, 68, 71]), (ByteArray.mk #[68, 85, 66]), (ByteArray.mk #[69, 68, 73]), (ByteArray.mk #[70, 82, 65]), (ByteArray.mk #[71, 79, 84])] : List ByteArray) v1 h2))) (rfl : ([900, 0] : List Nat) = [900, 0])) True.intro) (by kernel_rfl)

-- loop.example/g03014/spec.l1Int
def spec_l1Int (a0 : l1Cur) (a1 : (List Int)) : Option (Int × l1Cur) :=
  (spec_l1Below a0 (a1.length : Int)).bind fun v1 =>
  (gi a1 v1.1).bind fun v3 =>
  some (v3, v1.2)
theorem spec_l1Int_ok (a0 : l1Cur) (a1 : (List Int)) (r : Int × l1Cur) (hM : spec_l1Int a0 a1 = some r) :
    Con Try.prog 57 [.c (.ptr 900 0), .c (.sl 901)] [(900, .box 112 [.rs 1 (a0.b.map encU8), .v (.int .i64 a0.i), .v (.int .i64 a0.h)]), (901, .row 3 1 (a1.map encI))] (.o (.c (.v (.int .i64 r.1)))) [(900, .box 112 [.rs 1 (r.2.b.map encU8), .v (.int .i64 r.2.i), .v (.int .i64 r.2.h)]), (901, .row 3 1 (a1.map encI))] [] := by
  unfold spec_l1Int at hM
  refine cn (N := 12) (pids := [900, 901]) Try_mixed Try.func57 (by kernel_rfl) (by kernel_rfl) (by kernel_rfl) rfl fun ρ g w R => ?_
  obtain ⟨v1, h2, hM⟩ := bind_some hM
  obtain ⟨v3, h4, hM⟩ := bind_some hM
  have hE : some (v3, v1.2) = some r := hM
  have hE := Option.some.inj hE
  subst hE
  exact pr R 9999 [.ln (a1.length), .call true [900] (.o (.c (.v (.int .i64 v1.1)))) [(900, .box 112 [.rs 1 (v1.2.b.map encU8), .v (.int .i64 v1.2.i), .v (.int .i64 v1.2.h)])] [], .ix (encI v3)] [] [900, 901] [] (And.intro (lenm encI a1) (And.intro (And.intro (con_sw 900 900 (spec_l1Below_ok a0 (a1.length : Int) v1 h2)) (rfl : ([900] : List Nat) = [900])) (And.intro (gi_lt encI h4) (And.intro ((gi_map encI h4).2) True.intro)))) (by kernel_rfl)

-- loop.example/g03014/spec.l3Leg
def spec_l3Leg_j1 (v1 : (ByteArray × l1Cur)) (v3 : (ByteArray × l1Cur)) (v5 : (Int × l1Cur)) (v7 : (Int × l1Cur)) (v9 : (Int × l1Cur)) (v11 : (Int × l1Cur)) (s21 : ByteArray) (s22 : ByteArray) (v23 : (Bool × l1Cur)) (s25 : Int) : Option (Leg × l1Cur) :=
  (spec_l1Once v23.2 9).bind fun v26 =>
  bif v26.1 then
  (spec_l1Int v26.2 ([1, 1440, 4320] : List Int)).bind fun v29 =>
  some ((Leg.mk ((Leg.mk s21 s22 ((Leg.mk v1.1 v3.1 (w64 (30 * v5.1)) (w64 (30 * (w64 (1 + v7.1)))) (w64 (1 + v9.1)) (w64 (1000 * v11.1))).Start) v29.1 s25 ((Leg.mk v1.1 v3.1 (w64 (30 * v5.1)) (w64 (30 * (w64 (1 + v7.1)))) (w64 (1 + v9.1)) (w64 (1000 * v11.1))).Room)).From) ((Leg.mk s21 s22 ((Leg.mk v1.1 v3.1 (w64 (30 * v5.1)) (w64 (30 * (w64 (1 + v7.1)))) (w64 (1 + v9.1)) (w64 (1000 * v11.1))).Start) v29.1 s25 ((Leg.mk v1.1 v3.1 (w64 (30 * v5.1)) (w64 (30 * (w64 (1 + v7.1)))) (w64 (1 + v9.1)) (w64 (1000 * v11.1))).Room)).To) ((Leg.mk s21 s22 ((Leg.mk v1.1 v3.1 (w64 (30 * v5.1)) (w64 (30 * (w64 (1 + v7.1)))) (w64 (1 + v9.1)) (w64 (1000 * v11.1))).Start) v29.1 s25 ((Leg.mk v1.1 v3.1 (w64 (30 * v5.1)) (w64 (30 * (w64 (1 + v7.1)))) (w64 (1 + v9.1)) (w64 (1000 * v11.1))).Room)).Start) ((Leg.mk s21 s22 ((Leg.mk v1.1 v3.1 (w64 (30 * v5.1)) (w64 (30 * (w64 (1 + v7.1)))) (w64 (1 + v9.1)) (w64 (1000 * v11.1))).Start) v29.1 s25 ((Leg.mk v1.1 v3.1 (w64 (30 * v5.1)) (w64 (30 * (w64 (1 + v7.1)))) (w64 (1 + v9.1)) (w64 (1000 * v11.1))).Room)).Takes) ((Leg.mk s21 s22 ((Leg.mk v1.1 v3.1 (w64 (30 * v5.1)) (w64 (30 * (w64 (1 + v7.1)))) (w64 (1 + v9.1)) (w64 (1000 * v11.1))).Start) v29.1 s25 ((Leg.mk v1.1 v3.1 (w64 (30 * v5.1)) (w64 (30 * (w64 (1 + v7.1)))) (w64 (1 + v9.1)) (w64 (1000 * v11.1))).Room)).Days) ((Leg.mk s21 s22 ((Leg.mk v1.1 v3.1 (w64 (30 * v5.1)) (w64 (30 * (w64 (1 + v7.1)))) (w64 (1 + v9.1)) (w64 (1000 * v11.1))).Start) v29.1 s25 ((Leg.mk v1.1 v3.1 (w64 (30 * v5.1)) (w64 (30 * (w64 (1 + v7.1)))) (w64 (1 + v9.1)) (w64 (1000 * v11.1))).Room)).Room)), v29.2)
  else
  some ((Leg.mk ((Leg.mk s21 s22 ((Leg.mk v1.1 v3.1 (w64 (30 * v5.1)) (w64 (30 * (w64 (1 + v7.1)))) (w64 (1 + v9.1)) (w64 (1000 * v11.1))).Start) ((Leg.mk v1.1 v3.1 (w64 (30 * v5.1)) (w64 (30 * (w64 (1 + v7.1)))) (w64 (1 + v9.1)) (w64 (1000 * v11.1))).Takes) s25 ((Leg.mk v1.1 v3.1 (w64 (30 * v5.1)) (w64 (30 * (w64 (1 + v7.1)))) (w64 (1 + v9.1)) (w64 (1000 * v11.1))).Room)).From) ((Leg.mk s21 s22 ((Leg.mk v1.1 v3.1 (w64 (30 * v5.1)) (w64 (30 * (w64 (1 + v7.1)))) (w64 (1 + v9.1)) (w64 (1000 * v11.1))).Start) ((Leg.mk v1.1 v3.1 (w64 (30 * v5.1)) (w64 (30 * (w64 (1 + v7.1)))) (w64 (1 + v9.1)) (w64 (1000 * v11.1))).Takes) s25 ((Leg.mk v1.1 v3.1 (w64 (30 * v5.1)) (w64 (30 * (w64 (1 + v7.1)))) (w64 (1 + v9.1)) (w64 (1000 * v11.1))).Room)).To) ((Leg.mk s21 s22 ((Leg.mk v1.1 v3.1 (w64 (30 * v5.1)) (w64 (30 * (w64 (1 + v7.1)))) (w64 (1 + v9.1)) (w64 (1000 * v11.1))).Start) ((Leg.mk v1.1 v3.1 (w64 (30 * v5.1)) (w64 (30 * (w64 (1 + v7.1)))) (w64 (1 + v9.1)) (w64 (1000 * v11.1))).Takes) s25 ((Leg.mk v1.1 v3.1 (w64 (30 * v5.1)) (w64 (30 * (w64 (1 + v7.1)))) (w64 (1 + v9.1)) (w64 (1000 * v11.1))).Room)).Start) ((Leg.mk s21 s22 ((Leg.mk v1.1 v3.1 (w64 (30 * v5.1)) (w64 (30 * (w64 (1 + v7.1)))) (w64 (1 + v9.1)) (w64 (1000 * v11.1))).Start) ((Leg.mk v1.1 v3.1 (w64 (30 * v5.1)) (w64 (30 * (w64 (1 + v7.1)))) (w64 (1 + v9.1)) (w64 (1000 * v11.1))).Takes) s25 ((Leg.mk v1.1 v3.1 (w64 (30 * v5.1)) (w64 (30 * (w64 (1 + v7.1)))) (w64 (1 + v9.1)) (w64 (1000 * v11.1))).Room)).Takes) ((Leg.mk s21 s22 ((Leg.mk v1.1 v3.1 (w64 (30 * v5.1)) (w64 (30 * (w64 (1 + v7.1)))) (w64 (1 + v9.1)) (w64 (1000 * v11.1))).Start) ((Leg.mk v1.1 v3.1 (w64 (30 * v5.1)) (w64 (30 * (w64 (1 + v7.1)))) (w64 (1 + v9.1)) (w64 (1000 * v11.1))).Takes) s25 ((Leg.mk v1.1 v3.1 (w64 (30 * v5.1)) (w64 (30 * (w64 (1 + v7.1)))) (w64 (1 + v9.1)) (w64 (1000 * v11.1))).Room)).Days) ((Leg.mk s21 s22 ((Leg.mk v1.1 v3.1 (w64 (30 * v5.1)) (w64 (30 * (w64 (1 + v7.1)))) (w64 (1 + v9.1)) (w64 (1000 * v11.1))).Start) ((Leg.mk v1.1 v3.1 (w64 (30 * v5.1)) (w64 (30 * (w64 (1 + v7.1)))) (w64 (1 + v9.1)) (w64 (1000 * v11.1))).Takes) s25 ((Leg.mk v1.1 v3.1 (w64 (30 * v5.1)) (w64 (30 * (w64 (1 + v7.1)))) (w64 (1 + v9.1)) (w64 (1000 * v11.1))).Room)).Room)), v26.2)
def spec_l3Leg_L1_b (s13 : (List Int)) (s14 : Int) (s15 : Int) (s16 : ByteArray) (s17 : ByteArray) : Option (Ctl ((List Int) × Int × Int × ByteArray × ByteArray) ((List Int) × Int × Int × ByteArray × ByteArray) (Leg × l1Cur)) :=
  bif (s16.toList == s17.toList) then
  (spec_l1Str (l1Cur.mk s13 s14 s15) ([(ByteArray.mk #[65, 77, 83]), (ByteArray.mk #[66, 82, 85]), (ByteArray.mk #[67, 68, 71])] : List ByteArray)).bind fun v33 =>
  bif (s16.toList == v33.1.toList) then
  some (.next (v33.2.b, v33.2.i, v33.2.h, (ByteArray.mk #[68, 85, 66]), v33.1))
  else
  some (.next (v33.2.b, v33.2.i, v33.2.h, s16, v33.1))
  else
  some (.brk (s13, s14, s15, s16, s17))
def spec_l3Leg_L1 (s : (List Int) × Int × Int × ByteArray × ByteArray) : Option (Ctl ((List Int) × Int × Int × ByteArray × ByteArray) ((List Int) × Int × Int × ByteArray × ByteArray) (Leg × l1Cur)) := spec_l3Leg_L1_b s.1 s.2.1 s.2.2.1 s.2.2.2.1 s.2.2.2.2
def spec_l3Leg_L1_s (v1 : (ByteArray × l1Cur)) (v3 : (ByteArray × l1Cur)) (v5 : (Int × l1Cur)) (v7 : (Int × l1Cur)) (v9 : (Int × l1Cur)) (v11 : (Int × l1Cur)) (s13 : (List Int)) (s14 : Int) (s15 : Int) (s16 : ByteArray) (s17 : ByteArray) : St := ⟨[(0, .o (.c (.ptr 900 0))), (2, .o (.c (.ptr 0 0))), (3, .o (.c (.ptr 1 0)))], [(900, .box 112 [.rs 1 (s13.map encU8), .v (.int .i64 s14), .v (.int .i64 s15)]), (0, .box 66 [.v (.string ByteArray.empty), .v (.string ByteArray.empty), .v (.int .i64 0), .v (.int .i64 0), .v (.int .i64 0), .v (.int .i64 0)]), (1, .box 66 [.v (.string s16), .v (.string s17), .v (.int .i64 ((Leg.mk v1.1 v3.1 (w64 (30 * v5.1)) (w64 (30 * (w64 (1 + v7.1)))) (w64 (1 + v9.1)) (w64 (1000 * v11.1))).Start)), .v (.int .i64 ((Leg.mk v1.1 v3.1 (w64 (30 * v5.1)) (w64 (30 * (w64 (1 + v7.1)))) (w64 (1 + v9.1)) (w64 (1000 * v11.1))).Takes)), .v (.int .i64 ((Leg.mk v1.1 v3.1 (w64 (30 * v5.1)) (w64 (30 * (w64 (1 + v7.1)))) (w64 (1 + v9.1)) (w64 (1000 * v11.1))).Days)), .v (.int .i64 ((Leg.mk v1.1 v3.1 (w64 (30 * v5.1)) (w64 (30 * (w64 (1 + v7.1)))) (w64 (1 + v9.1)) (w64 (1000 * v11.1))).Room))])]⟩
def spec_l3Leg_L1_S (v1 : (ByteArray × l1Cur)) (v3 : (ByteArray × l1Cur)) (v5 : (Int × l1Cur)) (v7 : (Int × l1Cur)) (v9 : (Int × l1Cur)) (v11 : (Int × l1Cur)) (s : (List Int) × Int × Int × ByteArray × ByteArray) : St := spec_l3Leg_L1_s v1 v3 v5 v7 v9 v11 s.1 s.2.1 s.2.2.1 s.2.2.2.1 s.2.2.2.2
def spec_l3Leg_L1_a (v1 : (ByteArray × l1Cur)) (v3 : (ByteArray × l1Cur)) (v5 : (Int × l1Cur)) (v7 : (Int × l1Cur)) (v9 : (Int × l1Cur)) (v11 : (Int × l1Cur)) (s18 : (List Int)) (s19 : Int) (s20 : Int) (s21 : ByteArray) (s22 : ByteArray) : Option (Leg × l1Cur) :=
  (spec_l1Once (l1Cur.mk s18 s19 s20) 2).bind fun v23 =>
  bif v23.1 then
  spec_l3Leg_j1 v1 v3 v5 v7 v9 v11 s21 s22 v23 127
  else
  spec_l3Leg_j1 v1 v3 v5 v7 v9 v11 s21 s22 v23 ((Leg.mk v1.1 v3.1 (w64 (30 * v5.1)) (w64 (30 * (w64 (1 + v7.1)))) (w64 (1 + v9.1)) (w64 (1000 * v11.1))).Days)
def spec_l3Leg_L1_k (v1 : (ByteArray × l1Cur)) (v3 : (ByteArray × l1Cur)) (v5 : (Int × l1Cur)) (v7 : (Int × l1Cur)) (v9 : (Int × l1Cur)) (v11 : (Int × l1Cur)) (x : ((List Int) × Int × Int × ByteArray × ByteArray) ⊕ (Leg × l1Cur)) : Option (Leg × l1Cur) := match x with
  | .inl t => spec_l3Leg_L1_a v1 v3 v5 v7 v9 v11 t.1 t.2.1 t.2.2.1 t.2.2.2.1 t.2.2.2.2
  | .inr y => some y
def spec_l3Leg (a0 : l1Cur) : Option (Leg × l1Cur) :=
  (spec_l1Place a0).bind fun v1 =>
  (spec_l1Place v1.2).bind fun v3 =>
  (spec_l1Below v3.2 48).bind fun v5 =>
  (spec_l1Below v5.2 40).bind fun v7 =>
  (spec_l1Below v7.2 127).bind fun v9 =>
  (spec_l1Below v9.2 60).bind fun v11 =>
  (loopM (spec_l3Leg_L1) big (v11.2.b, v11.2.i, v11.2.h, (Leg.mk v1.1 v3.1 (w64 (30 * v5.1)) (w64 (30 * (w64 (1 + v7.1)))) (w64 (1 + v9.1)) (w64 (1000 * v11.1))).From, (Leg.mk v1.1 v3.1 (w64 (30 * v5.1)) (w64 (30 * (w64 (1 + v7.1)))) (w64 (1 + v9.1)) (w64 (1000 * v11.1))).To)).bind (spec_l3Leg_L1_k v1 v3 v5 v7 v9 v11)
theorem spec_l3Leg_ok (a0 : l1Cur) (r : Leg × l1Cur) (hM : spec_l3Leg a0 = some r) :
    Con Try.prog 87 [.c (.ptr 900 0)] [(900, .box 112 [.rs 1 (a0.b.map encU8), .v (.int .i64 a0.i), .v (.int .i64 a0.h)])] (.o (.c (.v (.agg (Leg.enc r.1).toArray)))) [(900, .box 112 [.rs 1 (r.2.b.map encU8), .v (.int .i64 r.2.i), .v (.int .i64 r.2.h)])] [] := by
  unfold spec_l3Leg at hM
  refine cn (N := 47) (pids := [900]) Try_mixed Try.func87 (by kernel_rfl) (by kernel_rfl) (by kernel_rfl) rfl fun ρ g w R => ?_
  obtain ⟨v1, h2, hM⟩ := bind_some hM
  obtain ⟨v3, h4, hM⟩ := bind_some hM
  obtain ⟨v5, h6, hM⟩ := bind_some hM
  obtain ⟨v7, h8, hM⟩ := bind_some hM
  obtain ⟨v9, h10, hM⟩ := bind_some hM
  obtain ⟨v11, h12, hM⟩ := bind_some hM
  have K1 : ∀ (s18 : (List Int)) (s19 : Int) (s20 : Int) (s21 : ByteArray) (s22 : ByteArray), spec_l3Leg_L1_a v1 v3 v5 v7 v9 v11 s18 s19 s20 s21 s22 = some r → Gr R [.code (cAt Try.f87 [1, 1, 1])] (⟨[(0, .o (.c (.ptr 900 0))), (2, .o (.c (.ptr 0 0))), (3, .o (.c (.ptr 1 0)))], [(900, .box 112 [.rs 1 (s18.map encU8), .v (.int .i64 s19), .v (.int .i64 s20)]), (0, .box 66 [.v (.string ByteArray.empty), .v (.string ByteArray.empty), .v (.int .i64 0), .v (.int .i64 0), .v (.int .i64 0), .v (.int .i64 0)]), (1, .box 66 [.v (.string s21), .v (.string s22), .v (.int .i64 ((Leg.mk v1.1 v3.1 (w64 (30 * v5.1)) (w64 (30 * (w64 (1 + v7.1)))) (w64 (1 + v9.1)) (w64 (1000 * v11.1))).Start)), .v (.int .i64 ((Leg.mk v1.1 v3.1 (w64 (30 * v5.1)) (w64 (30 * (w64 (1 + v7.1)))) (w64 (1 + v9.1)) (w64 (1000 * v11.1))).Takes)), .v (.int .i64 ((Leg.mk v1.1 v3.1 (w64 (30 * v5.1)) (w64 (30 * (w64 (1 + v7.1)))) (w64 (1 + v9.1)) (w64 (1000 * v11.1))).Days)), .v (.int .i64 ((Leg.mk v1.1 v3.1 (w64 (30 * v5.1)) (w64 (30 * (w64 (1 + v7.1)))) (w64 (1 + v9.1)) (w64 (1000 * v11.1))).Room))])]⟩) := by
    intro s18 s19 s20 s21 s22 hM
    unfold spec_l3Leg_L1_a at hM
    obtain ⟨v23, h24, hM⟩ := bind_some hM
    have J1 : ∀ (s25 : Int), spec_l3Leg_j1 v1 v3 v5 v7 v9 v11 s21 s22 v23 s25 = some r → Gr R [.code (cAt Try.f87 [1, 1, 1, 1])] (⟨[(0, .o (.c (.ptr 900 0))), (2, .o (.c (.ptr 0 0))), (3, .o (.c (.ptr 1 0)))], [(900, .box 112 [.rs 1 (v23.2.b.map encU8), .v (.int .i64 v23.2.i), .v (.int .i64 v23.2.h)]), (0, .box 66 [.v (.string ByteArray.empty), .v (.string ByteArray.empty), .v (.int .i64 0), .v (.int .i64 0), .v (.int .i64 0), .v (.int .i64 0)]), (1, .box 66 [.v (.string s21), .v (.string s22), .v (.int .i64 ((Leg.mk v1.1 v3.1 (w64 (30 * v5.1)) (w64 (30 * (w64 (1 + v7.1)))) (w64 (1 + v9.1)) (w64 (1000 * v11.1))).Start)), .v (.int .i64 ((Leg.mk v1.1 v3.1 (w64 (30 * v5.1)) (w64 (30 * (w64 (1 + v7.1)))) (w64 (1 + v9.1)) (w64 (1000 * v11.1))).Takes)), .v (.int .i64 s25), .v (.int .i64 ((Leg.mk v1.1 v3.1 (w64 (30 * v5.1)) (w64 (30 * (w64 (1 + v7.1)))) (w64 (1 + v9.1)) (w64 (1000 * v11.1))).Room))])]⟩) := by
      intro s25 hM
      unfold spec_l3Leg_j1 at hM
      obtain ⟨v26, h27, hM⟩ := bind_some hM
      rcases cond_cases hM with ⟨h28, hM⟩ | ⟨h28, hM⟩
      · obtain ⟨v29, h30, hM⟩ := bind_some hM
        have hE : some ((Leg.mk ((Leg.mk s21 s22 ((Leg.mk v1.1 v3.1 (w64 (30 * v5.1)) (w64 (30 * (w64 (1 + v7.1)))) (w64 (1 + v9.1)) (w64 (1000 * v11.1))).Start) v29.1 s25 ((Leg.mk v1.1 v3.1 (w64 (30 * v5.1)) (w64 (30 * (w64 (1 + v7.1)))) (w64 (1 + v9.1)) (w64 (1000 * v11.1))).Room)).From) ((Leg.mk s21 s22 ((Leg.mk v1.1 v3.1 (w64 (30 * v5.1)) (w64 (30 * (w64 (1 + v7.1)))) (w64 (1 + v9.1)) (w64 (1000 * v11.1))).Start) v29.1 s25 ((Leg.mk v1.1 v3.1 (w64 (30 * v5.1)) (w64 (30 * (w64 (1 + v7.1)))) (w64 (1 + v9.1)) (w64 (1000 * v11.1))).Room)).To) ((Leg.mk s21 s22 ((Leg.mk v1.1 v3.1 (w64 (30 * v5.1)) (w64 (30 * (w64 (1 + v7.1)))) (w64 (1 + v9.1)) (w64 (1000 * v11.1))).Start) v29.1 s25 ((Leg.mk v1.1 v3.1 (w64 (30 * v5.1)) (w64 (30 * (w64 (1 + v7.1)))) (w64 (1 + v9.1)) (w64 (1000 * v11.1))).Room)).Start) ((Leg.mk s21 s22 ((Leg.mk v1.1 v3.1 (w64 (30 * v5.1)) (w64 (30 * (w64 (1 + v7.1)))) (w64 (1 + v9.1)) (w64 (1000 * v11.1))).Start) v29.1 s25 ((Leg.mk v1.1 v3.1 (w64 (30 * v5.1)) (w64 (30 * (w64 (1 + v7.1)))) (w64 (1 + v9.1)) (w64 (1000 * v11.1))).Room)).Takes) ((Leg.mk s21 s22 ((Leg.mk v1.1 v3.1 (w64 (30 * v5.1)) (w64 (30 * (w64 (1 + v7.1)))) (w64 (1 + v9.1)) (w64 (1000 * v11.1))).Start) v29.1 s25 ((Leg.mk v1.1 v3.1 (w64 (30 * v5.1)) (w64 (30 * (w64 (1 + v7.1)))) (w64 (1 + v9.1)) (w64 (1000 * v11.1))).Room)).Days) ((Leg.mk s21 s22 ((Leg.mk v1.1 v3.1 (w64 (30 * v5.1)) (w64 (30 * (w64 (1 + v7.1)))) (w64 (1 + v9.1)) (w64 (1000 * v11.1))).Start) v29.1 s25 ((Leg.mk v1.1 v3.1 (w64 (30 * v5.1)) (w64 (30 * (w64 (1 + v7.1)))) (w64 (1 + v9.1)) (w64 (1000 * v11.1))).Room)).Room)), v29.2) = some r := hM
        have hE := Option.some.inj hE
        subst hE
        exact pr R 9999 [.call true [900] (.o (.c (.v (.bool v26.1)))) [(900, .box 112 [.rs 1 (v26.2.b.map encU8), .v (.int .i64 v26.2.i), .v (.int .i64 v26.2.h)])] [], .as 41 true, .new 2, .ad (.keep [0, 2, 3, 40, 41, 42, 43] [900, 2, 0, 1]), .call true [900, 2] (.o (.c (.v (.int .i64 v29.1)))) [(900, .box 112 [.rs 1 (v29.2.b.map encU8), .v (.int .i64 v29.2.i), .v (.int .i64 v29.2.h)]), (2, .row 3 1 (([1, 1440, 4320] : List Int).map encI))] []] [] [900] [] (And.intro (And.intro (con_sw 900 900 (spec_l1Once_ok v23.2 9 v26 h27)) (rfl : ([900] : List Nat) = [900])) (And.intro h28 (And.intro (And.intro (con_sw 901 2 (con_sw 900 900 (spec_l1Int_ok v26.2 ([1, 1440, 4320] : List Int) v29 h30))) (rfl : ([900, 2] : List Nat) = [900, 2])) True.intro))) (by kernel_rfl)
      · have hE : some ((Leg.mk ((Leg.mk s21 s22 ((Leg.mk v1.1 v3.1 (w64 (30 * v5.1)) (w64 (30 * (w64 (1 + v7.1)))) (w64 (1 + v9.1)) (w64 (1000 * v11.1))).Start) ((Leg.mk v1.1 v3.1 (w64 (30 * v5.1)) (w64 (30 * (w64 (1 + v7.1)))) (w64 (1 + v9.1)) (w64 (1000 * v11.1))).Takes) s25 ((Leg.mk v1.1 v3.1 (w64 (30 * v5.1)) (w64 (30 * (w64 (1 + v7.1)))) (w64 (1 + v9.1)) (w64 (1000 * v11.1))).Room)).From) ((Leg.mk s21 s22 ((Leg.mk v1.1 v3.1 (w64 (30 * v5.1)) (w64 (30 * (w64 (1 + v7.1)))) (w64 (1 + v9.1)) (w64 (1000 * v11.1))).Start) ((Leg.mk v1.1 v3.1 (w64 (30 * v5.1)) (w64 (30 * (w64 (1 + v7.1)))) (w64 (1 + v9.1)) (w64 (1000 * v11.1))).Takes) s25 ((Leg.mk v1.1 v3.1 (w64 (30 * v5.1)) (w64 (30 * (w64 (1 + v7.1)))) (w64 (1 + v9.1)) (w64 (1000 * v11.1))).Room)).To) ((Leg.mk s21 s22 ((Leg.mk v1.1 v3.1 (w64 (30 * v5.1)) (w64 (30 * (w64 (1 + v7.1)))) (w64 (1 + v9.1)) (w64 (1000 * v11.1))).Start) ((Leg.mk v1.1 v3.1 (w64 (30 * v5.1)) (w64 (30 * (w64 (1 + v7.1)))) (w64 (1 + v9.1)) (w64 (1000 * v11.1))).Takes) s25 ((Leg.mk v1.1 v3.1 (w64 (30 * v5.1)) (w64 (30 * (w64 (1 + v7.1)))) (w64 (1 + v9.1)) (w64 (1000 * v11.1))).Room)).Start) ((Leg.mk s21 s22 ((Leg.mk v1.1 v3.1 (w64 (30 * v5.1)) (w64 (30 * (w64 (1 + v7.1)))) (w64 (1 + v9.1)) (w64 (1000 * v11.1))).Start) ((Leg.mk v1.1 v3.1 (w64 (30 * v5.1)) (w64 (30 * (w64 (1 + v7.1)))) (w64 (1 + v9.1)) (w64 (1000 * v11.1))).Takes) s25 ((Leg.mk v1.1 v3.1 (w64 (30 * v5.1)) (w64 (30 * (w64 (1 + v7.1)))) (w64 (1 + v9.1)) (w64 (1000 * v11.1))).Room)).Takes) ((Leg.mk s21 s22 ((Leg.mk v1.1 v3.1 (w64 (30 * v5.1)) (w64 (30 * (w64 (1 + v7.1)))) (w64 (1 + v9.1)) (w64 (1000 * v11.1))).Start) ((Leg.mk v1.1 v3.1 (w64 (30 * v5.1)) (w64 (30 * (w64 (1 + v7.1)))) (w64 (1 + v9.1)) (w64 (1000 * v11.1))).Takes) s25 ((Leg.mk v1.1 v3.1 (w64 (30 * v5.1)) (w64 (30 * (w64 (1 + v7.1)))) (w64 (1 + v9.1)) (w64 (1000 * v11.1))).Room)).Days) ((Leg.mk s21 s22 ((Leg.mk v1.1 v3.1 (w64 (30 * v5.1)) (w64 (30 * (w64 (1 + v7.1)))) (w64 (1 + v9.1)) (w64 (1000 * v11.1))).Start) ((Leg.mk v1.1 v3.1 (w64 (30 * v5.1)) (w64 (30 * (w64 (1 + v7.1)))) (w64 (1 + v9.1)) (w64 (1000 * v11.1))).Takes) s25 ((Leg.mk v1.1 v3.1 (w64 (30 * v5.1)) (w64 (30 * (w64 (1 + v7.1)))) (w64 (1 + v9.1)) (w64 (1000 * v11.1))).Room)).Room)), v26.2) = some r := hM
        have hE := Option.some.inj hE
        subst hE
        exact pr R 9999 [.call true [900] (.o (.c (.v (.bool v26.1)))) [(900, .box 112 [.rs 1 (v26.2.b.map encU8), .v (.int .i64 v26.2.i), .v (.int .i64 v26.2.h)])] [], .as 41 false] [] [900] [] (And.intro (And.intro (con_sw 900 900 (spec_l1Once_ok v23.2 9 v26 h27)) (rfl : ([900] : List Nat) = [900])) (And.intro h28 True.intro)) (by kernel_rfl)
    rcases cond_cases hM with ⟨h31, hM⟩ | ⟨h31, hM⟩
    · exact pc R 5 [.call true [900] (.o (.c (.v (.bool v23.1)))) [(900, .box 112 [.rs 1 (v23.2.b.map encU8), .v (.int .i64 v23.2.i), .v (.int .i64 v23.2.h)])] [], .as 38 true] [.keep [0, 2, 3] [900, 0, 1]] (And.intro (And.intro (con_sw 900 900 (spec_l1Once_ok (l1Cur.mk s18 s19 s20) 2 v23 h24)) (rfl : ([900] : List Nat) = [900])) (And.intro h31 True.intro)) (by kernel_rfl) (J1 127 hM)
    · exact pc R 5 [.call true [900] (.o (.c (.v (.bool v23.1)))) [(900, .box 112 [.rs 1 (v23.2.b.map encU8), .v (.int .i64 v23.2.i), .v (.int .i64 v23.2.h)])] [], .as 38 false] [.keep [0, 2, 3] [900, 0, 1]] (And.intro (And.intro (con_sw 900 900 (spec_l1Once_ok (l1Cur.mk s18 s19 s20) 2 v23 h24)) (rfl : ([900] : List Nat) = [900])) (And.intro h31 True.intro)) (by kernel_rfl) (J1 ((Leg.mk v1.1 v3.1 (w64 (30 * v5.1)) (w64 (30 * (w64 (1 + v7.1)))) (w64 (1 + v9.1)) (w64 (1000 * v11.1))).Days) hM)
  refine pc R 9999 [.new 0, .call true [900] (.o (.c (.v (.string v1.1)))) [(900, .box 112 [.rs 1 (v1.2.b.map encU8), .v (.int .i64 v1.2.i), .v (.int .i64 v1.2.h)])] [], .call true [900] (.o (.c (.v (.string v3.1)))) [(900, .box 112 [.rs 1 (v3.2.b.map encU8), .v (.int .i64 v3.2.i), .v (.int .i64 v3.2.h)])] [], .call true [900] (.o (.c (.v (.int .i64 v5.1)))) [(900, .box 112 [.rs 1 (v5.2.b.map encU8), .v (.int .i64 v5.2.i), .v (.int .i64 v5.2.h)])] [], .call true [900] (.o (.c (.v (.int .i64 v7.1)))) [(900, .box 112 [.rs 1 (v7.2.b.map encU8), .v (.int .i64 v7.2.i), .v (.int .i64 v7.2.h)])] [], .call true [900] (.o (.c (.v (.int .i64 v9.1)))) [(900, .box 112 [.rs 1 (v9.2.b.map encU8), .v (.int .i64 v9.2.i), .v (.int .i64 v9.2.h)])] [], .call true [900] (.o (.c (.v (.int .i64 v11.1)))) [(900, .box 112 [.rs 1 (v11.2.b.map encU8), .v (.int .i64 v11.2.i), .v (.int .i64 v11.2.h)])] [], .new 1] [.keep [0, 2, 3] [900, 0, 1]] (k' := [.code (.loop (cAt Try.f87 [1, 1, 0, 0, 0])), .blk 0, .code (cAt Try.f87 [1, 1, 1])]) (S' := spec_l3Leg_L1_S v1 v3 v5 v7 v9 v11 (v11.2.b, v11.2.i, v11.2.h, (Leg.mk v1.1 v3.1 (w64 (30 * v5.1)) (w64 (30 * (w64 (1 + v7.1)))) (w64 (1 + v9.1)) (w64 (1000 * v11.1))).From, (Leg.mk v1.1 v3.1 (w64 (30 * v5.1)) (w64 (30 * (w64 (1 + v7.1)))) (w64 (1 + v9.1)) (w64 (1000 * v11.1))).To)) (And.intro (And.intro (con_sw 900 900 (spec_l1Place_ok a0 v1 h2)) (rfl : ([900] : List Nat) = [900])) (And.intro (And.intro (con_sw 900 900 (spec_l1Place_ok v1.2 v3 h4)) (rfl : ([900] : List Nat) = [900])) (And.intro (And.intro (con_sw 900 900 (spec_l1Below_ok v3.2 48 v5 h6)) (rfl : ([900] : List Nat) = [900])) (And.intro (And.intro (con_sw 900 900 (spec_l1Below_ok v5.2 40 v7 h8)) (rfl : ([900] : List Nat) = [900])) (And.intro (And.intro (con_sw 900 900 (spec_l1Below_ok v7.2 127 v9 h10)) (rfl : ([900] : List Nat) = [900])) (And.intro (And.intro (con_sw 900 900 (spec_l1Below_ok v9.2 60 v11 h12)) (rfl : ([900] : List Nat) = [900])) True.intro)))))) (by kernel_rfl) ?_
  refine lq (spec_l3Leg_L1_S v1 v3 v5 v7 v9 v11) (body := spec_l3Leg_L1) (k := spec_l3Leg_L1_k v1 v3 v5 v7 v9 v11) hM fun m1 s c1 hM hK1 => ?_
  obtain ⟨s13, s14, s15, s16, s17⟩ := s
  have hM : spec_l3Leg_L1_b s13 s14 s15 s16 s17 = some c1 := hM
  unfold spec_l3Leg_L1_b at hM
  rcases cond_cases hM with ⟨h32, hM⟩ | ⟨h32, hM⟩
  · obtain ⟨v33, h34, hM⟩ := bind_some hM
    rcases cond_cases hM with ⟨h35, hM⟩ | ⟨h35, hM⟩
    · have hE : some (Ctl.next (v33.2.b, v33.2.i, v33.2.h, (ByteArray.mk #[68, 85, 66]), v33.1)) = some c1 := hM
      have hE := Option.some.inj hE
      subst hE
      exact pc R 9999 [.as 26 true, .new 3, .ad (.keep [0, 2, 3, 22, 23, 24, 25, 26, 27, 28] [900, 3, 0, 1]), .call true [900, 3] (.o (.c (.v (.string v33.1)))) [(900, .box 112 [.rs 1 (v33.2.b.map encU8), .v (.int .i64 v33.2.i), .v (.int .i64 v33.2.h)]), (3, .row 9 1 (([(ByteArray.mk #[65, 77, 83]), (ByteArray.mk #[66, 82, 85]), (ByteArray.mk #[67, 68, 71])] : List ByteArray).map encS))] [], .as 35 true] [.keep [0, 2, 3] [900, 0, 1]] (And.intro h32 (And.intro (And.intro (con_sw 901 3 (con_sw 900 900 (spec_l1Str_ok (l1Cur.mk s13 s14 s15) ([(ByteArray.mk #[65, 77, 83]), (ByteArray.mk #[66, 82, 85]), (ByteArray.mk #[67, 68, 71])] : List ByteArray) v33 h34))) (rfl : ([900, 3] : List Nat) = [900, 3])) (And.intro h35 True.intro))) (by kernel_rfl) (li (Sf := spec_l3Leg_L1_S v1 v3 v5 v7 v9 v11) (M := Mk (spec_l3Leg_L1) (spec_l3Leg_L1_k v1 v3 v5 v7 v9 v11) r) (k := [.blk 0, .code (cAt Try.f87 [1, 1, 1])]) (Nat.lt_succ_self m1) hK1)
    · have hE : some (Ctl.next (v33.2.b, v33.2.i, v33.2.h, s16, v33.1)) = some c1 := hM
      have hE := Option.some.inj hE
      subst hE
      exact pc R 9999 [.as 26 true, .new 3, .ad (.keep [0, 2, 3, 22, 23, 24, 25, 26, 27, 28] [900, 3, 0, 1]), .call true [900, 3] (.o (.c (.v (.string v33.1)))) [(900, .box 112 [.rs 1 (v33.2.b.map encU8), .v (.int .i64 v33.2.i), .v (.int .i64 v33.2.h)]), (3, .row 9 1 (([(ByteArray.mk #[65, 77, 83]), (ByteArray.mk #[66, 82, 85]), (ByteArray.mk #[67, 68, 71])] : List ByteArray).map encS))] [], .as 35 false] [.keep [0, 2, 3] [900, 0, 1]] (And.intro h32 (And.intro (And.intro (con_sw 901 3 (con_sw 900 900 (spec_l1Str_ok (l1Cur.mk s13 s14 s15) ([(ByteArray.mk #[65, 77, 83]), (ByteArray.mk #[66, 82, 85]), (ByteArray.mk #[67, 68, 71])] : List ByteArray) v33 h34))) (rfl : ([900, 3] : List Nat) = [900, 3])) (And.intro h35 True.intro))) (by kernel_rfl) (li (Sf := spec_l3Leg_L1_S v1 v3 v5 v7 v9 v11) (M := Mk (spec_l3Leg_L1) (spec_l3Leg_L1_k v1 v3 v5 v7 v9 v11) r) (k := [.blk 0, .code (cAt Try.f87 [1, 1, 1])]) (Nat.lt_succ_self m1) hK1)
  · have hE : some (Ctl.brk (s13, s14, s15, s16, s17)) = some c1 := hM
    have hE := Option.some.inj hE
    subst hE
    exact pc R 5 [.as 26 false] [.keep [0, 2, 3] [900, 0, 1]] (And.intro h32 True.intro) (by kernel_rfl) (K1 s13 s14 s15 s16 s17 hK1)

-- loop.example/g03014/spec.l3Draw
def spec_l3Draw_x4 (a1 : Int) (v1 : (Int × l1Cur)) (s9 : Int) (v22 : (Leg × l1Cur)) (v24 : (List Leg)) (v30 : Leg) (v32 : Leg) (v34 : (Int × l1Cur)) : St := ⟨[(0, .o (.c (.ptr 900 0))), (1, .o (.c (.v (.int .i64 a1)))), (4, .o (.c (.ptr 0 0))), (5, .o (.c (.ptr 1 0))), (6, .o (.c (.v (.int .i64 s9)))), (7, .o (.c (.ptr 4 0)))], [(900, .box 112 [.rs 1 (v34.2.b.map encU8), .v (.int .i64 v34.2.i), .v (.int .i64 v34.2.h)]), (0, .box 32 [.v (.slice none 0 0), .v (.slice none 0 0), .v (.int .i64 0)]), (1, .box 32 [.sl 6, .v (.slice none 0 0), .v (.int .i64 (w64 (15 * v1.1)))]), (6, .row 66 6 (v24.map Leg.enc)), (4, .box 66 [.v (.string v30.To), .v (.string v32.From), .v (.int .i64 (Int.tmod (w64 (v22.1.Start + (w64 (60 * v34.1)))) 1440)), .v (.int .i64 v22.1.Takes), .v (.int .i64 v22.1.Days), .v (.int .i64 v22.1.Room)])]⟩
def spec_l3Draw_L1_b (a1 : Int) (s5 : (List Int)) (s6 : Int) (s7 : Int) (s8 : (List Leg)) (s9 : Int) : Option (Ctl ((List Int) × Int × Int × (List Leg) × Int) ((List Int) × Int × Int × (List Leg)) (Network × l1Cur)) :=
  bif (decide (s9 > 0)) then
  (spec_l3Leg (l1Cur.mk s5 s6 s7)).bind fun v22 =>
  (ap 64 s8 ([v22.1] : List Leg)).bind fun v24 =>
  (spec_l1Once v22.2 3).bind fun v26 =>
  bif v26.1 then
  bif (decide ((v24.length : Int) < a1)) then
  (gi v24 (w64 ((v24.length : Int) - 1))).bind fun v30 =>
  (gi v24 (w64 ((v24.length : Int) - 1))).bind fun v32 =>
  (spec_l1Below v26.2 20).bind fun v34 =>
  (ap 64 v24 ([(Leg.mk v30.To v32.From (Int.tmod (w64 (v22.1.Start + (w64 (60 * v34.1)))) 1440) v22.1.Takes v22.1.Days v22.1.Room)] : List Leg)).bind fun v36 =>
  some (.next (v34.2.b, v34.2.i, v34.2.h, v36, w64 (s9 - 1)))
  else
  some (.next (v26.2.b, v26.2.i, v26.2.h, v24, w64 (s9 - 1)))
  else
  some (.next (v26.2.b, v26.2.i, v26.2.h, v24, w64 (s9 - 1)))
  else
  some (.brk (s5, s6, s7, s8))
def spec_l3Draw_L1 (a1 : Int) (s : (List Int) × Int × Int × (List Leg) × Int) : Option (Ctl ((List Int) × Int × Int × (List Leg) × Int) ((List Int) × Int × Int × (List Leg)) (Network × l1Cur)) := spec_l3Draw_L1_b a1 s.1 s.2.1 s.2.2.1 s.2.2.2.1 s.2.2.2.2
def spec_l3Draw_L1_s (a1 : Int) (v1 : (Int × l1Cur)) (s5 : (List Int)) (s6 : Int) (s7 : Int) (s8 : (List Leg)) (s9 : Int) : St := ⟨[(0, .o (.c (.ptr 900 0))), (1, .o (.c (.v (.int .i64 a1)))), (4, .o (.c (.ptr 0 0))), (5, .o (.c (.ptr 1 0))), (6, .o (.c (.v (.int .i64 s9))))], [(900, .box 112 [.rs 1 (s5.map encU8), .v (.int .i64 s6), .v (.int .i64 s7)]), (0, .box 32 [.v (.slice none 0 0), .v (.slice none 0 0), .v (.int .i64 0)]), (1, .box 32 [.sl 2, .v (.slice none 0 0), .v (.int .i64 (w64 (15 * v1.1)))]), (2, .row 66 6 (s8.map Leg.enc))]⟩
def spec_l3Draw_L1_S (a1 : Int) (v1 : (Int × l1Cur)) (s : (List Int) × Int × Int × (List Leg) × Int) : St := spec_l3Draw_L1_s a1 v1 s.1 s.2.1 s.2.2.1 s.2.2.2.1 s.2.2.2.2
def spec_l3Draw_L1_a (v1 : (Int × l1Cur)) (s10 : (List Int)) (s11 : Int) (s12 : Int) (s13 : (List Leg)) : Option (Network × l1Cur) :=
  (spec_l1Once (l1Cur.mk s10 s11 s12) 2).bind fun v14 =>
  bif v14.1 then
  (spec_l1Below v14.2 3).bind fun v17 =>
  (spec_l1Below v17.2 4).bind fun v19 =>
  some ((Network.mk s13 ([v17.1, w64 (3 + v19.1)] : List Int) (w64 (15 * v1.1))), v19.2)
  else
  some ((Network.mk s13 ([] : List Int) (w64 (15 * v1.1))), v14.2)
def spec_l3Draw_L1_k (v1 : (Int × l1Cur)) (x : ((List Int) × Int × Int × (List Leg)) ⊕ (Network × l1Cur)) : Option (Network × l1Cur) := match x with
  | .inl t => spec_l3Draw_L1_a v1 t.1 t.2.1 t.2.2.1 t.2.2.2
  | .inr y => some y
def spec_l3Draw (a0 : l1Cur) (a1 : Int) : Option (Network × l1Cur) :=
  (spec_l1Below a0 9).bind fun v1 =>
  (spec_l1Below v1.2 a1).bind fun v3 =>
  (loopM (spec_l3Draw_L1 a1) big (v3.2.b, v3.2.i, v3.2.h, [], w64 (1 + v3.1))).bind (spec_l3Draw_L1_k v1)
theorem spec_l3Draw_ok (a0 : l1Cur) (a1 : Int) (r : Network × l1Cur) (hM : spec_l3Draw a0 a1 = some r) :
    Con Try.prog 50 [.c (.ptr 900 0), .c (.v (.int .i64 a1))] [(900, .box 112 [.rs 1 (a0.b.map encU8), .v (.int .i64 a0.i), .v (.int .i64 a0.h)])] (.o (.agg [.sl 1000, .sl 1001, .v (.int .i64 r.1.Change)])) [(900, .box 112 [.rs 1 (r.2.b.map encU8), .v (.int .i64 r.2.i), .v (.int .i64 r.2.h)])] [(1000, .row 66 6 (r.1.Legs.map Leg.enc)), (1001, .row 3 1 (r.1.Off.map encI))] := by
  unfold spec_l3Draw at hM
  refine cn (N := 81) (pids := [900]) Try_mixed Try.func50 (by kernel_rfl) (by kernel_rfl) (by kernel_rfl) rfl fun ρ g w R => ?_
  obtain ⟨v1, h2, hM⟩ := bind_some hM
  obtain ⟨v3, h4, hM⟩ := bind_some hM
  have K1 : ∀ (s10 : (List Int)) (s11 : Int) (s12 : Int) (s13 : (List Leg)), spec_l3Draw_L1_a v1 s10 s11 s12 s13 = some r → Gr R [.code (cAt Try.f50 [1, 1, 1])] (⟨[(0, .o (.c (.ptr 900 0))), (4, .o (.c (.ptr 0 0))), (5, .o (.c (.ptr 1 0)))], [(900, .box 112 [.rs 1 (s10.map encU8), .v (.int .i64 s11), .v (.int .i64 s12)]), (0, .box 32 [.v (.slice none 0 0), .v (.slice none 0 0), .v (.int .i64 0)]), (1, .box 32 [.sl 2, .v (.slice none 0 0), .v (.int .i64 (w64 (15 * v1.1)))]), (2, .row 66 6 (s13.map Leg.enc))]⟩) := by
    intro s10 s11 s12 s13 hM
    unfold spec_l3Draw_L1_a at hM
    obtain ⟨v14, h15, hM⟩ := bind_some hM
    rcases cond_cases hM with ⟨h16, hM⟩ | ⟨h16, hM⟩
    · obtain ⟨v17, h18, hM⟩ := bind_some hM
      obtain ⟨v19, h20, hM⟩ := bind_some hM
      have hE : some ((Network.mk s13 ([v17.1, w64 (3 + v19.1)] : List Int) (w64 (15 * v1.1))), v19.2) = some r := hM
      have hE := Option.some.inj hE
      subst hE
      exact pr R 9999 [.call true [900] (.o (.c (.v (.bool v14.1)))) [(900, .box 112 [.rs 1 (v14.2.b.map encU8), .v (.int .i64 v14.2.i), .v (.int .i64 v14.2.h)])] [], .as 72 true, .call true [900] (.o (.c (.v (.int .i64 v17.1)))) [(900, .box 112 [.rs 1 (v17.2.b.map encU8), .v (.int .i64 v17.2.i), .v (.int .i64 v17.2.h)])] [], .call true [900] (.o (.c (.v (.int .i64 v19.1)))) [(900, .box 112 [.rs 1 (v19.2.b.map encU8), .v (.int .i64 v19.2.i), .v (.int .i64 v19.2.h)])] [], .new 3] [.sw 2 1000, .sw 3 1001] [900] [1000, 1001] (And.intro (And.intro (con_sw 900 900 (spec_l1Once_ok (l1Cur.mk s10 s11 s12) 2 v14 h15)) (rfl : ([900] : List Nat) = [900])) (And.intro h16 (And.intro (And.intro (con_sw 900 900 (spec_l1Below_ok v14.2 3 v17 h18)) (rfl : ([900] : List Nat) = [900])) (And.intro (And.intro (con_sw 900 900 (spec_l1Below_ok v17.2 4 v19 h20)) (rfl : ([900] : List Nat) = [900])) True.intro)))) (by kernel_rfl)
    · have hE : some ((Network.mk s13 ([] : List Int) (w64 (15 * v1.1))), v14.2) = some r := hM
      have hE := Option.some.inj hE
      subst hE
      exact pr R 9999 [.call true [900] (.o (.c (.v (.bool v14.1)))) [(900, .box 112 [.rs 1 (v14.2.b.map encU8), .v (.int .i64 v14.2.i), .v (.int .i64 v14.2.h)])] [], .as 72 false] [.sw 2 1000, .nb 0 1 1001 3 1] [900] [1000, 1001] (And.intro (And.intro (con_sw 900 900 (spec_l1Once_ok (l1Cur.mk s10 s11 s12) 2 v14 h15)) (rfl : ([900] : List Nat) = [900])) (And.intro h16 True.intro)) (by kernel_rfl)
  refine pc R 9999 [.new 0, .call true [900] (.o (.c (.v (.int .i64 v1.1)))) [(900, .box 112 [.rs 1 (v1.2.b.map encU8), .v (.int .i64 v1.2.i), .v (.int .i64 v1.2.h)])] [], .new 1, .call true [900] (.o (.c (.v (.int .i64 v3.1)))) [(900, .box 112 [.rs 1 (v3.2.b.map encU8), .v (.int .i64 v3.2.i), .v (.int .i64 v3.2.h)])] []] [.nb 1 0 2 66 6, .keep [0, 1, 4, 5, 6] [900, 0, 1, 2]] (k' := [.code (.loop (cAt Try.f50 [1, 1, 0, 1, 0, 0])), .blk 0, .code (cAt Try.f50 [1, 1, 1])]) (S' := spec_l3Draw_L1_S a1 v1 (v3.2.b, v3.2.i, v3.2.h, [], w64 (1 + v3.1))) (And.intro (And.intro (con_sw 900 900 (spec_l1Below_ok a0 9 v1 h2)) (rfl : ([900] : List Nat) = [900])) (And.intro (And.intro (con_sw 900 900 (spec_l1Below_ok v1.2 a1 v3 h4)) (rfl : ([900] : List Nat) = [900])) True.intro)) (by kernel_rfl) ?_
  refine lq (spec_l3Draw_L1_S a1 v1) (body := spec_l3Draw_L1 a1) (k := spec_l3Draw_L1_k v1) hM fun m1 s c1 hM hK1 => ?_
  obtain ⟨s5, s6, s7, s8, s9⟩ := s
  have hM : spec_l3Draw_L1_b a1 s5 s6 s7 s8 s9 = some c1 := hM
  unfold spec_l3Draw_L1_b at hM
  rcases cond_cases hM with ⟨h21, hM⟩ | ⟨h21, hM⟩
  · obtain ⟨v22, h23, hM⟩ := bind_some hM
    obtain ⟨v24, h25, hM⟩ := bind_some hM
    obtain ⟨v26, h27, hM⟩ := bind_some hM
    rcases cond_cases hM with ⟨h28, hM⟩ | ⟨h28, hM⟩
    · rcases cond_cases hM with ⟨h29, hM⟩ | ⟨h29, hM⟩
      · obtain ⟨v30, h31, hM⟩ := bind_some hM
        obtain ⟨v32, h33, hM⟩ := bind_some hM
        obtain ⟨v34, h35, hM⟩ := bind_some hM
        obtain ⟨v36, h37, hM⟩ := bind_some hM
        have hE : some (Ctl.next (v34.2.b, v34.2.i, v34.2.h, v36, w64 (s9 - 1))) = some c1 := hM
        have hE := Option.some.inj hE
        subst hE
        exact pc R 9999 [.as 17 true, .call true [900] (.o (.c (.v (.agg (Leg.enc v22.1).toArray)))) [(900, .box 112 [.rs 1 (v22.2.b.map encU8), .v (.int .i64 v22.2.i), .v (.int .i64 v22.2.h)])] [], .new 4, .new 5, .new 6, .nm (v24.map Leg.enc), .call true [900] (.o (.c (.v (.bool v26.1)))) [(900, .box 112 [.rs 1 (v26.2.b.map encU8), .v (.int .i64 v26.2.i), .v (.int .i64 v26.2.h)])] [], .as 30 true, .ln (v24.length), .as 36 true, .ln (v24.length), .ix (Leg.enc v30), .ln (v24.length), .ix (Leg.enc v32), .xo [[], [], [], [.call true [900] (.o (.c (.v (.int .i64 v34.1)))) [(900, .box 112 [.rs 1 (v34.2.b.map encU8), .v (.int .i64 v34.2.i), .v (.int .i64 v34.2.h)])] []], [], [], [], [], []] [.keep [0, 1, 4, 5, 6, 7] [900, 0, 1, 6, 4]] (spec_l3Draw_x4 a1 v1 s9 v22 v24 v30 v32 v34), .new 7, .new 8, .nm (v36.map Leg.enc)] [.sw 8 2, .keep [0, 1, 4, 5, 6] [900, 0, 1, 2]] (And.intro h21 (And.intro (And.intro (con_sw 900 900 (spec_l3Leg_ok (l1Cur.mk s5 s6 s7) v22 h23)) (rfl : ([900] : List Nat) = [900])) (And.intro (ap_ok Leg.enc h25) (And.intro (And.intro (con_sw 900 900 (spec_l1Once_ok v22.2 3 v26 h27)) (rfl : ([900] : List Nat) = [900])) (And.intro h28 (And.intro (lenm Leg.enc v24) (And.intro h29 (And.intro (lenm Leg.enc v24) (And.intro (gi_lt Leg.enc h31) (And.intro ((gi_map Leg.enc h31).2) (And.intro (lenm Leg.enc v24) (And.intro (gi_lt Leg.enc h33) (And.intro ((gi_map Leg.enc h33).2) (And.intro (And.intro (con_sw 900 900 (spec_l1Below_ok v26.2 20 v34 h35)) (rfl : ([900] : List Nat) = [900])) (And.intro (rfl : (spec_l3Draw_x4 a1 v1 s9 v22 v24 v30 v32 v34) = (spec_l3Draw_x4 a1 v1 s9 v22 v24 v30 v32 v34)) (And.intro (And.intro (con_sw 900 900 (spec_l1Below_ok v26.2 20 v34 h35)) (rfl : ([900] : List Nat) = [900])) (And.intro (rfl : (spec_l3Draw_x4 a1 v1 s9 v22 v24 v30 v32 v34) = (spec_l3Draw_x4 a1 v1 s9 v22 v24 v30 v32 v34)) (And.intro (ap_ok Leg.enc h37) True.intro)))))))))))))))))) (by kernel_rfl) (li (Sf := spec_l3Draw_L1_S a1 v1) (M := Mk (spec_l3Draw_L1 a1) (spec_l3Draw_L1_k v1) r) (k := [.blk 0, .code (cAt Try.f50 [1, 1, 1])]) (Nat.lt_succ_self m1) hK1)
      · have hE : some (Ctl.next (v26.2.b, v26.2.i, v26.2.h, v24, w64 (s9 - 1))) = some c1 := hM
        have hE := Option.some.inj hE
        subst hE
        exact pc R 9999 [.as 17 true, .call true [900] (.o (.c (.v (.agg (Leg.enc v22.1).toArray)))) [(900, .box 112 [.rs 1 (v22.2.b.map encU8), .v (.int .i64 v22.2.i), .v (.int .i64 v22.2.h)])] [], .new 4, .new 5, .new 6, .nm (v24.map Leg.enc), .call true [900] (.o (.c (.v (.bool v26.1)))) [(900, .box 112 [.rs 1 (v26.2.b.map encU8), .v (.int .i64 v26.2.i), .v (.int .i64 v26.2.h)])] [], .as 30 true, .ln (v24.length), .as 36 false] [.sw 6 2, .keep [0, 1, 4, 5, 6] [900, 0, 1, 2]] (And.intro h21 (And.intro (And.intro (con_sw 900 900 (spec_l3Leg_ok (l1Cur.mk s5 s6 s7) v22 h23)) (rfl : ([900] : List Nat) = [900])) (And.intro (ap_ok Leg.enc h25) (And.intro (And.intro (con_sw 900 900 (spec_l1Once_ok v22.2 3 v26 h27)) (rfl : ([900] : List Nat) = [900])) (And.intro h28 (And.intro (lenm Leg.enc v24) (And.intro h29 True.intro))))))) (by kernel_rfl) (li (Sf := spec_l3Draw_L1_S a1 v1) (M := Mk (spec_l3Draw_L1 a1) (spec_l3Draw_L1_k v1) r) (k := [.blk 0, .code (cAt Try.f50 [1, 1, 1])]) (Nat.lt_succ_self m1) hK1)
    · have hE : some (Ctl.next (v26.2.b, v26.2.i, v26.2.h, v24, w64 (s9 - 1))) = some c1 := hM
      have hE := Option.some.inj hE
      subst hE
      exact pc R 9999 [.as 17 true, .call true [900] (.o (.c (.v (.agg (Leg.enc v22.1).toArray)))) [(900, .box 112 [.rs 1 (v22.2.b.map encU8), .v (.int .i64 v22.2.i), .v (.int .i64 v22.2.h)])] [], .new 4, .new 5, .new 6, .nm (v24.map Leg.enc), .call true [900] (.o (.c (.v (.bool v26.1)))) [(900, .box 112 [.rs 1 (v26.2.b.map encU8), .v (.int .i64 v26.2.i), .v (.int .i64 v26.2.h)])] [], .as 30 false] [.sw 6 2, .keep [0, 1, 4, 5, 6] [900, 0, 1, 2]] (And.intro h21 (And.intro (And.intro (con_sw 900 900 (spec_l3Leg_ok (l1Cur.mk s5 s6 s7) v22 h23)) (rfl : ([900] : List Nat) = [900])) (And.intro (ap_ok Leg.enc h25) (And.intro (And.intro (con_sw 900 900 (spec_l1Once_ok v22.2 3 v26 h27)) (rfl : ([900] : List Nat) = [900])) (And.intro h28 True.intro))))) (by kernel_rfl) (li (Sf := spec_l3Draw_L1_S a1 v1) (M := Mk (spec_l3Draw_L1 a1) (spec_l3Draw_L1_k v1) r) (k := [.blk 0, .code (cAt Try.f50 [1, 1, 1])]) (Nat.lt_succ_self m1) hK1)
  · have hE : some (Ctl.brk (s5, s6, s7, s8)) = some c1 := hM
    have hE := Option.some.inj hE
    subst hE
    exact pc R 5 [.as 17 false] [.keep [0, 4, 5] [900, 0, 1, 2]] (And.intro h21 True.intro) (by kernel_rfl) (K1 s5 s6 s7 s8 hK1)

-- loop.example/g03014/spec.l3Any
def spec_l3Any_x1 (v1 : (Network × l1Cur)) (v3 : (Int × l1Cur)) (v8 : (Int × l1Cur)) (v10 : Leg) : St := ⟨[(0, .o (.c (.ptr 900 0))), (2, .o (.c (.ptr 0 0))), (3, .o (.c (.ptr 3 0)))], [(900, .box 112 [.rs 1 (v8.2.b.map encU8), .v (.int .i64 v8.2.i), .v (.int .i64 v8.2.h)]), (0, .box 32 [.v (.slice none 0 0), .v (.slice none 0 0), .v (.int .i64 0)]), (3, .box 32 [.sl 1, .sl 2, .v (.int .i64 v1.1.Change)]), (1, .row 66 6 ((List.set v1.1.Legs (Int.toNat v3.1) (Leg.mk v10.From v10.To v8.1 v10.Takes v10.Days v10.Room)).map Leg.enc)), (2, .row 3 1 (v1.1.Off.map encI))]⟩
def spec_l3Any_x2 (v1 : (Network × l1Cur)) (v3 : (Int × l1Cur)) (v13 : (Int × l1Cur)) (v15 : Leg) : St := ⟨[(0, .o (.c (.ptr 900 0))), (2, .o (.c (.ptr 0 0))), (3, .o (.c (.ptr 3 0)))], [(900, .box 112 [.rs 1 (v13.2.b.map encU8), .v (.int .i64 v13.2.i), .v (.int .i64 v13.2.h)]), (0, .box 32 [.v (.slice none 0 0), .v (.slice none 0 0), .v (.int .i64 0)]), (3, .box 32 [.sl 1, .sl 2, .v (.int .i64 v1.1.Change)]), (1, .row 66 6 ((List.set v1.1.Legs (Int.toNat v3.1) (Leg.mk v15.From v15.To v15.Start v13.1 v15.Days v15.Room)).map Leg.enc)), (2, .row 3 1 (v1.1.Off.map encI))]⟩
def spec_l3Any_x3 (v1 : (Network × l1Cur)) (v3 : (Int × l1Cur)) (v18 : (Int × l1Cur)) (v20 : Leg) : St := ⟨[(0, .o (.c (.ptr 900 0))), (2, .o (.c (.ptr 0 0))), (3, .o (.c (.ptr 3 0)))], [(900, .box 112 [.rs 1 (v18.2.b.map encU8), .v (.int .i64 v18.2.i), .v (.int .i64 v18.2.h)]), (0, .box 32 [.v (.slice none 0 0), .v (.slice none 0 0), .v (.int .i64 0)]), (3, .box 32 [.sl 1, .sl 2, .v (.int .i64 v1.1.Change)]), (1, .row 66 6 ((List.set v1.1.Legs (Int.toNat v3.1) (Leg.mk v20.From v20.To v20.Start v20.Takes v18.1 v20.Room)).map Leg.enc)), (2, .row 3 1 (v1.1.Off.map encI))]⟩
def spec_l3Any_x4 (v1 : (Network × l1Cur)) (v23 : (Int × l1Cur)) (v25 : (List Int)) : St := ⟨[(0, .o (.c (.ptr 900 0))), (2, .o (.c (.ptr 0 0))), (3, .o (.c (.ptr 3 0)))], [(900, .box 112 [.rs 1 (v23.2.b.map encU8), .v (.int .i64 v23.2.i), .v (.int .i64 v23.2.h)]), (0, .box 32 [.v (.slice none 0 0), .v (.slice none 0 0), .v (.int .i64 0)]), (3, .box 32 [.sl 1, .sl 9, .v (.int .i64 v1.1.Change)]), (1, .row 66 6 (v1.1.Legs.map Leg.enc)), (9, .row 3 1 (v25.map encI))]⟩
def spec_l3Any_x8 (v1 : (Network × l1Cur)) (v38 : (Int × l1Cur)) (v40 : (List Leg)) : St := ⟨[(0, .o (.c (.ptr 900 0))), (2, .o (.c (.ptr 0 0))), (3, .o (.c (.ptr 3 0)))], [(900, .box 112 [.rs 1 (v38.2.b.map encU8), .v (.int .i64 v38.2.i), .v (.int .i64 v38.2.h)]), (0, .box 32 [.v (.slice none 0 0), .v (.slice none 0 0), .v (.int .i64 0)]), (3, .box 32 [.rs 6 (v40.map Leg.enc), .sl 2, .v (.int .i64 v1.1.Change)]), (2, .row 3 1 (v1.1.Off.map encI))]⟩
def spec_l3Any_x9 (v1 : (Network × l1Cur)) (v3 : (Int × l1Cur)) (v5 : (Int × l1Cur)) (v45 : (List Leg)) : St := ⟨[(0, .o (.c (.ptr 900 0))), (2, .o (.c (.ptr 0 0))), (3, .o (.c (.ptr 3 0))), (4, .o (.c (.v (.int .i64 v3.1))))], [(900, .box 112 [.rs 1 (v5.2.b.map encU8), .v (.int .i64 v5.2.i), .v (.int .i64 v5.2.h)]), (0, .box 32 [.v (.slice none 0 0), .v (.slice none 0 0), .v (.int .i64 0)]), (3, .box 32 [.sl 13, .sl 2, .v (.int .i64 v1.1.Change)]), (13, .row 66 6 (v45.map Leg.enc)), (2, .row 3 1 (v1.1.Off.map encI))]⟩
def spec_l3Any_L1_b (v3 : (Int × l1Cur)) (s36 : (List Leg)) : Option (Ctl (List Leg) (List Leg) (Network × l1Cur)) :=
  bif (decide ((s36.length : Int) < 21)) then
  (gi s36 v3.1).bind fun v43 =>
  (ap 64 s36 ([v43] : List Leg)).bind fun v45 =>
  some (.next v45)
  else
  some (.brk s36)
def spec_l3Any_L1 (v3 : (Int × l1Cur)) (s : (List Leg)) : Option (Ctl (List Leg) (List Leg) (Network × l1Cur)) := spec_l3Any_L1_b v3 s
def spec_l3Any_L1_s (v1 : (Network × l1Cur)) (v3 : (Int × l1Cur)) (v5 : (Int × l1Cur)) (s36 : (List Leg)) : St := ⟨[(0, .o (.c (.ptr 900 0))), (2, .o (.c (.ptr 0 0))), (3, .o (.c (.ptr 3 0))), (4, .o (.c (.v (.int .i64 v3.1))))], [(900, .box 112 [.rs 1 (v5.2.b.map encU8), .v (.int .i64 v5.2.i), .v (.int .i64 v5.2.h)]), (0, .box 32 [.v (.slice none 0 0), .v (.slice none 0 0), .v (.int .i64 0)]), (3, .box 32 [.sl 1, .sl 2, .v (.int .i64 v1.1.Change)]), (1, .row 66 6 (s36.map Leg.enc)), (2, .row 3 1 (v1.1.Off.map encI))]⟩
def spec_l3Any_L1_S (v1 : (Network × l1Cur)) (v3 : (Int × l1Cur)) (v5 : (Int × l1Cur)) (s : (List Leg)) : St := spec_l3Any_L1_s v1 v3 v5 s
def spec_l3Any_L1_a (v1 : (Network × l1Cur)) (v5 : (Int × l1Cur)) (s37 : (List Leg)) : Option (Network × l1Cur) :=
  (spec_l1Int v5.2 ([20, 21] : List Int)).bind fun v38 =>
  (slM s37 0 v38.1).bind fun v40 =>
  some ((Network.mk v40 v1.1.Off v1.1.Change), v38.2)
def spec_l3Any_L1_k (v1 : (Network × l1Cur)) (v5 : (Int × l1Cur)) (x : ((List Leg)) ⊕ (Network × l1Cur)) : Option (Network × l1Cur) := match x with
  | .inl t => spec_l3Any_L1_a v1 v5 t
  | .inr y => some y
def spec_l3Any (a0 : l1Cur) : Option (Network × l1Cur) :=
  (spec_l3Draw a0 6).bind fun v1 =>
  (spec_l1Below v1.2 (v1.1.Legs.length : Int)).bind fun v3 =>
  (spec_l1Below v3.2 10).bind fun v5 =>
  bif (v5.1 == 0) then
  (spec_l1Int v5.2 ([(-1), 0, 1439, 1440] : List Int)).bind fun v8 =>
  (gi v1.1.Legs v3.1).bind fun v10 =>
  some ((Network.mk (List.set v1.1.Legs (Int.toNat v3.1) (Leg.mk v10.From v10.To v8.1 v10.Takes v10.Days v10.Room)) v1.1.Off v1.1.Change), v8.2)
  else
  bif (v5.1 == 1) then
  (spec_l1Int v5.2 ([0, 1, 4320, 4321] : List Int)).bind fun v13 =>
  (gi v1.1.Legs v3.1).bind fun v15 =>
  some ((Network.mk (List.set v1.1.Legs (Int.toNat v3.1) (Leg.mk v15.From v15.To v15.Start v13.1 v15.Days v15.Room)) v1.1.Off v1.1.Change), v13.2)
  else
  bif (v5.1 == 2) then
  (spec_l1Int v5.2 ([0, 127, 128, (-1)] : List Int)).bind fun v18 =>
  (gi v1.1.Legs v3.1).bind fun v20 =>
  some ((Network.mk (List.set v1.1.Legs (Int.toNat v3.1) (Leg.mk v20.From v20.To v20.Start v20.Takes v18.1 v20.Room)) v1.1.Off v1.1.Change), v18.2)
  else
  bif (v5.1 == 3) then
  (spec_l1Int v5.2 ([0, 60, 61, (-1)] : List Int)).bind fun v23 =>
  (ap 8 v1.1.Off ([v23.1] : List Int)).bind fun v25 =>
  some ((Network.mk v1.1.Legs v25 v1.1.Change), v23.2)
  else
  bif (v5.1 == 4) then
  (spec_l1Int v5.2 ([(-1), 240, 241] : List Int)).bind fun v28 =>
  some ((Network.mk v1.1.Legs v1.1.Off v28.1), v28.2)
  else
  bif (v5.1 == 5) then
  (gi v1.1.Legs v3.1).bind fun v31 =>
  (gi v1.1.Legs v3.1).bind fun v33 =>
  some ((Network.mk (List.set v1.1.Legs (Int.toNat v3.1) (Leg.mk v33.From v31.From v33.Start v33.Takes v33.Days v33.Room)) v1.1.Off v1.1.Change), v5.2)
  else
  bif (v5.1 == 6) then
  (loopM (spec_l3Any_L1 v3) big v1.1.Legs).bind (spec_l3Any_L1_k v1 v5)
  else
  some ((Network.mk v1.1.Legs v1.1.Off v1.1.Change), v5.2)
theorem spec_l3Any_ok (a0 : l1Cur) (r : Network × l1Cur) (hM : spec_l3Any a0 = some r) :
    Con Try.prog 119 [.c (.ptr 900 0)] [(900, .box 112 [.rs 1 (a0.b.map encU8), .v (.int .i64 a0.i), .v (.int .i64 a0.h)])] (.o (.agg [.rs 6 (r.1.Legs.map Leg.enc), .rs 1 (r.1.Off.map encI), .v (.int .i64 r.1.Change)])) [(900, .box 112 [.rs 1 (r.2.b.map encU8), .v (.int .i64 r.2.i), .v (.int .i64 r.2.h)])] [] := by
  unfold spec_l3Any at hM
  refine cn (N := 97) (pids := [900]) Try_mixed Try.func119 (by kernel_rfl) (by kernel_rfl) (by kernel_rfl) rfl fun ρ g w R => ?_
  obtain ⟨v1, h2, hM⟩ := bind_some hM
  obtain ⟨v3, h4, hM⟩ := bind_some hM
  obtain ⟨v5, h6, hM⟩ := bind_some hM
  rcases cond_cases hM with ⟨h7, hM⟩ | ⟨h7, hM⟩
  · obtain ⟨v8, h9, hM⟩ := bind_some hM
    obtain ⟨v10, h11, hM⟩ := bind_some hM
    have hE : some ((Network.mk (List.set v1.1.Legs (Int.toNat v3.1) (Leg.mk v10.From v10.To v8.1 v10.Takes v10.Days v10.Room)) v1.1.Off v1.1.Change), v8.2) = some r := hM
    have hE := Option.some.inj hE
    subst hE
    exact pr R 9999 [.new 0, .call true [900] (.o (.agg [.sl 1, .sl 2, .v (.int .i64 v1.1.Change)])) [(900, .box 112 [.rs 1 (v1.2.b.map encU8), .v (.int .i64 v1.2.i), .v (.int .i64 v1.2.h)])] [(1, .row 66 6 (v1.1.Legs.map Leg.enc)), (2, .row 3 1 (v1.1.Off.map encI))], .new 3, .ln (v1.1.Legs.length), .call true [900] (.o (.c (.v (.int .i64 v3.1)))) [(900, .box 112 [.rs 1 (v3.2.b.map encU8), .v (.int .i64 v3.2.i), .v (.int .i64 v3.2.h)])] [], .call true [900] (.o (.c (.v (.int .i64 v5.1)))) [(900, .box 112 [.rs 1 (v5.2.b.map encU8), .v (.int .i64 v5.2.i), .v (.int .i64 v5.2.h)])] [], .as 14 true, .xo [[], [], [], [], [.new 4], [.ad (.keep [0, 2, 3, 4, 5, 6, 7, 8, 9, 10, 11, 12, 13, 14, 15, 16, 17, 18, 19, 20, 21, 22, 23] [900, 4, 0, 1, 2, 3, 5, 6, 7, 8, 9, 10, 11, 12, 13, 14, 15, 16, 17, 18, 19, 20, 21, 22, 23, 24, 25, 26, 27, 28, 29, 30, 31, 32, 33, 34, 35, 36, 37, 38, 39, 40, 41, 42, 43, 44]), .call true [900, 4] (.o (.c (.v (.int .i64 v8.1)))) [(900, .box 112 [.rs 1 (v8.2.b.map encU8), .v (.int .i64 v8.2.i), .v (.int .i64 v8.2.h)]), (4, .row 3 1 (([(-1), 0, 1439, 1440] : List Int).map encI))] []], [], [], [.ix (Leg.enc v10), .nm ((List.set v1.1.Legs (Int.toNat v3.1) (Leg.mk v10.From v10.To v8.1 v10.Takes v10.Days v10.Room)).map Leg.enc)]] [.keep [0, 2, 3] [900, 0, 3, 1, 2]] (spec_l3Any_x1 v1 v3 v8 v10)] [.fz 1, .fz 2] [900] [] (And.intro (And.intro (con_sw 900 900 (con_sw 1001 2 (con_sw 1000 1 (spec_l3Draw_ok a0 6 v1 h2)))) (rfl : ([900] : List Nat) = [900])) (And.intro (lenm Leg.enc v1.1.Legs) (And.intro (And.intro (con_sw 900 900 (spec_l1Below_ok v1.2 (v1.1.Legs.length : Int) v3 h4)) (rfl : ([900] : List Nat) = [900])) (And.intro (And.intro (con_sw 900 900 (spec_l1Below_ok v3.2 10 v5 h6)) (rfl : ([900] : List Nat) = [900])) (And.intro h7 (And.intro (And.intro (con_sw 901 4 (con_sw 900 900 (spec_l1Int_ok v5.2 ([(-1), 0, 1439, 1440] : List Int) v8 h9))) (rfl : ([900, 4] : List Nat) = [900, 4])) (And.intro (gi_lt Leg.enc h11) (And.intro (And.intro (gi_map Leg.enc h11).2 (set_map Leg.enc v1.1.Legs (Int.toNat v3.1) (Leg.mk v10.From v10.To v8.1 v10.Takes v10.Days v10.Room))) (And.intro (rfl : (spec_l3Any_x1 v1 v3 v8 v10) = (spec_l3Any_x1 v1 v3 v8 v10)) (And.intro (And.intro (con_sw 901 4 (con_sw 900 900 (spec_l1Int_ok v5.2 ([(-1), 0, 1439, 1440] : List Int) v8 h9))) (rfl : ([900, 4] : List Nat) = [900, 4])) (And.intro (gi_lt Leg.enc h11) (And.intro (And.intro (gi_map Leg.enc h11).2 (set_map Leg.enc v1.1.Legs (Int.toNat v3.1) (Leg.mk v10.From v10.To v8.1 v10.Takes v10.Days v10.Room))) (And.intro (rfl : (spec_l3Any_x1 v1 v3 v8 v10) = (spec_l3Any_x1 v1 v3 v8 v10)) (And.intro (And.intro (con_sw 901 4 (con_sw 900 900 (spec_l1Int_ok v5.2 ([(-1), 0, 1439, 1440] : List Int) v8 h9))) (rfl : ([900, 4] : List Nat) = [900, 4])) (And.intro (gi_lt Leg.enc h11) (And.intro (And.intro (gi_map Leg.enc h11).2 (set_map Leg.enc v1.1.Legs (Int.toNat v3.1) (Leg.mk v10.From v10.To v8.1 v10.Takes v10.Days v10.Room))) (And.intro (rfl : (spec_l3Any_x1 v1 v3 v8 v10) = (spec_l3Any_x1 v1 v3 v8 v10)) True.intro))))))))))))))))) (by kernel_rfl)
  · rcases cond_cases hM with ⟨h12, hM⟩ | ⟨h12, hM⟩
    · obtain ⟨v13, h14, hM⟩ := bind_some hM
      obtain ⟨v15, h16, hM⟩ := bind_some hM
      have hE : some ((Network.mk (List.set v1.1.Legs (Int.toNat v3.1) (Leg.mk v15.From v15.To v15.Start v13.1 v15.Days v15.Room)) v1.1.Off v1.1.Change), v13.2) = some r := hM
      have hE := Option.some.inj hE
      subst hE
      exact pr R 9999 [.new 0, .call true [900] (.o (.agg [.sl 1, .sl 2, .v (.int .i64 v1.1.Change)])) [(900, .box 112 [.rs 1 (v1.2.b.map encU8), .v (.int .i64 v1.2.i), .v (.int .i64 v1.2.h)])] [(1, .row 66 6 (v1.1.Legs.map Leg.enc)), (2, .row 3 1 (v1.1.Off.map encI))], .new 3, .ln (v1.1.Legs.length), .call true [900] (.o (.c (.v (.int .i64 v3.1)))) [(900, .box 112 [.rs 1 (v3.2.b.map encU8), .v (.int .i64 v3.2.i), .v (.int .i64 v3.2.h)])] [], .call true [900] (.o (.c (.v (.int .i64 v5.1)))) [(900, .box 112 [.rs 1 (v5.2.b.map encU8), .v (.int .i64 v5.2.i), .v (.int .i64 v5.2.h)])] [], .as 14 false, .as 24 true, .xo [[], [], [], [], [.new 5], [.ad (.keep [0, 2, 3, 4, 5, 6, 7, 8, 9, 10, 11, 12, 13, 14, 15, 24, 25, 26, 27, 28, 29, 30, 31, 32, 33] [900, 5, 0, 1, 2, 3, 4, 6, 7, 8, 9, 10, 11, 12, 13, 14, 15, 16, 17, 18, 19, 20, 21, 22, 23, 24, 25, 26, 27, 28, 29, 30, 31, 32, 33, 34, 35, 36, 37, 38, 39, 40, 41, 42, 43, 44, 45]), .call true [900, 5] (.o (.c (.v (.int .i64 v13.1)))) [(900, .box 112 [.rs 1 (v13.2.b.map encU8), .v (.int .i64 v13.2.i), .v (.int .i64 v13.2.h)]), (5, .row 3 1 (([0, 1, 4320, 4321] : List Int).map encI))] []], [], [], [.ix (Leg.enc v15), .nm ((List.set v1.1.Legs (Int.toNat v3.1) (Leg.mk v15.From v15.To v15.Start v13.1 v15.Days v15.Room)).map Leg.enc)]] [.keep [0, 2, 3] [900, 0, 3, 1, 2]] (spec_l3Any_x2 v1 v3 v13 v15)] [.fz 1, .fz 2] [900] [] (And.intro (And.intro (con_sw 900 900 (con_sw 1001 2 (con_sw 1000 1 (spec_l3Draw_ok a0 6 v1 h2)))) (rfl : ([900] : List Nat) = [900])) (And.intro (lenm Leg.enc v1.1.Legs) (And.intro (And.intro (con_sw 900 900 (spec_l1Below_ok v1.2 (v1.1.Legs.length : Int) v3 h4)) (rfl : ([900] : List Nat) = [900])) (And.intro (And.intro (con_sw 900 900 (spec_l1Below_ok v3.2 10 v5 h6)) (rfl : ([900] : List Nat) = [900])) (And.intro h7 (And.intro h12 (And.intro (And.intro (con_sw 901 5 (con_sw 900 900 (spec_l1Int_ok v5.2 ([0, 1, 4320, 4321] : List Int) v13 h14))) (rfl : ([900, 5] : List Nat) = [900, 5])) (And.intro (gi_lt Leg.enc h16) (And.intro (And.intro (gi_map Leg.enc h16).2 (set_map Leg.enc v1.1.Legs (Int.toNat v3.1) (Leg.mk v15.From v15.To v15.Start v13.1 v15.Days v15.Room))) (And.intro (rfl : (spec_l3Any_x2 v1 v3 v13 v15) = (spec_l3Any_x2 v1 v3 v13 v15)) (And.intro (And.intro (con_sw 901 5 (con_sw 900 900 (spec_l1Int_ok v5.2 ([0, 1, 4320, 4321] : List Int) v13 h14))) (rfl : ([900, 5] : List Nat) = [900, 5])) (And.intro (gi_lt Leg.enc h16) (And.intro (And.intro (gi_map Leg.enc h16).2 (set_map Leg.enc v1.1.Legs (Int.toNat v3.1) (Leg.mk v15.From v15.To v15.Start v13.1 v15.Days v15.Room))) (And.intro (rfl : (spec_l3Any_x2 v1 v3 v13 v15) = (spec_l3Any_x2 v1 v3 v13 v15)) (And.intro (And.intro (con_sw 901 5 (con_sw 900 900 (spec_l1Int_ok v5.2 ([0, 1, 4320, 4321] : List Int) v13 h14))) (rfl : ([900, 5] : List Nat) = [900, 5])) (And.intro (gi_lt Leg.enc h16) (And.intro (And.intro (gi_map Leg.enc h16).2 (set_map Leg.enc v1.1.Legs (Int.toNat v3.1) (Leg.mk v15.From v15.To v15.Start v13.1 v15.Days v15.Room))) (And.intro (rfl : (spec_l3Any_x2 v1 v3 v13 v15) = (spec_l3Any_x2 v1 v3 v13 v15)) True.intro)))))))))))))))))) (by kernel_rfl)
    · rcases cond_cases hM with ⟨h17, hM⟩ | ⟨h17, hM⟩
      · obtain ⟨v18, h19, hM⟩ := bind_some hM
        obtain ⟨v20, h21, hM⟩ := bind_some hM
        have hE : some ((Network.mk (List.set v1.1.Legs (Int.toNat v3.1) (Leg.mk v20.From v20.To v20.Start v20.Takes v18.1 v20.Room)) v1.1.Off v1.1.Change), v18.2) = some r := hM
        have hE := Option.some.inj hE
        subst hE
        exact pr R 9999 [.new 0, .call true [900] (.o (.agg [.sl 1, .sl 2, .v (.int .i64 v1.1.Change)])) [(900, .box 112 [.rs 1 (v1.2.b.map encU8), .v (.int .i64 v1.2.i), .v (.int .i64 v1.2.h)])] [(1, .row 66 6 (v1.1.Legs.map Leg.enc)), (2, .row 3 1 (v1.1.Off.map encI))], .new 3, .ln (v1.1.Legs.length), .call true [900] (.o (.c (.v (.int .i64 v3.1)))) [(900, .box 112 [.rs 1 (v3.2.b.map encU8), .v (.int .i64 v3.2.i), .v (.int .i64 v3.2.h)])] [], .call true [900] (.o (.c (.v (.int .i64 v5.1)))) [(900, .box 112 [.rs 1 (v5.2.b.map encU8), .v (.int .i64 v5.2.i), .v (.int .i64 v5.2.h)])] [], .as 14 false, .as 24 false, .as 34 true, .xo [[], [], [], [], [.new 6], [.ad (.keep [0, 2, 3, 4, 5, 6, 7, 8, 9, 10, 11, 12, 13, 14, 15, 24, 25, 34, 35, 36, 37, 38, 39, 40, 41, 42, 43] [900, 6, 0, 1, 2, 3, 4, 5, 7, 8, 9, 10, 11, 12, 13, 14, 15, 16, 17, 18, 19, 20, 21, 22, 23, 24, 25, 26, 27, 28, 29, 30, 31, 32, 33, 34, 35, 36, 37, 38, 39, 40, 41, 42, 43, 44, 45, 46]), .call true [900, 6] (.o (.c (.v (.int .i64 v18.1)))) [(900, .box 112 [.rs 1 (v18.2.b.map encU8), .v (.int .i64 v18.2.i), .v (.int .i64 v18.2.h)]), (6, .row 3 1 (([0, 127, 128, (-1)] : List Int).map encI))] []], [], [], [.ix (Leg.enc v20), .nm ((List.set v1.1.Legs (Int.toNat v3.1) (Leg.mk v20.From v20.To v20.Start v20.Takes v18.1 v20.Room)).map Leg.enc)]] [.keep [0, 2, 3] [900, 0, 3, 1, 2]] (spec_l3Any_x3 v1 v3 v18 v20)] [.fz 1, .fz 2] [900] [] (And.intro (And.intro (con_sw 900 900 (con_sw 1001 2 (con_sw 1000 1 (spec_l3Draw_ok a0 6 v1 h2)))) (rfl : ([900] : List Nat) = [900])) (And.intro (lenm Leg.enc v1.1.Legs) (And.intro (And.intro (con_sw 900 900 (spec_l1Below_ok v1.2 (v1.1.Legs.length : Int) v3 h4)) (rfl : ([900] : List Nat) = [900])) (And.intro (And.intro (con_sw 900 900 (spec_l1Below_ok v3.2 10 v5 h6)) (rfl : ([900] : List Nat) = [900])) (And.intro h7 (And.intro h12 (And.intro h17 (And.intro (And.intro (con_sw 901 6 (con_sw 900 900 (spec_l1Int_ok v5.2 ([0, 127, 128, (-1)] : List Int) v18 h19))) (rfl : ([900, 6] : List Nat) = [900, 6])) (And.intro (gi_lt Leg.enc h21) (And.intro (And.intro (gi_map Leg.enc h21).2 (set_map Leg.enc v1.1.Legs (Int.toNat v3.1) (Leg.mk v20.From v20.To v20.Start v20.Takes v18.1 v20.Room))) (And.intro (rfl : (spec_l3Any_x3 v1 v3 v18 v20) = (spec_l3Any_x3 v1 v3 v18 v20)) (And.intro (And.intro (con_sw 901 6 (con_sw 900 900 (spec_l1Int_ok v5.2 ([0, 127, 128, (-1)] : List Int) v18 h19))) (rfl : ([900, 6] : List Nat) = [900, 6])) (And.intro (gi_lt Leg.enc h21) (And.intro (And.intro (gi_map Leg.enc h21).2 (set_map Leg.enc v1.1.Legs (Int.toNat v3.1) (Leg.mk v20.From v20.To v20.Start v20.Takes v18.1 v20.Room))) (And.intro (rfl : (spec_l3Any_x3 v1 v3 v18 v20) = (spec_l3Any_x3 v1 v3 v18 v20)) (And.intro (And.intro (con_sw 901 6 (con_sw 900 900 (spec_l1Int_ok v5.2 ([0, 127, 128, (-1)] : List Int) v18 h19))) (rfl : ([900, 6] : List Nat) = [900, 6])) (And.intro (gi_lt Leg.enc h21) (And.intro (And.intro (gi_map Leg.enc h21).2 (set_map Leg.enc v1.1.Legs (Int.toNat v3.1) (Leg.mk v20.From v20.To v20.Start v20.Takes v18.1 v20.Room))) (And.intro (rfl : (spec_l3Any_x3 v1 v3 v18 v20) = (spec_l3Any_x3 v1 v3 v18 v20)) True.intro))))))))))))))))))) (by kernel_rfl)
      · rcases cond_cases hM with ⟨h22, hM⟩ | ⟨h22, hM⟩
        · obtain ⟨v23, h24, hM⟩ := bind_some hM
          obtain ⟨v25, h26, hM⟩ := bind_some hM
          have hE : some ((Network.mk v1.1.Legs v25 v1.1.Change), v23.2) = some r := hM
          have hE := Option.some.inj hE
          subst hE
          exact pr R 9999 [.new 0, .call true [900] (.o (.agg [.sl 1, .sl 2, .v (.int .i64 v1.1.Change)])) [(900, .box 112 [.rs 1 (v1.2.b.map encU8), .v (.int .i64 v1.2.i), .v (.int .i64 v1.2.h)])] [(1, .row 66 6 (v1.1.Legs.map Leg.enc)), (2, .row 3 1 (v1.1.Off.map encI))], .new 3, .ln (v1.1.Legs.length), .call true [900] (.o (.c (.v (.int .i64 v3.1)))) [(900, .box 112 [.rs 1 (v3.2.b.map encU8), .v (.int .i64 v3.2.i), .v (.int .i64 v3.2.h)])] [], .call true [900] (.o (.c (.v (.int .i64 v5.1)))) [(900, .box 112 [.rs 1 (v5.2.b.map encU8), .v (.int .i64 v5.2.i), .v (.int .i64 v5.2.h)])] [], .as 14 false, .as 24 false, .as 34 false, .as 44 true, .xo [[], [], [], [.new 7], [.ad (.keep [0, 2, 3, 4, 5, 6, 7, 8, 9, 10, 11, 12, 13, 14, 15, 24, 25, 34, 35, 44, 45, 46, 47, 48, 49, 50, 51, 52, 53] [900, 7, 0, 1, 2, 3, 4, 5, 6, 8, 9, 10, 11, 12, 13, 14, 15, 16, 17, 18, 19, 20, 21, 22, 23, 24, 25, 26, 27, 28, 29, 30, 31, 32, 33, 34, 35, 36, 37, 38, 39, 40, 41, 42, 43, 44, 45, 46, 47]), .call true [900, 7] (.o (.c (.v (.int .i64 v23.1)))) [(900, .box 112 [.rs 1 (v23.2.b.map encU8), .v (.int .i64 v23.2.i), .v (.int .i64 v23.2.h)]), (7, .row 3 1 (([0, 60, 61, (-1)] : List Int).map encI))] []], [.new 8], [.new 9, .nm (v25.map encI)], [], []] [.keep [0, 2, 3] [900, 0, 3, 1, 9]] (spec_l3Any_x4 v1 v23 v25)] [.fz 1, .fz 9] [900] [] (And.intro (And.intro (con_sw 900 900 (con_sw 1001 2 (con_sw 1000 1 (spec_l3Draw_ok a0 6 v1 h2)))) (rfl : ([900] : List Nat) = [900])) (And.intro (lenm Leg.enc v1.1.Legs) (And.intro (And.intro (con_sw 900 900 (spec_l1Below_ok v1.2 (v1.1.Legs.length : Int) v3 h4)) (rfl : ([900] : List Nat) = [900])) (And.intro (And.intro (con_sw 900 900 (spec_l1Below_ok v3.2 10 v5 h6)) (rfl : ([900] : List Nat) = [900])) (And.intro h7 (And.intro h12 (And.intro h17 (And.intro h22 (And.intro (And.intro (con_sw 901 7 (con_sw 900 900 (spec_l1Int_ok v5.2 ([0, 60, 61, (-1)] : List Int) v23 h24))) (rfl : ([900, 7] : List Nat) = [900, 7])) (And.intro (ap_ok encI h26) (And.intro (rfl : (spec_l3Any_x4 v1 v23 v25) = (spec_l3Any_x4 v1 v23 v25)) (And.intro (And.intro (con_sw 901 7 (con_sw 900 900 (spec_l1Int_ok v5.2 ([0, 60, 61, (-1)] : List Int) v23 h24))) (rfl : ([900, 7] : List Nat) = [900, 7])) (And.intro (ap_ok encI h26) (And.intro (rfl : (spec_l3Any_x4 v1 v23 v25) = (spec_l3Any_x4 v1 v23 v25)) (And.intro (And.intro (con_sw 901 7 (con_sw 900 900 (spec_l1Int_ok v5.2 ([0, 60, 61, (-1)] : List Int) v23 h24))) (rfl : ([900, 7] : List Nat) = [900, 7])) (And.intro (ap_ok encI h26) (And.intro (rfl : (spec_l3Any_x4 v1 v23 v25) = (spec_l3Any_x4 v1 v23 v25)) (And.intro (ap_ok encI h26) (And.intro (rfl : (spec_l3Any_x4 v1 v23 v25) = (spec_l3Any_x4 v1 v23 v25)) True.intro))))))))))))))))))) (by kernel_rfl)
        · rcases cond_cases hM with ⟨h27, hM⟩ | ⟨h27, hM⟩
          · obtain ⟨v28, h29, hM⟩ := bind_some hM
            have hE : some ((Network.mk v1.1.Legs v1.1.Off v28.1), v28.2) = some r := hM
            have hE := Option.some.inj hE
            subst hE
            exact pr R 9999 [.new 0, .call true [900] (.o (.agg [.sl 1, .sl 2, .v (.int .i64 v1.1.Change)])) [(900, .box 112 [.rs 1 (v1.2.b.map encU8), .v (.int .i64 v1.2.i), .v (.int .i64 v1.2.h)])] [(1, .row 66 6 (v1.1.Legs.map Leg.enc)), (2, .row 3 1 (v1.1.Off.map encI))], .new 3, .ln (v1.1.Legs.length), .call true [900] (.o (.c (.v (.int .i64 v3.1)))) [(900, .box 112 [.rs 1 (v3.2.b.map encU8), .v (.int .i64 v3.2.i), .v (.int .i64 v3.2.h)])] [], .call true [900] (.o (.c (.v (.int .i64 v5.1)))) [(900, .box 112 [.rs 1 (v5.2.b.map encU8), .v (.int .i64 v5.2.i), .v (.int .i64 v5.2.h)])] [], .as 14 false, .as 24 false, .as 34 false, .as 44 false, .as 54 true, .new 10, .ad (.keep [0, 2, 3, 4, 5, 6, 7, 8, 9, 10, 11, 12, 13, 14, 15, 24, 25, 34, 35, 44, 45, 54, 55, 56, 57] [900, 10, 0, 1, 2, 3]), .call true [900, 10] (.o (.c (.v (.int .i64 v28.1)))) [(900, .box 112 [.rs 1 (v28.2.b.map encU8), .v (.int .i64 v28.2.i), .v (.int .i64 v28.2.h)]), (10, .row 3 1 (([(-1), 240, 241] : List Int).map encI))] []] [.fz 1, .fz 2] [900] [] (And.intro (And.intro (con_sw 900 900 (con_sw 1001 2 (con_sw 1000 1 (spec_l3Draw_ok a0 6 v1 h2)))) (rfl : ([900] : List Nat) = [900])) (And.intro (lenm Leg.enc v1.1.Legs) (And.intro (And.intro (con_sw 900 900 (spec_l1Below_ok v1.2 (v1.1.Legs.length : Int) v3 h4)) (rfl : ([900] : List Nat) = [900])) (And.intro (And.intro (con_sw 900 900 (spec_l1Below_ok v3.2 10 v5 h6)) (rfl : ([900] : List Nat) = [900])) (And.intro h7 (And.intro h12 (And.intro h17 (And.intro h22 (And.intro h27 (And.intro (And.intro (con_sw 901 10 (con_sw 900 900 (spec_l1Int_ok v5.2 ([(-1), 240, 241] : List Int) v28 h29))) (rfl : ([900, 10] : List Nat) = [900, 10])) True.intro)))))))))) (by kernel_rfl)
          · rcases cond_cases hM with ⟨h30, hM⟩ | ⟨h30, hM⟩
            · obtain ⟨v31, h32, hM⟩ := bind_some hM
              obtain ⟨v33, h34, hM⟩ := bind_some hM
              have hE : some ((Network.mk (List.set v1.1.Legs (Int.toNat v3.1) (Leg.mk v33.From v31.From v33.Start v33.Takes v33.Days v33.Room)) v1.1.Off v1.1.Change), v5.2) = some r := hM
              have hE := Option.some.inj hE
              subst hE
              exact pr R 9999 [.new 0, .call true [900] (.o (.agg [.sl 1, .sl 2, .v (.int .i64 v1.1.Change)])) [(900, .box 112 [.rs 1 (v1.2.b.map encU8), .v (.int .i64 v1.2.i), .v (.int .i64 v1.2.h)])] [(1, .row 66 6 (v1.1.Legs.map Leg.enc)), (2, .row 3 1 (v1.1.Off.map encI))], .new 3, .ln (v1.1.Legs.length), .call true [900] (.o (.c (.v (.int .i64 v3.1)))) [(900, .box 112 [.rs 1 (v3.2.b.map encU8), .v (.int .i64 v3.2.i), .v (.int .i64 v3.2.h)])] [], .call true [900] (.o (.c (.v (.int .i64 v5.1)))) [(900, .box 112 [.rs 1 (v5.2.b.map encU8), .v (.int .i64 v5.2.i), .v (.int .i64 v5.2.h)])] [], .as 14 false, .as 24 false, .as 34 false, .as 44 false, .as 54 false, .as 60 true, .ix (Leg.enc v31), .ix (Leg.enc v33), .nm ((List.set v1.1.Legs (Int.toNat v3.1) (Leg.mk v33.From v31.From v33.Start v33.Takes v33.Days v33.Room)).map Leg.enc)] [.fz 1, .fz 2] [900] [] (And.intro (And.intro (con_sw 900 900 (con_sw 1001 2 (con_sw 1000 1 (spec_l3Draw_ok a0 6 v1 h2)))) (rfl : ([900] : List Nat) = [900])) (And.intro (lenm Leg.enc v1.1.Legs) (And.intro (And.intro (con_sw 900 900 (spec_l1Below_ok v1.2 (v1.1.Legs.length : Int) v3 h4)) (rfl : ([900] : List Nat) = [900])) (And.intro (And.intro (con_sw 900 900 (spec_l1Below_ok v3.2 10 v5 h6)) (rfl : ([900] : List Nat) = [900])) (And.intro h7 (And.intro h12 (And.intro h17 (And.intro h22 (And.intro h27 (And.intro h30 (And.intro (gi_lt Leg.enc h32) (And.intro ((gi_map Leg.enc h32).2) (And.intro (gi_lt Leg.enc h34) (And.intro (And.intro (gi_map Leg.enc h34).2 (set_map Leg.enc v1.1.Legs (Int.toNat v3.1) (Leg.mk v33.From v31.From v33.Start v33.Takes v33.Days v33.Room))) True.intro)))))))))))))) (by kernel_rfl)
            · rcases cond_cases hM with ⟨h35, hM⟩ | ⟨h35, hM⟩
              · have K1 : ∀ (s37 : (List Leg)), spec_l3Any_L1_a v1 v5 s37 = some r → Gr R [.code (cAt Try.f119 [1, 1, 1, 0, 1, 0, 1, 1, 1, 1, 1, 1, 1, 1, 1, 1, 1, 1, 1, 0, 1]), .blk 0, .code (cAt Try.f119 [1, 1, 1, 1])] (⟨[(0, .o (.c (.ptr 900 0))), (2, .o (.c (.ptr 0 0))), (3, .o (.c (.ptr 3 0)))], [(900, .box 112 [.rs 1 (v5.2.b.map encU8), .v (.int .i64 v5.2.i), .v (.int .i64 v5.2.h)]), (0, .box 32 [.v (.slice none 0 0), .v (.slice none 0 0), .v (.int .i64 0)]), (3, .box 32 [.sl 1, .sl 2, .v (.int .i64 v1.1.Change)]), (1, .row 66 6 (s37.map Leg.enc)), (2, .row 3 1 (v1.1.Off.map encI))]⟩) := by
                  intro s37 hM
                  unfold spec_l3Any_L1_a at hM
                  obtain ⟨v38, h39, hM⟩ := bind_some hM
                  obtain ⟨v40, h41, hM⟩ := bind_some hM
                  have hE : some ((Network.mk v40 v1.1.Off v1.1.Change), v38.2) = some r := hM
                  have hE := Option.some.inj hE
                  subst hE
                  exact pr R 9999 [.xo [[], [], [], [.new 11], [.ad (.keep [0, 2, 3, 89, 90, 91, 92, 93, 94, 95] [900, 11, 0, 3, 1, 2, 4, 5, 6, 7, 8, 9, 10, 12, 13, 14, 15, 16, 17, 18, 19, 20, 21, 22, 23, 24, 25, 26, 27, 28, 29, 30, 31, 32, 33, 34, 35, 36, 37, 38, 39, 40, 41, 42, 43, 44, 45, 46, 47, 48, 49, 50, 51]), .call true [900, 11] (.o (.c (.v (.int .i64 v38.1)))) [(900, .box 112 [.rs 1 (v38.2.b.map encU8), .v (.int .i64 v38.2.i), .v (.int .i64 v38.2.h)]), (11, .row 3 1 (([20, 21] : List Int).map encI))] []], [.ad (.fz 1), .nm (v40.map Leg.enc)], [], []] [.keep [0, 2, 3] [900, 0, 3, 2]] (spec_l3Any_x8 v1 v38 v40)] [.fz 2] [900] [] (And.intro (And.intro (con_sw 901 11 (con_sw 900 900 (spec_l1Int_ok v5.2 ([20, 21] : List Int) v38 h39))) (rfl : ([900, 11] : List Nat) = [900, 11])) (And.intro (slM_ok Leg.enc h41) (And.intro (rfl : (spec_l3Any_x8 v1 v38 v40) = (spec_l3Any_x8 v1 v38 v40)) (And.intro (And.intro (con_sw 901 11 (con_sw 900 900 (spec_l1Int_ok v5.2 ([20, 21] : List Int) v38 h39))) (rfl : ([900, 11] : List Nat) = [900, 11])) (And.intro (slM_ok Leg.enc h41) (And.intro (rfl : (spec_l3Any_x8 v1 v38 v40) = (spec_l3Any_x8 v1 v38 v40)) (And.intro (And.intro (con_sw 901 11 (con_sw 900 900 (spec_l1Int_ok v5.2 ([20, 21] : List Int) v38 h39))) (rfl : ([900, 11] : List Nat) = [900, 11])) (And.intro (slM_ok Leg.enc h41) (And.intro (rfl : (spec_l3Any_x8 v1 v38 v40) = (spec_l3Any_x8 v1 v38 v40)) True.intro))))))))) (by kernel_rfl)
                refine pc R 9999 [.new 0, .call true [900] (.o (.agg [.sl 1, .sl 2, .v (.int .i64 v1.1.Change)])) [(900, .box 112 [.rs 1 (v1.2.b.map encU8), .v (.int .i64 v1.2.i), .v (.int .i64 v1.2.h)])] [(1, .row 66 6 (v1.1.Legs.map Leg.enc)), (2, .row 3 1 (v1.1.Off.map encI))], .new 3, .ln (v1.1.Legs.length), .call true [900] (.o (.c (.v (.int .i64 v3.1)))) [(900, .box 112 [.rs 1 (v3.2.b.map encU8), .v (.int .i64 v3.2.i), .v (.int .i64 v3.2.h)])] [], .call true [900] (.o (.c (.v (.int .i64 v5.1)))) [(900, .box 112 [.rs 1 (v5.2.b.map encU8), .v (.int .i64 v5.2.i), .v (.int .i64 v5.2.h)])] [], .as 14 false, .as 24 false, .as 34 false, .as 44 false, .as 54 false, .as 60 false, .as 73 true] [.keep [0, 2, 3, 4] [900, 0, 3, 1, 2]] (k' := [.code (.loop (cAt Try.f119 [1, 1, 1, 0, 1, 0, 1, 1, 1, 1, 1, 1, 1, 1, 1, 1, 1, 1, 1, 0, 0, 0, 0])), .blk 1, .code (cAt Try.f119 [1, 1, 1, 0, 1, 0, 1, 1, 1, 1, 1, 1, 1, 1, 1, 1, 1, 1, 1, 0, 1]), .blk 0, .code (cAt Try.f119 [1, 1, 1, 1])]) (S' := spec_l3Any_L1_S v1 v3 v5 v1.1.Legs) (And.intro (And.intro (con_sw 900 900 (con_sw 1001 2 (con_sw 1000 1 (spec_l3Draw_ok a0 6 v1 h2)))) (rfl : ([900] : List Nat) = [900])) (And.intro (lenm Leg.enc v1.1.Legs) (And.intro (And.intro (con_sw 900 900 (spec_l1Below_ok v1.2 (v1.1.Legs.length : Int) v3 h4)) (rfl : ([900] : List Nat) = [900])) (And.intro (And.intro (con_sw 900 900 (spec_l1Below_ok v3.2 10 v5 h6)) (rfl : ([900] : List Nat) = [900])) (And.intro h7 (And.intro h12 (And.intro h17 (And.intro h22 (And.intro h27 (And.intro h30 (And.intro h35 True.intro))))))))))) (by kernel_rfl) ?_
                refine lq (spec_l3Any_L1_S v1 v3 v5) (body := spec_l3Any_L1 v3) (k := spec_l3Any_L1_k v1 v5) hM fun m1 s c1 hM hK1 => ?_
                obtain ⟨s36, hs⟩ : ∃ z, z = s := ⟨_, rfl⟩
                subst hs
                have hM : spec_l3Any_L1_b v3 s36 = some c1 := hM
                unfold spec_l3Any_L1_b at hM
                rcases cond_cases hM with ⟨h42, hM⟩ | ⟨h42, hM⟩
                · obtain ⟨v43, h44, hM⟩ := bind_some hM
                  obtain ⟨v45, h46, hM⟩ := bind_some hM
                  have hE : some (Ctl.next v45) = some c1 := hM
                  have hE := Option.some.inj hE
                  subst hE
                  exact pc R 9999 [.ln (s36.length), .as 78 true, .xo [[], [], [], [], [], [], [.ix (Leg.enc v43)], [.new 12], [.new 13, .nm (v45.map Leg.enc)], [], []] [.keep [0, 2, 3, 4] [900, 0, 3, 13, 2]] (spec_l3Any_x9 v1 v3 v5 v45)] [.sw 13 1, .keep [0, 2, 3, 4] [900, 0, 3, 1, 2]] (And.intro (lenm Leg.enc s36) (And.intro h42 (And.intro (gi_lt Leg.enc h44) (And.intro ((gi_map Leg.enc h44).2) (And.intro (ap_ok Leg.enc h46) (And.intro (rfl : (spec_l3Any_x9 v1 v3 v5 v45) = (spec_l3Any_x9 v1 v3 v5 v45)) (And.intro (gi_lt Leg.enc h44) (And.intro ((gi_map Leg.enc h44).2) (And.intro (ap_ok Leg.enc h46) (And.intro (rfl : (spec_l3Any_x9 v1 v3 v5 v45) = (spec_l3Any_x9 v1 v3 v5 v45)) (And.intro ((gi_map Leg.enc h44).2) (And.intro (ap_ok Leg.enc h46) (And.intro (rfl : (spec_l3Any_x9 v1 v3 v5 v45) = (spec_l3Any_x9 v1 v3 v5 v45)) (And.intro (ap_ok Leg.enc h46) (And.intro (rfl : (spec_l3Any_x9 v1 v3 v5 v45) = (spec_l3Any_x9 v1 v3 v5 v45)) True.intro))))))))))))))) (by kernel_rfl) (li (Sf := spec_l3Any_L1_S v1 v3 v5) (M := Mk (spec_l3Any_L1 v3) (spec_l3Any_L1_k v1 v5) r) (k := [.blk 1, .code (cAt Try.f119 [1, 1, 1, 0, 1, 0, 1, 1, 1, 1, 1, 1, 1, 1, 1, 1, 1, 1, 1, 0, 1]), .blk 0, .code (cAt Try.f119 [1, 1, 1, 1])]) (Nat.lt_succ_self m1) hK1)
                · have hE : some (Ctl.brk s36) = some c1 := hM
                  have hE := Option.some.inj hE
                  subst hE
                  exact pc R 5 [.ln (s36.length), .as 78 false] [.keep [0, 2, 3] [900, 0, 3, 1, 2]] (And.intro (lenm Leg.enc s36) (And.intro h42 True.intro)) (by kernel_rfl) (K1 s36 hK1)
              · have hE : some ((Network.mk v1.1.Legs v1.1.Off v1.1.Change), v5.2) = some r := hM
                have hE := Option.some.inj hE
                subst hE
                exact pr R 9999 [.new 0, .call true [900] (.o (.agg [.sl 1, .sl 2, .v (.int .i64 v1.1.Change)])) [(900, .box 112 [.rs 1 (v1.2.b.map encU8), .v (.int .i64 v1.2.i), .v (.int .i64 v1.2.h)])] [(1, .row 66 6 (v1.1.Legs.map Leg.enc)), (2, .row 3 1 (v1.1.Off.map encI))], .new 3, .ln (v1.1.Legs.length), .call true [900] (.o (.c (.v (.int .i64 v3.1)))) [(900, .box 112 [.rs 1 (v3.2.b.map encU8), .v (.int .i64 v3.2.i), .v (.int .i64 v3.2.h)])] [], .call true [900] (.o (.c (.v (.int .i64 v5.1)))) [(900, .box 112 [.rs 1 (v5.2.b.map encU8), .v (.int .i64 v5.2.i), .v (.int .i64 v5.2.h)])] [], .as 14 false, .as 24 false, .as 34 false, .as 44 false, .as 54 false, .as 60 false, .as 73 false] [.fz 1, .fz 2] [900] [] (And.intro (And.intro (con_sw 900 900 (con_sw 1001 2 (con_sw 1000 1 (spec_l3Draw_ok a0 6 v1 h2)))) (rfl : ([900] : List Nat) = [900])) (And.intro (lenm Leg.enc v1.1.Legs) (And.intro (And.intro (con_sw 900 900 (spec_l1Below_ok v1.2 (v1.1.Legs.length : Int) v3 h4)) (rfl : ([900] : List Nat) = [900])) (And.intro (And.intro (con_sw 900 900 (spec_l1Below_ok v3.2 10 v5 h6)) (rfl : ([900] : List Nat) = [900])) (And.intro h7 (And.intro h12 (And.intro h17 (And.intro h22 (And.intro h27 (And.intro h30 (And.intro h35 True.intro))))))))))) (by kernel_rfl)

-- loop.example/g03014/spec.l4Net
def spec_l4Net (a0 : l1Cur) : Option (Network × l1Cur) :=
  (spec_l1Once a0 9).bind fun v1 =>
  bif v1.1 then
  (spec_l3Any v1.2).bind fun v4 =>
  some ((Network.mk v4.1.Legs v4.1.Off v4.1.Change), v4.2)
  else
  (spec_l3Draw v1.2 9).bind fun v6 =>
  some ((Network.mk v6.1.Legs v6.1.Off v6.1.Change), v6.2)
theorem spec_l4Net_ok (a0 : l1Cur) (r : Network × l1Cur) (hM : spec_l4Net a0 = some r) :
    Con Try.prog 101 [.c (.ptr 900 0)] [(900, .box 112 [.rs 1 (a0.b.map encU8), .v (.int .i64 a0.i), .v (.int .i64 a0.h)])] (.o (.agg [.rs 6 (r.1.Legs.map Leg.enc), .rs 1 (r.1.Off.map encI), .v (.int .i64 r.1.Change)])) [(900, .box 112 [.rs 1 (r.2.b.map encU8), .v (.int .i64 r.2.i), .v (.int .i64 r.2.h)])] [] := by
  unfold spec_l4Net at hM
  refine cn (N := 9) (pids := [900]) Try_mixed Try.func101 (by kernel_rfl) (by kernel_rfl) (by kernel_rfl) rfl fun ρ g w R => ?_
  obtain ⟨v1, h2, hM⟩ := bind_some hM
  rcases cond_cases hM with ⟨h3, hM⟩ | ⟨h3, hM⟩
  · obtain ⟨v4, h5, hM⟩ := bind_some hM
    have hE : some ((Network.mk v4.1.Legs v4.1.Off v4.1.Change), v4.2) = some r := hM
    have hE := Option.some.inj hE
    subst hE
    exact pr R 9999 [.new 0, .call true [900] (.o (.c (.v (.bool v1.1)))) [(900, .box 112 [.rs 1 (v1.2.b.map encU8), .v (.int .i64 v1.2.i), .v (.int .i64 v1.2.h)])] [], .as 4 true, .call true [900] (.o (.agg [.rs 6 (v4.1.Legs.map Leg.enc), .rs 1 (v4.1.Off.map encI), .v (.int .i64 v4.1.Change)])) [(900, .box 112 [.rs 1 (v4.2.b.map encU8), .v (.int .i64 v4.2.i), .v (.int .i64 v4.2.h)])] []] [] [900] [] (And.intro (And.intro (con_sw 900 900 (spec_l1Once_ok a0 9 v1 h2)) (rfl : ([900] : List Nat) = [900])) (And.intro h3 (And.intro (And.intro (con_sw 900 900 (spec_l3Any_ok v1.2 v4 h5)) (rfl : ([900] : List Nat) = [900])) True.intro))) (by kernel_rfl)
  · obtain ⟨v6, h7, hM⟩ := bind_some hM
    have hE : some ((Network.mk v6.1.Legs v6.1.Off v6.1.Change), v6.2) = some r := hM
    have hE := Option.some.inj hE
    subst hE
    exact pr R 9999 [.new 0, .call true [900] (.o (.c (.v (.bool v1.1)))) [(900, .box 112 [.rs 1 (v1.2.b.map encU8), .v (.int .i64 v1.2.i), .v (.int .i64 v1.2.h)])] [], .as 4 false, .call true [900] (.o (.agg [.sl 1, .sl 2, .v (.int .i64 v6.1.Change)])) [(900, .box 112 [.rs 1 (v6.2.b.map encU8), .v (.int .i64 v6.2.i), .v (.int .i64 v6.2.h)])] [(1, .row 66 6 (v6.1.Legs.map Leg.enc)), (2, .row 3 1 (v6.1.Off.map encI))]] [.fz 1, .fz 2] [900] [] (And.intro (And.intro (con_sw 900 900 (spec_l1Once_ok a0 9 v1 h2)) (rfl : ([900] : List Nat) = [900])) (And.intro h3 (And.intro (And.intro (con_sw 900 900 (con_sw 1001 2 (con_sw 1000 1 (spec_l3Draw_ok v1.2 9 v6 h7)))) (rfl : ([900] : List Nat) = [900])) True.intro))) (by kernel_rfl)
end Go.Sx
