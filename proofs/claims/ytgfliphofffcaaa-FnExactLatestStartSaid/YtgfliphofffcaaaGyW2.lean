/- The functions of the program as plain Lean, and that each runs so (printed by wip/gen). -/
import Derived.Test.YtgfliphofffcaaaGyW1
namespace Go.Sx
open Go.Proofs
set_option linter.unusedVariables false

-- loop.example/g03014/impl.arrivals
def impl_arrivals_at1fn105_x16 (a0 : Network) (a1 : (Network)) (a4 : Int) (v1 : (List ByteArray)) (v3 : Int) (s13 : (List Int)) (s14 : Int) (s19 : (List Int)) (s20 : Bool) (s21 : Int) (v30 : Int) (v39 : (Trip × Bool)) : St := ⟨[(1, .o (.c (.fn 105 [901]))), (4, .o (.c (.v (.int .i64 a4)))), (5, .o (.c (.ptr 0 0))), (11, .o (.c (.sl 1))), (12, .o (.c (.v (.int .i64 v3)))), (13, .o (.c (.sl 2))), (14, .o (.c (.v (.int .i64 s14)))), (15, .o (.c (.sl 4))), (16, .o (.c (.v (.bool s20)))), (20, .o (.c (.v (.int .i64 v30)))), (21, .o (.c (.ptr 6 0))), (22, .o (.c (.v (.bool v39.2)))), (61, .o (.c (.rs 6 (a0.Legs.map Leg.enc)))), (62, .o (.c (.v (.int .i64 (a0.Legs.length : Int))))), (63, .o (.c (.v (.int .i64 s21))))], [(901, .box 32 [.rs 6 (a1.Legs.map Leg.enc), .rs 1 (a1.Off.map encI), .v (.int .i64 a1.Change)]), (0, .box 32 [.rs 6 (a0.Legs.map Leg.enc), .rs 1 (a0.Off.map encI), .v (.int .i64 a0.Change)]), (1, .row 9 1 (v1.map encS)), (2, .row 3 1 (s13.map encI)), (4, .row 3 1 (s19.map encI)), (6, .box 74 [.v (.int .i64 v39.1.Leg), .v (.int .i64 v39.1.Day)])]⟩
def impl_arrivals_at1fn105_L3_b (a0 : Network) (a1 : (Network)) (v1 : (List ByteArray)) (v3 : Int) (s13 : (List Int)) (s19 : (List Int)) (s20 : Bool) (s21 : Int) : Option (Ctl ((List Int) × Bool × Int) ((List Int) × Bool) (List Int)) :=
  bif (decide (s21 < (a0.Legs.length : Int))) then
  (gi a0.Legs s21).bind fun v26 =>
  (impl_placeAt v1 v26.From).bind fun v28 =>
  (impl_placeAt v1 v26.To).bind fun v30 =>
  (gi s13 v28).bind fun v32 =>
  bif (decide (v32 < 0)) then
  some (.next (s19, s20, w64 (s21 + 1)))
  else
  (gi s13 v28).bind fun v35 =>
  (impl_readyAt a0 v35 (v28 == v3)).bind fun v37 =>
  (impl_nextOf_c1 s21 v37 a1).bind fun v39 =>
  bif v39.2 then
  (gi s19 v30).bind fun v42 =>
  bif (decide (v42 < 0)) then
  (impl_ends a0 v39.1).bind fun v45 =>
  (gi s19 v30).bind fun v47 =>
  some (.next (List.set s19 (Int.toNat v30) v45, true, w64 (s21 + 1)))
  else
  (impl_ends a0 v39.1).bind fun v49 =>
  (gi s19 v30).bind fun v51 =>
  bif (decide (v49 < v51)) then
  (impl_ends a0 v39.1).bind fun v54 =>
  (gi s19 v30).bind fun v56 =>
  some (.next (List.set s19 (Int.toNat v30) v54, true, w64 (s21 + 1)))
  else
  some (.next (s19, s20, w64 (s21 + 1)))
  else
  some (.next (s19, s20, w64 (s21 + 1)))
  else
  some (.brk (s19, s20))
def impl_arrivals_at1fn105_L3 (a0 : Network) (a1 : (Network)) (v1 : (List ByteArray)) (v3 : Int) (s13 : (List Int)) (s : (List Int) × Bool × Int) : Option (Ctl ((List Int) × Bool × Int) ((List Int) × Bool) (List Int)) := impl_arrivals_at1fn105_L3_b a0 a1 v1 v3 s13 s.1 s.2.1 s.2.2
def impl_arrivals_at1fn105_L3_s (a0 : Network) (a1 : (Network)) (a4 : Int) (v1 : (List ByteArray)) (v3 : Int) (s13 : (List Int)) (s14 : Int) (s19 : (List Int)) (s20 : Bool) (s21 : Int) : St := ⟨[(1, .o (.c (.fn 105 [901]))), (4, .o (.c (.v (.int .i64 a4)))), (5, .o (.c (.ptr 0 0))), (11, .o (.c (.sl 1))), (12, .o (.c (.v (.int .i64 v3)))), (13, .o (.c (.sl 2))), (14, .o (.c (.v (.int .i64 s14)))), (15, .o (.c (.sl 4))), (16, .o (.c (.v (.bool s20)))), (61, .o (.c (.rs 6 (a0.Legs.map Leg.enc)))), (62, .o (.c (.v (.int .i64 (a0.Legs.length : Int))))), (63, .o (.c (.v (.int .i64 s21))))], [(901, .box 32 [.rs 6 (a1.Legs.map Leg.enc), .rs 1 (a1.Off.map encI), .v (.int .i64 a1.Change)]), (0, .box 32 [.rs 6 (a0.Legs.map Leg.enc), .rs 1 (a0.Off.map encI), .v (.int .i64 a0.Change)]), (1, .row 9 1 (v1.map encS)), (2, .row 3 1 (s13.map encI)), (4, .row 3 1 (s19.map encI))]⟩
def impl_arrivals_at1fn105_L3_S (a0 : Network) (a1 : (Network)) (a4 : Int) (v1 : (List ByteArray)) (v3 : Int) (s13 : (List Int)) (s14 : Int) (s : (List Int) × Bool × Int) : St := impl_arrivals_at1fn105_L3_s a0 a1 a4 v1 v3 s13 s14 s.1 s.2.1 s.2.2
def impl_arrivals_at1fn105_L3_a (s14 : Int) (s22 : (List Int)) (s23 : Bool) : Option (Ctl ((List Int) × Int) (List Int) (List Int)) :=
  bif (!s23) then
  some (.brk s22)
  else
  some (.next (s22, w64 (s14 + 1)))
def impl_arrivals_at1fn105_L3_k (s14 : Int) (x : ((List Int) × Bool) ⊕ ((List Int))) : Option (Ctl ((List Int) × Int) (List Int) (List Int)) := match x with
  | .inl t => impl_arrivals_at1fn105_L3_a s14 t.1 t.2
  | .inr y => some (.ret y)
def impl_arrivals_at1fn105_L2_b (a0 : Network) (a1 : (Network)) (a4 : Int) (v1 : (List ByteArray)) (v3 : Int) (s13 : (List Int)) (s14 : Int) : Option (Ctl ((List Int) × Int) (List Int) (List Int)) :=
  bif (decide (s14 < a4)) then
  (ap 8 ([] : List Int) s13).bind fun v17 =>
  (loopM (impl_arrivals_at1fn105_L3 a0 a1 v1 v3 s13) big (v17, false, 0)).bind (impl_arrivals_at1fn105_L3_k s14)
  else
  some (.brk s13)
def impl_arrivals_at1fn105_L2 (a0 : Network) (a1 : (Network)) (a4 : Int) (v1 : (List ByteArray)) (v3 : Int) (s : (List Int) × Int) : Option (Ctl ((List Int) × Int) (List Int) (List Int)) := impl_arrivals_at1fn105_L2_b a0 a1 a4 v1 v3 s.1 s.2
def impl_arrivals_at1fn105_L2_s (a0 : Network) (a1 : (Network)) (a4 : Int) (v1 : (List ByteArray)) (v3 : Int) (s13 : (List Int)) (s14 : Int) : St := ⟨[(1, .o (.c (.fn 105 [901]))), (4, .o (.c (.v (.int .i64 a4)))), (5, .o (.c (.ptr 0 0))), (11, .o (.c (.sl 1))), (12, .o (.c (.v (.int .i64 v3)))), (13, .o (.c (.sl 2))), (14, .o (.c (.v (.int .i64 s14))))], [(901, .box 32 [.rs 6 (a1.Legs.map Leg.enc), .rs 1 (a1.Off.map encI), .v (.int .i64 a1.Change)]), (0, .box 32 [.rs 6 (a0.Legs.map Leg.enc), .rs 1 (a0.Off.map encI), .v (.int .i64 a0.Change)]), (1, .row 9 1 (v1.map encS)), (2, .row 3 1 (s13.map encI))]⟩
def impl_arrivals_at1fn105_L2_S (a0 : Network) (a1 : (Network)) (a4 : Int) (v1 : (List ByteArray)) (v3 : Int) (s : (List Int) × Int) : St := impl_arrivals_at1fn105_L2_s a0 a1 a4 v1 v3 s.1 s.2
def impl_arrivals_at1fn105_L2_a (s15 : (List Int)) : Option (List Int) :=
  some s15
def impl_arrivals_at1fn105_L2_k (x : ((List Int)) ⊕ ((List Int))) : Option (List Int) := match x with
  | .inl t => impl_arrivals_at1fn105_L2_a t
  | .inr y => some y
def impl_arrivals_at1fn105_L1_b (v1 : (List ByteArray)) (s8 : (List Int)) (s9 : Int) : Option (Ctl ((List Int) × Int) (List Int) (List Int)) :=
  bif (decide (s9 < (v1.length : Int))) then
  (ap 8 s8 ([(-1)] : List Int)).bind fun v59 =>
  some (.next (v59, w64 (s9 + 1)))
  else
  some (.brk s8)
def impl_arrivals_at1fn105_L1 (v1 : (List ByteArray)) (s : (List Int) × Int) : Option (Ctl ((List Int) × Int) (List Int) (List Int)) := impl_arrivals_at1fn105_L1_b v1 s.1 s.2
def impl_arrivals_at1fn105_L1_s (a0 : Network) (a1 : (Network)) (a3 : Int) (a4 : Int) (v1 : (List ByteArray)) (v3 : Int) (s8 : (List Int)) (s9 : Int) : St := ⟨[(1, .o (.c (.fn 105 [901]))), (3, .o (.c (.v (.int .i64 a3)))), (4, .o (.c (.v (.int .i64 a4)))), (5, .o (.c (.ptr 0 0))), (11, .o (.c (.sl 1))), (12, .o (.c (.v (.int .i64 v3)))), (13, .o (.c (.sl 2))), (40, .o (.c (.v (.int .i64 (v1.length : Int))))), (41, .o (.c (.v (.int .i64 s9))))], [(901, .box 32 [.rs 6 (a1.Legs.map Leg.enc), .rs 1 (a1.Off.map encI), .v (.int .i64 a1.Change)]), (0, .box 32 [.rs 6 (a0.Legs.map Leg.enc), .rs 1 (a0.Off.map encI), .v (.int .i64 a0.Change)]), (1, .row 9 1 (v1.map encS)), (2, .row 3 1 (s8.map encI))]⟩
def impl_arrivals_at1fn105_L1_S (a0 : Network) (a1 : (Network)) (a3 : Int) (a4 : Int) (v1 : (List ByteArray)) (v3 : Int) (s : (List Int) × Int) : St := impl_arrivals_at1fn105_L1_s a0 a1 a3 a4 v1 v3 s.1 s.2
def impl_arrivals_at1fn105_L1_a (a0 : Network) (a1 : (Network)) (a3 : Int) (a4 : Int) (v1 : (List ByteArray)) (v3 : Int) (s10 : (List Int)) : Option (List Int) :=
  (gi s10 v3).bind fun v11 =>
  (loopM (impl_arrivals_at1fn105_L2 a0 a1 a4 v1 v3) big (List.set s10 (Int.toNat v3) (if 0 > a3 then 0 else a3), 0)).bind (impl_arrivals_at1fn105_L2_k)
def impl_arrivals_at1fn105_L1_k (a0 : Network) (a1 : (Network)) (a3 : Int) (a4 : Int) (v1 : (List ByteArray)) (v3 : Int) (x : ((List Int)) ⊕ ((List Int))) : Option (List Int) := match x with
  | .inl t => impl_arrivals_at1fn105_L1_a a0 a1 a3 a4 v1 v3 t
  | .inr y => some y
def impl_arrivals_at1fn105 (a0 : Network) (a1 : (Network)) (a2 : ByteArray) (a3 : Int) (a4 : Int) : Option (List Int) :=
  (impl_PlacesOf a0).bind fun v1 =>
  (impl_placeAt v1 a2).bind fun v3 =>
  bif (decide (v3 < 0)) then
  some ([] : List Int)
  else
  bif (decide (a3 > 100000)) then
  some ([] : List Int)
  else
  bif (decide (a4 < 0)) then
  some ([] : List Int)
  else
  (loopM (impl_arrivals_at1fn105_L1 v1) big (([] : List Int), 0)).bind (impl_arrivals_at1fn105_L1_k a0 a1 a3 a4 v1 v3)
theorem impl_arrivals_at1fn105_ok (a0 : Network) (a1 : (Network)) (a2 : ByteArray) (a3 : Int) (a4 : Int) (r : (List Int)) (hM : impl_arrivals_at1fn105 a0 a1 a2 a3 a4 = some r) :
    Con Try.prog 96 [.agg [.rs 6 (a0.Legs.map Leg.enc), .rs 1 (a0.Off.map encI), .v (.int .i64 a0.Change)], .c (.fn 105 [901]), .c (.v (.string a2)), .c (.v (.int .i64 a3)), .c (.v (.int .i64 a4))] [(901, .box 32 [.rs 6 (a1.Legs.map Leg.enc), .rs 1 (a1.Off.map encI), .v (.int .i64 a1.Change)])] (.o (.c (.sl 1000))) [(901, .box 32 [.rs 6 (a1.Legs.map Leg.enc), .rs 1 (a1.Off.map encI), .v (.int .i64 a1.Change)])] [(1000, .row 3 1 (r.map encI))] := by
  unfold impl_arrivals_at1fn105 at hM
  refine cn (N := 125) (pids := [901]) Try_mixed Try.func96 (by kernel_rfl) (by kernel_rfl) (by kernel_rfl) rfl fun ρ g w R => ?_
  obtain ⟨v1, h2, hM⟩ := bind_some hM
  obtain ⟨v3, h4, hM⟩ := bind_some hM
  rcases cond_cases hM with ⟨h5, hM⟩ | ⟨h5, hM⟩
  · have hE : some ([] : List Int) = some r := hM
    have hE := Option.some.inj hE
    subst hE
    exact pr R 9999 [.new 0, .call false [] (.o (.c (.sl 1))) [] [(1, .row 9 1 (v1.map encS))], .call false [] (.o (.c (.v (.int .i64 v3)))) [] [], .as 30 true] [.nl 10 1000 3 1] [901] [1000] (And.intro (And.intro (con_sw 1000 1 (impl_PlacesOf_ok a0 v1 h2)) (rfl : ([] : List Nat) = [])) (And.intro (impl_placeAt_ok v1 a2 v3 h4) (And.intro h5 True.intro))) (by kernel_rfl)
  · rcases cond_cases hM with ⟨h6, hM⟩ | ⟨h6, hM⟩
    · have hE : some ([] : List Int) = some r := hM
      have hE := Option.some.inj hE
      subst hE
      exact pr R 9999 [.new 0, .call false [] (.o (.c (.sl 1))) [] [(1, .row 9 1 (v1.map encS))], .call false [] (.o (.c (.v (.int .i64 v3)))) [] [], .as 30 false, .as 34 true] [.nl 10 1000 3 1] [901] [1000] (And.intro (And.intro (con_sw 1000 1 (impl_PlacesOf_ok a0 v1 h2)) (rfl : ([] : List Nat) = [])) (And.intro (impl_placeAt_ok v1 a2 v3 h4) (And.intro h5 (And.intro h6 True.intro)))) (by kernel_rfl)
    · rcases cond_cases hM with ⟨h7, hM⟩ | ⟨h7, hM⟩
      · have hE : some ([] : List Int) = some r := hM
        have hE := Option.some.inj hE
        subst hE
        exact pr R 9999 [.new 0, .call false [] (.o (.c (.sl 1))) [] [(1, .row 9 1 (v1.map encS))], .call false [] (.o (.c (.v (.int .i64 v3)))) [] [], .as 30 false, .as 34 false, .as 37 true] [.nl 10 1000 3 1] [901] [1000] (And.intro (And.intro (con_sw 1000 1 (impl_PlacesOf_ok a0 v1 h2)) (rfl : ([] : List Nat) = [])) (And.intro (impl_placeAt_ok v1 a2 v3 h4) (And.intro h5 (And.intro h6 (And.intro h7 True.intro))))) (by kernel_rfl)
      · have K1 : ∀ (s10 : (List Int)), impl_arrivals_at1fn105_L1_a a0 a1 a3 a4 v1 v3 s10 = some r → Gr R [.code (cAt Try.f96 [1, 1, 1, 1, 1, 1])] (⟨[(1, .o (.c (.fn 105 [901]))), (3, .o (.c (.v (.int .i64 a3)))), (4, .o (.c (.v (.int .i64 a4)))), (5, .o (.c (.ptr 0 0))), (11, .o (.c (.sl 1))), (12, .o (.c (.v (.int .i64 v3)))), (13, .o (.c (.sl 2)))], [(901, .box 32 [.rs 6 (a1.Legs.map Leg.enc), .rs 1 (a1.Off.map encI), .v (.int .i64 a1.Change)]), (0, .box 32 [.rs 6 (a0.Legs.map Leg.enc), .rs 1 (a0.Off.map encI), .v (.int .i64 a0.Change)]), (1, .row 9 1 (v1.map encS)), (2, .row 3 1 (s10.map encI))]⟩) := by
          intro s10 hM
          unfold impl_arrivals_at1fn105_L1_a at hM
          obtain ⟨v11, h12, hM⟩ := bind_some hM
          have K2 : ∀ (s15 : (List Int)), impl_arrivals_at1fn105_L2_a s15 = some r → Gr R [.code (cAt Try.f96 [1, 1, 1, 1, 1, 1, 1, 1])] (⟨[(1, .o (.c (.fn 105 [901]))), (13, .o (.c (.sl 4)))], [(901, .box 32 [.rs 6 (a1.Legs.map Leg.enc), .rs 1 (a1.Off.map encI), .v (.int .i64 a1.Change)]), (4, .row 3 1 (s15.map encI))]⟩) := by
            intro s15 hM
            unfold impl_arrivals_at1fn105_L2_a at hM
            have hE : some s15 = some r := hM
            have hE := Option.some.inj hE
            subst hE
            exact pr R 9999 [] [.sw 4 1000] [901] [1000] True.intro (by kernel_rfl)
          refine pc R 9999 [.ix (encI v11), .nm ((List.set s10 (Int.toNat v3) (if 0 > a3 then 0 else a3)).map encI)] [.keep [1, 4, 5, 11, 12, 13, 14] [901, 0, 1, 2]] (k' := [.code (.loop (cAt Try.f96 [1, 1, 1, 1, 1, 1, 1, 0, 1, 0, 0])), .blk 2, .code (cAt Try.f96 [1, 1, 1, 1, 1, 1, 1, 1])]) (S' := impl_arrivals_at1fn105_L2_S a0 a1 a4 v1 v3 (List.set s10 (Int.toNat v3) (if 0 > a3 then 0 else a3), 0)) (And.intro (gi_lt encI h12) (And.intro (And.intro (gi_map encI h12).2 (set_map encI s10 (Int.toNat v3) (if 0 > a3 then 0 else a3))) True.intro)) (by kernel_rfl) ?_
          refine lq (impl_arrivals_at1fn105_L2_S a0 a1 a4 v1 v3) (body := impl_arrivals_at1fn105_L2 a0 a1 a4 v1 v3) (k := impl_arrivals_at1fn105_L2_k) hM fun m2 s c2 hM hK2 => ?_
          obtain ⟨s13, s14⟩ := s
          have hM : impl_arrivals_at1fn105_L2_b a0 a1 a4 v1 v3 s13 s14 = some c2 := hM
          unfold impl_arrivals_at1fn105_L2_b at hM
          rcases cond_cases hM with ⟨h16, hM⟩ | ⟨h16, hM⟩
          · obtain ⟨v17, h18, hM⟩ := bind_some hM
            have K3 : ∀ (s22 : (List Int)) (s23 : Bool), impl_arrivals_at1fn105_L3_a s14 s22 s23 = some c2 → Gr R [.code (cAt Try.f96 [1, 1, 1, 1, 1, 1, 1, 0, 1, 0, 0, 1, 0, 0, 1, 1, 1]), .blk 3, .code (cAt Try.f96 [1, 1, 1, 1, 1, 1, 1, 0, 1, 0, 0, 1, 1]), .inv (Jr R (impl_arrivals_at1fn105_L2_S a0 a1 a4 v1 v3) (Mk (impl_arrivals_at1fn105_L2 a0 a1 a4 v1 v3) (impl_arrivals_at1fn105_L2_k) r) (m2 + 1)), .blk 2, .code (cAt Try.f96 [1, 1, 1, 1, 1, 1, 1, 1])] (⟨[(1, .o (.c (.fn 105 [901]))), (4, .o (.c (.v (.int .i64 a4)))), (5, .o (.c (.ptr 0 0))), (11, .o (.c (.sl 1))), (12, .o (.c (.v (.int .i64 v3)))), (14, .o (.c (.v (.int .i64 s14)))), (15, .o (.c (.sl 4))), (16, .o (.c (.v (.bool s23))))], [(901, .box 32 [.rs 6 (a1.Legs.map Leg.enc), .rs 1 (a1.Off.map encI), .v (.int .i64 a1.Change)]), (0, .box 32 [.rs 6 (a0.Legs.map Leg.enc), .rs 1 (a0.Off.map encI), .v (.int .i64 a0.Change)]), (1, .row 9 1 (v1.map encS)), (4, .row 3 1 (s22.map encI))]⟩) := by
              intro s22 s23 hM
              unfold impl_arrivals_at1fn105_L3_a at hM
              rcases cond_cases hM with ⟨h24, hM⟩ | ⟨h24, hM⟩
              · have hE : some (Ctl.brk s22) = some c2 := hM
                have hE := Option.some.inj hE
                subst hE
                exact pc R 6 [.as 123 true] [.keep [1, 13] [901, 4]] (And.intro h24 True.intro) (by kernel_rfl) (K2 s22 hK2)
              · have hE : some (Ctl.next (s22, w64 (s14 + 1))) = some c2 := hM
                have hE := Option.some.inj hE
                subst hE
                exact pc R 9999 [.as 123 false] [.sw 4 2, .keep [1, 4, 5, 11, 12, 13, 14] [901, 0, 1, 2]] (And.intro h24 True.intro) (by kernel_rfl) (li (Sf := impl_arrivals_at1fn105_L2_S a0 a1 a4 v1 v3) (M := Mk (impl_arrivals_at1fn105_L2 a0 a1 a4 v1 v3) (impl_arrivals_at1fn105_L2_k) r) (k := [.blk 2, .code (cAt Try.f96 [1, 1, 1, 1, 1, 1, 1, 1])]) (Nat.lt_succ_self m2) hK2)
            refine pc R 9999 [.as 54 true, .new 3, .new 4, .nm (v17.map encI), .ln (a0.Legs.length)] [.keep [1, 4, 5, 11, 12, 13, 14, 15, 16, 61, 62, 63] [901, 0, 1, 2, 4]] (k' := [.code (.loop (cAt Try.f96 [1, 1, 1, 1, 1, 1, 1, 0, 1, 0, 0, 1, 0, 0, 1, 1, 0, 1, 0, 0])), .blk 4, .code (cAt Try.f96 [1, 1, 1, 1, 1, 1, 1, 0, 1, 0, 0, 1, 0, 0, 1, 1, 1]), .blk 3, .code (cAt Try.f96 [1, 1, 1, 1, 1, 1, 1, 0, 1, 0, 0, 1, 1]), .inv (Jr R (impl_arrivals_at1fn105_L2_S a0 a1 a4 v1 v3) (Mk (impl_arrivals_at1fn105_L2 a0 a1 a4 v1 v3) (impl_arrivals_at1fn105_L2_k) r) (m2 + 1)), .blk 2, .code (cAt Try.f96 [1, 1, 1, 1, 1, 1, 1, 1])]) (S' := impl_arrivals_at1fn105_L3_S a0 a1 a4 v1 v3 s13 s14 (v17, false, 0)) (And.intro h16 (And.intro (ap_ok encI h18) (And.intro (lenm Leg.enc a0.Legs) True.intro))) (by kernel_rfl) ?_
            refine lq (impl_arrivals_at1fn105_L3_S a0 a1 a4 v1 v3 s13 s14) (body := impl_arrivals_at1fn105_L3 a0 a1 v1 v3 s13) (k := impl_arrivals_at1fn105_L3_k s14) hM fun m3 s c3 hM hK3 => ?_
            obtain ⟨s19, s20, s21⟩ := s
            have hM : impl_arrivals_at1fn105_L3_b a0 a1 v1 v3 s13 s19 s20 s21 = some c3 := hM
            unfold impl_arrivals_at1fn105_L3_b at hM
            rcases cond_cases hM with ⟨h25, hM⟩ | ⟨h25, hM⟩
            · obtain ⟨v26, h27, hM⟩ := bind_some hM
              obtain ⟨v28, h29, hM⟩ := bind_some hM
              obtain ⟨v30, h31, hM⟩ := bind_some hM
              obtain ⟨v32, h33, hM⟩ := bind_some hM
              rcases cond_cases hM with ⟨h34, hM⟩ | ⟨h34, hM⟩
              · have hE : some (Ctl.next (s19, s20, w64 (s21 + 1))) = some c3 := hM
                have hE := Option.some.inj hE
                subst hE
                exact pc R 9999 [.as 64 true, .ix (Leg.enc v26), .new 5, .call false [] (.o (.c (.v (.int .i64 v28)))) [] [], .call false [] (.o (.c (.v (.int .i64 v30)))) [] [], .ix (encI v32), .as 80 true] [.keep [1, 4, 5, 11, 12, 13, 14, 15, 16, 61, 62, 63] [901, 0, 1, 2, 4]] (And.intro h25 (And.intro (gi_map Leg.enc h27) (And.intro (impl_placeAt_ok v1 v26.From v28 h29) (And.intro (impl_placeAt_ok v1 v26.To v30 h31) (And.intro (gi_lt encI h33) (And.intro ((gi_map encI h33).2) (And.intro h34 True.intro))))))) (by kernel_rfl) (li (Sf := impl_arrivals_at1fn105_L3_S a0 a1 a4 v1 v3 s13 s14) (M := Mk (impl_arrivals_at1fn105_L3 a0 a1 v1 v3 s13) (impl_arrivals_at1fn105_L3_k s14) c2) (k := [.blk 4, .code (cAt Try.f96 [1, 1, 1, 1, 1, 1, 1, 0, 1, 0, 0, 1, 0, 0, 1, 1, 1]), .blk 3, .code (cAt Try.f96 [1, 1, 1, 1, 1, 1, 1, 0, 1, 0, 0, 1, 1]), .inv (Jr R (impl_arrivals_at1fn105_L2_S a0 a1 a4 v1 v3) (Mk (impl_arrivals_at1fn105_L2 a0 a1 a4 v1 v3) (impl_arrivals_at1fn105_L2_k) r) (m2 + 1)), .blk 2, .code (cAt Try.f96 [1, 1, 1, 1, 1, 1, 1, 1])]) (Nat.lt_succ_self m3) hK3)
              · obtain ⟨v35, h36, hM⟩ := bind_some hM
                obtain ⟨v37, h38, hM⟩ := bind_some hM
                obtain ⟨v39, h40, hM⟩ := bind_some hM
                rcases cond_cases hM with ⟨h41, hM⟩ | ⟨h41, hM⟩
                · obtain ⟨v42, h43, hM⟩ := bind_some hM
                  rcases cond_cases hM with ⟨h44, hM⟩ | ⟨h44, hM⟩
                  · obtain ⟨v45, h46, hM⟩ := bind_some hM
                    obtain ⟨v47, h48, hM⟩ := bind_some hM
                    have hE : some (Ctl.next (List.set s19 (Int.toNat v30) v45, true, w64 (s21 + 1))) = some c3 := hM
                    have hE := Option.some.inj hE
                    subst hE
                    exact pc R 9999 [.as 64 true, .ix (Leg.enc v26), .new 5, .call false [] (.o (.c (.v (.int .i64 v28)))) [] [], .call false [] (.o (.c (.v (.int .i64 v30)))) [] [], .ix (encI v32), .as 80 false, .xo [[], [], [], [], [], [], [.ix (encI v35)], [], [], [], [.call false [] (.o (.c (.v (.int .i64 v37)))) [] []], [.call true [901] (.tup [.c (.v (.agg (Trip.enc v39.1).toArray)), .c (.v (.bool v39.2))]) [(901, .box 32 [.rs 6 (a1.Legs.map Leg.enc), .rs 1 (a1.Off.map encI), .v (.int .i64 a1.Change)])] []], [], [], [], [.new 6], [], []] [.keep [1, 4, 5, 11, 12, 13, 14, 15, 16, 20, 21, 22, 61, 62, 63] [901, 0, 1, 2, 4, 6]] (impl_arrivals_at1fn105_x16 a0 a1 a4 v1 v3 s13 s14 s19 s20 s21 v30 v39), .as 97 true, .ix (encI v42), .as 103 true, .call false [] (.o (.c (.v (.int .i64 v45)))) [] [], .ix (encI v47), .nm ((List.set s19 (Int.toNat v30) v45).map encI)] [.keep [1, 4, 5, 11, 12, 13, 14, 15, 16, 61, 62, 63] [901, 0, 1, 2, 4]] (And.intro h25 (And.intro (gi_map Leg.enc h27) (And.intro (impl_placeAt_ok v1 v26.From v28 h29) (And.intro (impl_placeAt_ok v1 v26.To v30 h31) (And.intro (gi_lt encI h33) (And.intro ((gi_map encI h33).2) (And.intro h34 (And.intro (gi_lt encI h36) (And.intro ((gi_map encI h36).2) (And.intro (impl_readyAt_ok a0 v35 (v28 == v3) v37 h38) (And.intro (And.intro (con_sw 902 901 (impl_nextOf_c1_ok s21 v37 a1 v39 h40)) (rfl : ([901] : List Nat) = [901])) (And.intro (rfl : (impl_arrivals_at1fn105_x16 a0 a1 a4 v1 v3 s13 s14 s19 s20 s21 v30 v39) = (impl_arrivals_at1fn105_x16 a0 a1 a4 v1 v3 s13 s14 s19 s20 s21 v30 v39)) (And.intro (And.intro (con_sw 902 901 (impl_nextOf_c1_ok s21 v37 a1 v39 h40)) (rfl : ([901] : List Nat) = [901])) (And.intro (rfl : (impl_arrivals_at1fn105_x16 a0 a1 a4 v1 v3 s13 s14 s19 s20 s21 v30 v39) = (impl_arrivals_at1fn105_x16 a0 a1 a4 v1 v3 s13 s14 s19 s20 s21 v30 v39)) (And.intro (impl_readyAt_ok a0 v35 (v28 == v3) v37 h38) (And.intro (And.intro (con_sw 902 901 (impl_nextOf_c1_ok s21 v37 a1 v39 h40)) (rfl : ([901] : List Nat) = [901])) (And.intro (rfl : (impl_arrivals_at1fn105_x16 a0 a1 a4 v1 v3 s13 s14 s19 s20 s21 v30 v39) = (impl_arrivals_at1fn105_x16 a0 a1 a4 v1 v3 s13 s14 s19 s20 s21 v30 v39)) (And.intro ((gi_map encI h36).2) (And.intro (impl_readyAt_ok a0 v35 (v28 == v3) v37 h38) (And.intro (And.intro (con_sw 902 901 (impl_nextOf_c1_ok s21 v37 a1 v39 h40)) (rfl : ([901] : List Nat) = [901])) (And.intro (rfl : (impl_arrivals_at1fn105_x16 a0 a1 a4 v1 v3 s13 s14 s19 s20 s21 v30 v39) = (impl_arrivals_at1fn105_x16 a0 a1 a4 v1 v3 s13 s14 s19 s20 s21 v30 v39)) (And.intro ((gi_map encI h36).2) (And.intro (impl_readyAt_ok a0 v35 (v28 == v3) v37 h38) (And.intro (And.intro (con_sw 902 901 (impl_nextOf_c1_ok s21 v37 a1 v39 h40)) (rfl : ([901] : List Nat) = [901])) (And.intro (rfl : (impl_arrivals_at1fn105_x16 a0 a1 a4 v1 v3 s13 s14 s19 s20 s21 v30 v39) = (impl_arrivals_at1fn105_x16 a0 a1 a4 v1 v3 s13 s14 s19 s20 s21 v30 v39)) (And.intro (And.intro (con_sw 902 901 (impl_nextOf_c1_ok s21 v37 a1 v39 h40)) (rfl : ([901] : List Nat) = [901])) (And.intro (rfl : (impl_arrivals_at1fn105_x16 a0 a1 a4 v1 v3 s13 s14 s19 s20 s21 v30 v39) = (impl_arrivals_at1fn105_x16 a0 a1 a4 v1 v3 s13 s14 s19 s20 s21 v30 v39)) (And.intro (impl_readyAt_ok a0 v35 (v28 == v3) v37 h38) (And.intro (And.intro (con_sw 902 901 (impl_nextOf_c1_ok s21 v37 a1 v39 h40)) (rfl : ([901] : List Nat) = [901])) (And.intro (rfl : (impl_arrivals_at1fn105_x16 a0 a1 a4 v1 v3 s13 s14 s19 s20 s21 v30 v39) = (impl_arrivals_at1fn105_x16 a0 a1 a4 v1 v3 s13 s14 s19 s20 s21 v30 v39)) (And.intro (impl_readyAt_ok a0 v35 (v28 == v3) v37 h38) (And.intro (And.intro (con_sw 902 901 (impl_nextOf_c1_ok s21 v37 a1 v39 h40)) (rfl : ([901] : List Nat) = [901])) (And.intro (rfl : (impl_arrivals_at1fn105_x16 a0 a1 a4 v1 v3 s13 s14 s19 s20 s21 v30 v39) = (impl_arrivals_at1fn105_x16 a0 a1 a4 v1 v3 s13 s14 s19 s20 s21 v30 v39)) (And.intro ((gi_map encI h36).2) (And.intro (impl_readyAt_ok a0 v35 (v28 == v3) v37 h38) (And.intro (And.intro (con_sw 902 901 (impl_nextOf_c1_ok s21 v37 a1 v39 h40)) (rfl : ([901] : List Nat) = [901])) (And.intro (rfl : (impl_arrivals_at1fn105_x16 a0 a1 a4 v1 v3 s13 s14 s19 s20 s21 v30 v39) = (impl_arrivals_at1fn105_x16 a0 a1 a4 v1 v3 s13 s14 s19 s20 s21 v30 v39)) (And.intro ((gi_map encI h36).2) (And.intro (impl_readyAt_ok a0 v35 (v28 == v3) v37 h38) (And.intro (And.intro (con_sw 902 901 (impl_nextOf_c1_ok s21 v37 a1 v39 h40)) (rfl : ([901] : List Nat) = [901])) (And.intro (rfl : (impl_arrivals_at1fn105_x16 a0 a1 a4 v1 v3 s13 s14 s19 s20 s21 v30 v39) = (impl_arrivals_at1fn105_x16 a0 a1 a4 v1 v3 s13 s14 s19 s20 s21 v30 v39)) (And.intro h41 (And.intro (gi_lt encI h43) (And.intro ((gi_map encI h43).2) (And.intro h44 (And.intro (impl_ends_ok a0 v39.1 v45 h46) (And.intro (gi_lt encI h48) (And.intro (And.intro (gi_map encI h48).2 (set_map encI s19 (Int.toNat v30) v45)) True.intro)))))))))))))))))))))))))))))))))))))))))))))))) (by kernel_rfl) (li (Sf := impl_arrivals_at1fn105_L3_S a0 a1 a4 v1 v3 s13 s14) (M := Mk (impl_arrivals_at1fn105_L3 a0 a1 v1 v3 s13) (impl_arrivals_at1fn105_L3_k s14) c2) (k := [.blk 4, .code (cAt Try.f96 [1, 1, 1, 1, 1, 1, 1, 0, 1, 0, 0, 1, 0, 0, 1, 1, 1]), .blk 3, .code (cAt Try.f96 [1, 1, 1, 1, 1, 1, 1, 0, 1, 0, 0, 1, 1]), .inv (Jr R (impl_arrivals_at1fn105_L2_S a0 a1 a4 v1 v3) (Mk (impl_arrivals_at1fn105_L2 a0 a1 a4 v1 v3) (impl_arrivals_at1fn105_L2_k) r) (m2 + 1)), .blk 2, .code (cAt Try.f96 [1, 1, 1, 1, 1, 1, 1, 1])]) (Nat.lt_succ_self m3) hK3)
                  · obtain ⟨v49, h50, hM⟩ := bind_some hM
                    obtain ⟨v51, h52, hM⟩ := bind_some hM
                    rcases cond_cases hM with ⟨h53, hM⟩ | ⟨h53, hM⟩
                    · obtain ⟨v54, h55, hM⟩ := bind_some hM
                      obtain ⟨v56, h57, hM⟩ := bind_some hM
                      have hE : some (Ctl.next (List.set s19 (Int.toNat v30) v54, true, w64 (s21 + 1))) = some c3 := hM
                      have hE := Option.some.inj hE
                      subst hE
                      exact pc R 9999 [.as 64 true, .ix (Leg.enc v26), .new 5, .call false [] (.o (.c (.v (.int .i64 v28)))) [] [], .call false [] (.o (.c (.v (.int .i64 v30)))) [] [], .ix (encI v32), .as 80 false, .xo [[], [], [], [], [], [], [.ix (encI v35)], [], [], [], [.call false [] (.o (.c (.v (.int .i64 v37)))) [] []], [.call true [901] (.tup [.c (.v (.agg (Trip.enc v39.1).toArray)), .c (.v (.bool v39.2))]) [(901, .box 32 [.rs 6 (a1.Legs.map Leg.enc), .rs 1 (a1.Off.map encI), .v (.int .i64 a1.Change)])] []], [], [], [], [.new 6], [], []] [.keep [1, 4, 5, 11, 12, 13, 14, 15, 16, 20, 21, 22, 61, 62, 63] [901, 0, 1, 2, 4, 6]] (impl_arrivals_at1fn105_x16 a0 a1 a4 v1 v3 s13 s14 s19 s20 s21 v30 v39), .as 97 true, .ix (encI v42), .as 103 false, .call false [] (.o (.c (.v (.int .i64 v49)))) [] [], .ix (encI v51), .as 113 true, .call false [] (.o (.c (.v (.int .i64 v54)))) [] [], .ix (encI v56), .nm ((List.set s19 (Int.toNat v30) v54).map encI)] [.keep [1, 4, 5, 11, 12, 13, 14, 15, 16, 61, 62, 63] [901, 0, 1, 2, 4]] (And.intro h25 (And.intro (gi_map Leg.enc h27) (And.intro (impl_placeAt_ok v1 v26.From v28 h29) (And.intro (impl_placeAt_ok v1 v26.To v30 h31) (And.intro (gi_lt encI h33) (And.intro ((gi_map encI h33).2) (And.intro h34 (And.intro (gi_lt encI h36) (And.intro ((gi_map encI h36).2) (And.intro (impl_readyAt_ok a0 v35 (v28 == v3) v37 h38) (And.intro (And.intro (con_sw 902 901 (impl_nextOf_c1_ok s21 v37 a1 v39 h40)) (rfl : ([901] : List Nat) = [901])) (And.intro (rfl : (impl_arrivals_at1fn105_x16 a0 a1 a4 v1 v3 s13 s14 s19 s20 s21 v30 v39) = (impl_arrivals_at1fn105_x16 a0 a1 a4 v1 v3 s13 s14 s19 s20 s21 v30 v39)) (And.intro (And.intro (con_sw 902 901 (impl_nextOf_c1_ok s21 v37 a1 v39 h40)) (rfl : ([901] : List Nat) = [901])) (And.intro (rfl : (impl_arrivals_at1fn105_x16 a0 a1 a4 v1 v3 s13 s14 s19 s20 s21 v30 v39) = (impl_arrivals_at1fn105_x16 a0 a1 a4 v1 v3 s13 s14 s19 s20 s21 v30 v39)) (And.intro (impl_readyAt_ok a0 v35 (v28 == v3) v37 h38) (And.intro (And.intro (con_sw 902 901 (impl_nextOf_c1_ok s21 v37 a1 v39 h40)) (rfl : ([901] : List Nat) = [901])) (And.intro (rfl : (impl_arrivals_at1fn105_x16 a0 a1 a4 v1 v3 s13 s14 s19 s20 s21 v30 v39) = (impl_arrivals_at1fn105_x16 a0 a1 a4 v1 v3 s13 s14 s19 s20 s21 v30 v39)) (And.intro ((gi_map encI h36).2) (And.intro (impl_readyAt_ok a0 v35 (v28 == v3) v37 h38) (And.intro (And.intro (con_sw 902 901 (impl_nextOf_c1_ok s21 v37 a1 v39 h40)) (rfl : ([901] : List Nat) = [901])) (And.intro (rfl : (impl_arrivals_at1fn105_x16 a0 a1 a4 v1 v3 s13 s14 s19 s20 s21 v30 v39) = (impl_arrivals_at1fn105_x16 a0 a1 a4 v1 v3 s13 s14 s19 s20 s21 v30 v39)) (And.intro ((gi_map encI h36).2) (And.intro (impl_readyAt_ok a0 v35 (v28 == v3) v37 h38) (And.intro (And.intro (con_sw 902 901 (impl_nextOf_c1_ok s21 v37 a1 v39 h40)) (rfl : ([901] : List Nat) = [901])) (And.intro (rfl : (impl_arrivals_at1fn105_x16 a0 a1 a4 v1 v3 s13 s14 s19 s20 s21 v30 v39) = (impl_arrivals_at1fn105_x16 a0 a1 a4 v1 v3 s13 s14 s19 s20 s21 v30 v39)) (And.intro (And.intro (con_sw 902 901 (impl_nextOf_c1_ok s21 v37 a1 v39 h40)) (rfl : ([901] : List Nat) = [901])) (And.intro (rfl : (impl_arrivals_at1fn105_x16 a0 a1 a4 v1 v3 s13 s14 s19 s20 s21 v30 v39) = (impl_arrivals_at1fn105_x16 a0 a1 a4 v1 v3 s13 s14 s19 s20 s21 v30 v39)) (And.intro (impl_readyAt_ok a0 v35 (v28 == v3) v37 h38) (And.intro (And.intro (con_sw 902 901 (impl_nextOf_c1_ok s21 v37 a1 v39 h40)) (rfl : ([901] : List Nat) = [901])) (And.intro (rfl : (impl_arrivals_at1fn105_x16 a0 a1 a4 v1 v3 s13 s14 s19 s20 s21 v30 v39) = (impl_arrivals_at1fn105_x16 a0 a1 a4 v1 v3 s13 s14 s19 s20 s21 v30 v39)) (And.intro (impl_readyAt_ok a0 v35 (v28 == v3) v37 h38) (And.intro (And.intro (con_sw 902 901 (impl_nextOf_c1_ok s21 v37 a1 v39 h40)) (rfl : ([901] : List Nat) = [901])) (And.intro (rfl : (impl_arrivals_at1fn105_x16 a0 a1 a4 v1 v3 s13 s14 s19 s20 s21 v30 v39) = (impl_arrivals_at1fn105_x16 a0 a1 a4 v1 v3 s13 s14 s19 s20 s21 v30 v39)) (And.intro ((gi_map encI h36).2) (And.intro (impl_readyAt_ok a0 v35 (v28 == v3) v37 h38) (And.intro (And.intro (con_sw 902 901 (impl_nextOf_c1_ok s21 v37 a1 v39 h40)) (rfl : ([901] : List Nat) = [901])) (And.intro (rfl : (impl_arrivals_at1fn105_x16 a0 a1 a4 v1 v3 s13 s14 s19 s20 s21 v30 v39) = (impl_arrivals_at1fn105_x16 a0 a1 a4 v1 v3 s13 s14 s19 s20 s21 v30 v39)) (And.intro ((gi_map encI h36).2) (And.intro (impl_readyAt_ok a0 v35 (v28 == v3) v37 h38) (And.intro (And.intro (con_sw 902 901 (impl_nextOf_c1_ok s21 v37 a1 v39 h40)) (rfl : ([901] : List Nat) = [901])) (And.intro (rfl : (impl_arrivals_at1fn105_x16 a0 a1 a4 v1 v3 s13 s14 s19 s20 s21 v30 v39) = (impl_arrivals_at1fn105_x16 a0 a1 a4 v1 v3 s13 s14 s19 s20 s21 v30 v39)) (And.intro h41 (And.intro (gi_lt encI h43) (And.intro ((gi_map encI h43).2) (And.intro h44 (And.intro (impl_ends_ok a0 v39.1 v49 h50) (And.intro (gi_lt encI h52) (And.intro ((gi_map encI h52).2) (And.intro h53 (And.intro (impl_ends_ok a0 v39.1 v54 h55) (And.intro (gi_lt encI h57) (And.intro (And.intro (gi_map encI h57).2 (set_map encI s19 (Int.toNat v30) v54)) True.intro)))))))))))))))))))))))))))))))))))))))))))))))))))) (by kernel_rfl) (li (Sf := impl_arrivals_at1fn105_L3_S a0 a1 a4 v1 v3 s13 s14) (M := Mk (impl_arrivals_at1fn105_L3 a0 a1 v1 v3 s13) (impl_arrivals_at1fn105_L3_k s14) c2) (k := [.blk 4, .code (cAt Try.f96 [1, 1, 1, 1, 1, 1, 1, 0, 1, 0, 0, 1, 0, 0, 1, 1, 1]), .blk 3, .code (cAt Try.f96 [1, 1, 1, 1, 1, 1, 1, 0, 1, 0, 0, 1, 1]), .inv (Jr R (impl_arrivals_at1fn105_L2_S a0 a1 a4 v1 v3) (Mk (impl_arrivals_at1fn105_L2 a0 a1 a4 v1 v3) (impl_arrivals_at1fn105_L2_k) r) (m2 + 1)), .blk 2, .code (cAt Try.f96 [1, 1, 1, 1, 1, 1, 1, 1])]) (Nat.lt_succ_self m3) hK3)
                    · have hE : some (Ctl.next (s19, s20, w64 (s21 + 1))) = some c3 := hM
                      have hE := Option.some.inj hE
                      subst hE
                      exact pc R 9999 [.as 64 true, .ix (Leg.enc v26), .new 5, .call false [] (.o (.c (.v (.int .i64 v28)))) [] [], .call false [] (.o (.c (.v (.int .i64 v30)))) [] [], .ix (encI v32), .as 80 false, .xo [[], [], [], [], [], [], [.ix (encI v35)], [], [], [], [.call false [] (.o (.c (.v (.int .i64 v37)))) [] []], [.call true [901] (.tup [.c (.v (.agg (Trip.enc v39.1).toArray)), .c (.v (.bool v39.2))]) [(901, .box 32 [.rs 6 (a1.Legs.map Leg.enc), .rs 1 (a1.Off.map encI), .v (.int .i64 a1.Change)])] []], [], [], [], [.new 6], [], []] [.keep [1, 4, 5, 11, 12, 13, 14, 15, 16, 20, 21, 22, 61, 62, 63] [901, 0, 1, 2, 4, 6]] (impl_arrivals_at1fn105_x16 a0 a1 a4 v1 v3 s13 s14 s19 s20 s21 v30 v39), .as 97 true, .ix (encI v42), .as 103 false, .call false [] (.o (.c (.v (.int .i64 v49)))) [] [], .ix (encI v51), .as 113 false] [.keep [1, 4, 5, 11, 12, 13, 14, 15, 16, 61, 62, 63] [901, 0, 1, 2, 4]] (And.intro h25 (And.intro (gi_map Leg.enc h27) (And.intro (impl_placeAt_ok v1 v26.From v28 h29) (And.intro (impl_placeAt_ok v1 v26.To v30 h31) (And.intro (gi_lt encI h33) (And.intro ((gi_map encI h33).2) (And.intro h34 (And.intro (gi_lt encI h36) (And.intro ((gi_map encI h36).2) (And.intro (impl_readyAt_ok a0 v35 (v28 == v3) v37 h38) (And.intro (And.intro (con_sw 902 901 (impl_nextOf_c1_ok s21 v37 a1 v39 h40)) (rfl : ([901] : List Nat) = [901])) (And.intro (rfl : (impl_arrivals_at1fn105_x16 a0 a1 a4 v1 v3 s13 s14 s19 s20 s21 v30 v39) = (impl_arrivals_at1fn105_x16 a0 a1 a4 v1 v3 s13 s14 s19 s20 s21 v30 v39)) (And.intro (And.intro (con_sw 902 901 (impl_nextOf_c1_ok s21 v37 a1 v39 h40)) (rfl : ([901] : List Nat) = [901])) (And.intro (rfl : (impl_arrivals_at1fn105_x16 a0 a1 a4 v1 v3 s13 s14 s19 s20 s21 v30 v39) = (impl_arrivals_at1fn105_x16 a0 a1 a4 v1 v3 s13 s14 s19 s20 s21 v30 v39)) (And.intro (impl_readyAt_ok a0 v35 (v28 == v3) v37 h38) (And.intro (And.intro (con_sw 902 901 (impl_nextOf_c1_ok s21 v37 a1 v39 h40)) (rfl : ([901] : List Nat) = [901])) (And.intro (rfl : (impl_arrivals_at1fn105_x16 a0 a1 a4 v1 v3 s13 s14 s19 s20 s21 v30 v39) = (impl_arrivals_at1fn105_x16 a0 a1 a4 v1 v3 s13 s14 s19 s20 s21 v30 v39)) (And.intro ((gi_map encI h36).2) (And.intro (impl_readyAt_ok a0 v35 (v28 == v3) v37 h38) (And.intro (And.intro (con_sw 902 901 (impl_nextOf_c1_ok s21 v37 a1 v39 h40)) (rfl : ([901] : List Nat) = [901])) (And.intro (rfl : (impl_arrivals_at1fn105_x16 a0 a1 a4 v1 v3 s13 s14 s19 s20 s21 v30 v39) = (impl_arrivals_at1fn105_x16 a0 a1 a4 v1 v3 s13 s14 s19 s20 s21 v30 v39)) (And.intro ((gi_map encI h36).2) (And.intro (impl_readyAt_ok a0 v35 (v28 == v3) v37 h38) (And.intro (And.intro (con_sw 902 901 (impl_nextOf_c1_ok s21 v37 a1 v39 h40)) (rfl : ([901] : List Nat) = [901])) (And.intro (rfl : (impl_arrivals_at1fn105_x16 a0 a1 a4 v1 v3 s13 s14 s19 s20 s21 v30 v39) = (impl_arrivals_at1fn105_x16 a0 a1 a4 v1 v3 s13 s14 s19 s20 s21 v30 v39)) (And.intro (And.intro (con_sw 902 901 (impl_nextOf_c1_ok s21 v37 a1 v39 h40)) (rfl : ([901] : List Nat) = [901])) (And.intro (rfl : (impl_arrivals_at1fn105_x16 a0 a1 a4 v1 v3 s13 s14 s19 s20 s21 v30 v39) = (impl_arrivals_at1fn105_x16 a0 a1 a4 v1 v3 s13 s14 s19 s20 s21 v30 v39)) (And.intro (impl_readyAt_ok a0 v35 (v28 == v3) v37 h38) (And.intro (And.intro (con_sw 902 901 (impl_nextOf_c1_ok s21 v37 a1 v39 h40)) (rfl : ([901] : List Nat) = [901])) (And.intro (rfl : (impl_arrivals_at1fn105_x16 a0 a1 a4 v1 v3 s13 s14 s19 s20 s21 v30 v39) = (impl_arrivals_at1fn105_x16 a0 a1 a4 v1 v3 s13 s14 s19 s20 s21 v30 v39)) (And.intro (impl_readyAt_ok a0 v35 (v28 == v3) v37 h38) (And.intro (And.intro (con_sw 902 901 (impl_nextOf_c1_ok s21 v37 a1 v39 h40)) (rfl : ([901] : List Nat) = [901])) (And.intro (rfl : (impl_arrivals_at1fn105_x16 a0 a1 a4 v1 v3 s13 s14 s19 s20 s21 v30 v39) = (impl_arrivals_at1fn105_x16 a0 a1 a4 v1 v3 s13 s14 s19 s20 s21 v30 v39)) (And.intro ((gi_map encI h36).2) (And.intro (impl_readyAt_ok a0 v35 (v28 == v3) v37 h38) (And.intro (And.intro (con_sw 902 901 (impl_nextOf_c1_ok s21 v37 a1 v39 h40)) (rfl : ([901] : List Nat) = [901])) (And.intro (rfl : (impl_arrivals_at1fn105_x16 a0 a1 a4 v1 v3 s13 s14 s19 s20 s21 v30 v39) = (impl_arrivals_at1fn105_x16 a0 a1 a4 v1 v3 s13 s14 s19 s20 s21 v30 v39)) (And.intro ((gi_map encI h36).2) (And.intro (impl_readyAt_ok a0 v35 (v28 == v3) v37 h38) (And.intro (And.intro (con_sw 902 901 (impl_nextOf_c1_ok s21 v37 a1 v39 h40)) (rfl : ([901] : List Nat) = [901])) (And.intro (rfl : (impl_arrivals_at1fn105_x16 a0 a1 a4 v1 v3 s13 s14 s19 s20 s21 v30 v39) = (impl_arrivals_at1fn105_x16 a0 a1 a4 v1 v3 s13 s14 s19 s20 s21 v30 v39)) (And.intro h41 (And.intro (gi_lt encI h43) (And.intro ((gi_map encI h43).2) (And.intro h44 (And.intro (impl_ends_ok a0 v39.1 v49 h50) (And.intro (gi_lt encI h52) (And.intro ((gi_map encI h52).2) (And.intro h53 True.intro))))))))))))))))))))))))))))))))))))))))))))))))) (by kernel_rfl) (li (Sf := impl_arrivals_at1fn105_L3_S a0 a1 a4 v1 v3 s13 s14) (M := Mk (impl_arrivals_at1fn105_L3 a0 a1 v1 v3 s13) (impl_arrivals_at1fn105_L3_k s14) c2) (k := [.blk 4, .code (cAt Try.f96 [1, 1, 1, 1, 1, 1, 1, 0, 1, 0, 0, 1, 0, 0, 1, 1, 1]), .blk 3, .code (cAt Try.f96 [1, 1, 1, 1, 1, 1, 1, 0, 1, 0, 0, 1, 1]), .inv (Jr R (impl_arrivals_at1fn105_L2_S a0 a1 a4 v1 v3) (Mk (impl_arrivals_at1fn105_L2 a0 a1 a4 v1 v3) (impl_arrivals_at1fn105_L2_k) r) (m2 + 1)), .blk 2, .code (cAt Try.f96 [1, 1, 1, 1, 1, 1, 1, 1])]) (Nat.lt_succ_self m3) hK3)
                · have hE : some (Ctl.next (s19, s20, w64 (s21 + 1))) = some c3 := hM
                  have hE := Option.some.inj hE
                  subst hE
                  exact pc R 9999 [.as 64 true, .ix (Leg.enc v26), .new 5, .call false [] (.o (.c (.v (.int .i64 v28)))) [] [], .call false [] (.o (.c (.v (.int .i64 v30)))) [] [], .ix (encI v32), .as 80 false, .xo [[], [], [], [], [], [], [.ix (encI v35)], [], [], [], [.call false [] (.o (.c (.v (.int .i64 v37)))) [] []], [.call true [901] (.tup [.c (.v (.agg (Trip.enc v39.1).toArray)), .c (.v (.bool v39.2))]) [(901, .box 32 [.rs 6 (a1.Legs.map Leg.enc), .rs 1 (a1.Off.map encI), .v (.int .i64 a1.Change)])] []], [], [], [], [.new 6], [], []] [.keep [1, 4, 5, 11, 12, 13, 14, 15, 16, 20, 21, 22, 61, 62, 63] [901, 0, 1, 2, 4, 6]] (impl_arrivals_at1fn105_x16 a0 a1 a4 v1 v3 s13 s14 s19 s20 s21 v30 v39), .as 97 false] [.keep [1, 4, 5, 11, 12, 13, 14, 15, 16, 61, 62, 63] [901, 0, 1, 2, 4]] (And.intro h25 (And.intro (gi_map Leg.enc h27) (And.intro (impl_placeAt_ok v1 v26.From v28 h29) (And.intro (impl_placeAt_ok v1 v26.To v30 h31) (And.intro (gi_lt encI h33) (And.intro ((gi_map encI h33).2) (And.intro h34 (And.intro (gi_lt encI h36) (And.intro ((gi_map encI h36).2) (And.intro (impl_readyAt_ok a0 v35 (v28 == v3) v37 h38) (And.intro (And.intro (con_sw 902 901 (impl_nextOf_c1_ok s21 v37 a1 v39 h40)) (rfl : ([901] : List Nat) = [901])) (And.intro (rfl : (impl_arrivals_at1fn105_x16 a0 a1 a4 v1 v3 s13 s14 s19 s20 s21 v30 v39) = (impl_arrivals_at1fn105_x16 a0 a1 a4 v1 v3 s13 s14 s19 s20 s21 v30 v39)) (And.intro (And.intro (con_sw 902 901 (impl_nextOf_c1_ok s21 v37 a1 v39 h40)) (rfl : ([901] : List Nat) = [901])) (And.intro (rfl : (impl_arrivals_at1fn105_x16 a0 a1 a4 v1 v3 s13 s14 s19 s20 s21 v30 v39) = (impl_arrivals_at1fn105_x16 a0 a1 a4 v1 v3 s13 s14 s19 s20 s21 v30 v39)) (And.intro (impl_readyAt_ok a0 v35 (v28 == v3) v37 h38) (And.intro (And.intro (con_sw 902 901 (impl_nextOf_c1_ok s21 v37 a1 v39 h40)) (rfl : ([901] : List Nat) = [901])) (And.intro (rfl : (impl_arrivals_at1fn105_x16 a0 a1 a4 v1 v3 s13 s14 s19 s20 s21 v30 v39) = (impl_arrivals_at1fn105_x16 a0 a1 a4 v1 v3 s13 s14 s19 s20 s21 v30 v39)) (And.intro ((gi_map encI h36).2) (And.intro (impl_readyAt_ok a0 v35 (v28 == v3) v37 h38) (And.intro (And.intro (con_sw 902 901 (impl_nextOf_c1_ok s21 v37 a1 v39 h40)) (rfl : ([901] : List Nat) = [901])) (And.intro (rfl : (impl_arrivals_at1fn105_x16 a0 a1 a4 v1 v3 s13 s14 s19 s20 s21 v30 v39) = (impl_arrivals_at1fn105_x16 a0 a1 a4 v1 v3 s13 s14 s19 s20 s21 v30 v39)) (And.intro ((gi_map encI h36).2) (And.intro (impl_readyAt_ok a0 v35 (v28 == v3) v37 h38) (And.intro (And.intro (con_sw 902 901 (impl_nextOf_c1_ok s21 v37 a1 v39 h40)) (rfl : ([901] : List Nat) = [901])) (And.intro (rfl : (impl_arrivals_at1fn105_x16 a0 a1 a4 v1 v3 s13 s14 s19 s20 s21 v30 v39) = (impl_arrivals_at1fn105_x16 a0 a1 a4 v1 v3 s13 s14 s19 s20 s21 v30 v39)) (And.intro (And.intro (con_sw 902 901 (impl_nextOf_c1_ok s21 v37 a1 v39 h40)) (rfl : ([901] : List Nat) = [901])) (And.intro (rfl : (impl_arrivals_at1fn105_x16 a0 a1 a4 v1 v3 s13 s14 s19 s20 s21 v30 v39) = (impl_arrivals_at1fn105_x16 a0 a1 a4 v1 v3 s13 s14 s19 s20 s21 v30 v39)) (And.intro (impl_readyAt_ok a0 v35 (v28 == v3) v37 h38) (And.intro (And.intro (con_sw 902 901 (impl_nextOf_c1_ok s21 v37 a1 v39 h40)) (rfl : ([901] : List Nat) = [901])) (And.intro (rfl : (impl_arrivals_at1fn105_x16 a0 a1 a4 v1 v3 s13 s14 s19 s20 s21 v30 v39) = (impl_arrivals_at1fn105_x16 a0 a1 a4 v1 v3 s13 s14 s19 s20 s21 v30 v39)) (And.intro (impl_readyAt_ok a0 v35 (v28 == v3) v37 h38) (And.intro (And.intro (con_sw 902 901 (impl_nextOf_c1_ok s21 v37 a1 v39 h40)) (rfl : ([901] : List Nat) = [901])) (And.intro (rfl : (impl_arrivals_at1fn105_x16 a0 a1 a4 v1 v3 s13 s14 s19 s20 s21 v30 v39) = (impl_arrivals_at1fn105_x16 a0 a1 a4 v1 v3 s13 s14 s19 s20 s21 v30 v39)) (And.intro ((gi_map encI h36).2) (And.intro (impl_readyAt_ok a0 v35 (v28 == v3) v37 h38) (And.intro (And.intro (con_sw 902 901 (impl_nextOf_c1_ok s21 v37 a1 v39 h40)) (rfl : ([901] : List Nat) = [901])) (And.intro (rfl : (impl_arrivals_at1fn105_x16 a0 a1 a4 v1 v3 s13 s14 s19 s20 s21 v30 v39) = (impl_arrivals_at1fn105_x16 a0 a1 a4 v1 v3 s13 s14 s19 s20 s21 v30 v39)) (And.intro ((gi_map encI h36).2) (And.intro (impl_readyAt_ok a0 v35 (v28 == v3) v37 h38) (And.intro (And.intro (con_sw 902 901 (impl_nextOf_c1_ok s21 v37 a1 v39 h40)) (rfl : ([901] : List Nat) = [901])) (And.intro (rfl : (impl_arrivals_at1fn105_x16 a0 a1 a4 v1 v3 s13 s14 s19 s20 s21 v30 v39) = (impl_arrivals_at1fn105_x16 a0 a1 a4 v1 v3 s13 s14 s19 s20 s21 v30 v39)) (And.intro h41 True.intro)))))))))))))))))))))))))))))))))))))))))) (by kernel_rfl) (li (Sf := impl_arrivals_at1fn105_L3_S a0 a1 a4 v1 v3 s13 s14) (M := Mk (impl_arrivals_at1fn105_L3 a0 a1 v1 v3 s13) (impl_arrivals_at1fn105_L3_k s14) c2) (k := [.blk 4, .code (cAt Try.f96 [1, 1, 1, 1, 1, 1, 1, 0, 1, 0, 0, 1, 0, 0, 1, 1, 1]), .blk 3, .code (cAt Try.f96 [1, 1, 1, 1, 1, 1, 1, 0, 1, 0, 0, 1, 1]), .inv (Jr R (impl_arrivals_at1fn105_L2_S a0 a1 a4 v1 v3) (Mk (impl_arrivals_at1fn105_L2 a0 a1 a4 v1 v3) (impl_arrivals_at1fn105_L2_k) r) (m2 + 1)), .blk 2, .code (cAt Try.f96 [1, 1, 1, 1, 1, 1, 1, 1])]) (Nat.lt_succ_self m3) hK3)
            · have hE : some (Ctl.brk (s19, s20)) = some c3 := hM
              have hE := Option.some.inj hE
              subst hE
              exact pc R 5 [.as 64 false] [.keep [1, 4, 5, 11, 12, 14, 15, 16] [901, 0, 1, 4]] (And.intro h25 True.intro) (by kernel_rfl) (K3 s19 s20 hK3)
          · have hE : some (Ctl.brk s13) = some c2 := hM
            have hE := Option.some.inj hE
            subst hE
            exact pc R 5 [.as 54 false] [.sw 2 4, .keep [1, 13] [901, 4]] (And.intro h16 True.intro) (by kernel_rfl) (K2 s13 hK2)
        refine pc R 9999 [.new 0, .call false [] (.o (.c (.sl 1))) [] [(1, .row 9 1 (v1.map encS))], .call false [] (.o (.c (.v (.int .i64 v3)))) [] [], .as 30 false, .as 34 false, .as 37 false, .new 2, .ln (v1.length)] [.keep [1, 3, 4, 5, 11, 12, 13, 40, 41] [901, 0, 1, 2]] (k' := [.code (.loop (cAt Try.f96 [1, 1, 1, 1, 1, 0, 1, 0, 0])), .blk 0, .code (cAt Try.f96 [1, 1, 1, 1, 1, 1])]) (S' := impl_arrivals_at1fn105_L1_S a0 a1 a3 a4 v1 v3 (([] : List Int), 0)) (And.intro (And.intro (con_sw 1000 1 (impl_PlacesOf_ok a0 v1 h2)) (rfl : ([] : List Nat) = [])) (And.intro (impl_placeAt_ok v1 a2 v3 h4) (And.intro h5 (And.intro h6 (And.intro h7 (And.intro (lenm encS v1) True.intro)))))) (by kernel_rfl) ?_
        refine lq (impl_arrivals_at1fn105_L1_S a0 a1 a3 a4 v1 v3) (body := impl_arrivals_at1fn105_L1 v1) (k := impl_arrivals_at1fn105_L1_k a0 a1 a3 a4 v1 v3) hM fun m1 s c1 hM hK1 => ?_
        obtain ⟨s8, s9⟩ := s
        have hM : impl_arrivals_at1fn105_L1_b v1 s8 s9 = some c1 := hM
        unfold impl_arrivals_at1fn105_L1_b at hM
        rcases cond_cases hM with ⟨h58, hM⟩ | ⟨h58, hM⟩
        · obtain ⟨v59, h60, hM⟩ := bind_some hM
          have hE : some (Ctl.next (v59, w64 (s9 + 1))) = some c1 := hM
          have hE := Option.some.inj hE
          subst hE
          exact pc R 9999 [.as 42 true, .new 7, .new 8, .nm (v59.map encI)] [.sw 8 2, .keep [1, 3, 4, 5, 11, 12, 13, 40, 41] [901, 0, 1, 2]] (And.intro h58 (And.intro (ap_ok encI h60) True.intro)) (by kernel_rfl) (li (Sf := impl_arrivals_at1fn105_L1_S a0 a1 a3 a4 v1 v3) (M := Mk (impl_arrivals_at1fn105_L1 v1) (impl_arrivals_at1fn105_L1_k a0 a1 a3 a4 v1 v3) r) (k := [.blk 0, .code (cAt Try.f96 [1, 1, 1, 1, 1, 1])]) (Nat.lt_succ_self m1) hK1)
        · have hE : some (Ctl.brk s8) = some c1 := hM
          have hE := Option.some.inj hE
          subst hE
          exact pc R 5 [.as 42 false] [.keep [1, 3, 4, 5, 11, 12, 13] [901, 0, 1, 2]] (And.intro h58 True.intro) (by kernel_rfl) (K1 s8 hK1)

-- loop.example/g03014/impl.BestArrivals
def impl_BestArrivals_x1 (v6 : (List Int)) : St := ⟨[(8, .o (.c (.sl 2)))], [(2, .row 3 1 (v6.map encI))]⟩
def impl_BestArrivals (a0 : Network) (a1 : ByteArray) (a2 : Int) (a3 : Int) : Option (List Int) :=
  (impl_IsNetwork a0).bind fun v1 =>
  bif (!v1) then
  some ([] : List Int)
  else
  (impl_nextOf a0).bind fun v4 =>
  (impl_arrivals_at1fn105 a0 v4 a1 a2 a3).bind fun v6 =>
  some v6
theorem impl_BestArrivals_ok (a0 : Network) (a1 : ByteArray) (a2 : Int) (a3 : Int) (r : (List Int)) (hM : impl_BestArrivals a0 a1 a2 a3 = some r) :
    Con Try.prog 45 [.agg [.rs 6 (a0.Legs.map Leg.enc), .rs 1 (a0.Off.map encI), .v (.int .i64 a0.Change)], .c (.v (.string a1)), .c (.v (.int .i64 a2)), .c (.v (.int .i64 a3))] [] (.o (.c (.sl 1000))) [] [(1000, .row 3 1 (r.map encI))] := by
  unfold impl_BestArrivals at hM
  refine cn (N := 19) (pids := []) Try_mixed Try.func45 (by kernel_rfl) (by kernel_rfl) (by kernel_rfl) rfl fun ρ g w R => ?_
  obtain ⟨v1, h2, hM⟩ := bind_some hM
  rcases cond_cases hM with ⟨h3, hM⟩ | ⟨h3, hM⟩
  · have hE : some ([] : List Int) = some r := hM
    have hE := Option.some.inj hE
    subst hE
    exact pr R 9999 [.new 0, .call false [] (.o (.c (.v (.bool v1)))) [] [], .as 11 true] [.nl 8 1000 3 1] [] [1000] (And.intro (impl_IsNetwork_ok a0 v1 h2) (And.intro h3 True.intro)) (by kernel_rfl)
  · obtain ⟨v4, h5, hM⟩ := bind_some hM
    obtain ⟨v6, h7, hM⟩ := bind_some hM
    have hE : some v6 = some r := hM
    have hE := Option.some.inj hE
    subst hE
    exact pr R 9999 [.new 0, .call false [] (.o (.c (.v (.bool v1)))) [] [], .as 11 false, .xo [[], [], [.call true [] (.o (.c (.fn 105 [1]))) [] [(1, .box 32 [.rs 6 (v4.Legs.map Leg.enc), .rs 1 (v4.Off.map encI), .v (.int .i64 v4.Change)])]], [], [], [], [.call true [1] (.o (.c (.sl 2))) [(1, .box 32 [.rs 6 (v4.Legs.map Leg.enc), .rs 1 (v4.Off.map encI), .v (.int .i64 v4.Change)])] [(2, .row 3 1 (v6.map encI))]], []] [.keep [8] [2]] (impl_BestArrivals_x1 v6)] [.sw 2 1000] [] [1000] (And.intro (impl_IsNetwork_ok a0 v1 h2) (And.intro h3 (And.intro (And.intro (con_sw 1000 1 (impl_nextOf_ok a0 v4 h5)) (rfl : ([] : List Nat) = [])) (And.intro (And.intro (con_sw 901 1 (con_sw 1000 2 (impl_arrivals_at1fn105_ok a0 v4 a1 a2 a3 v6 h7))) (rfl : ([1] : List Nat) = [1])) (And.intro (rfl : (impl_BestArrivals_x1 v6) = (impl_BestArrivals_x1 v6)) (And.intro (And.intro (con_sw 1000 1 (impl_nextOf_ok a0 v4 h5)) (rfl : ([] : List Nat) = [])) (And.intro (And.intro (con_sw 901 1 (con_sw 1000 2 (impl_arrivals_at1fn105_ok a0 v4 a1 a2 a3 v6 h7))) (rfl : ([1] : List Nat) = [1])) (And.intro (rfl : (impl_BestArrivals_x1 v6) = (impl_BestArrivals_x1 v6)) (And.intro (And.intro (con_sw 1000 1 (impl_nextOf_ok a0 v4 h5)) (rfl : ([] : List Nat) = [])) (And.intro (And.intro (con_sw 901 1 (con_sw 1000 2 (impl_arrivals_at1fn105_ok a0 v4 a1 a2 a3 v6 h7))) (rfl : ([1] : List Nat) = [1])) (And.intro (rfl : (impl_BestArrivals_x1 v6) = (impl_BestArrivals_x1 v6)) True.intro))))))))))) (by kernel_rfl)

-- loop.example/g03014/laws.markText
def laws_markText_L1_b (s2 : Int) (s3 : ByteArray) : Option (Ctl (Int × ByteArray) ByteArray ByteArray) :=
  bif (decide (s2 > 0)) then
  (catM (strOfNums ([IntKind.u8.wrap (w64 (48 + (Int.tmod s2 10)))] : List Int)) s3).bind fun v8 =>
  some (.next (w64 (Int.tdiv s2 10), v8))
  else
  some (.brk s3)
def laws_markText_L1 (s : Int × ByteArray) : Option (Ctl (Int × ByteArray) ByteArray ByteArray) := laws_markText_L1_b s.1 s.2
def laws_markText_L1_s (s2 : Int) (s3 : ByteArray) : St := ⟨[(0, .o (.c (.v (.int .i64 s2)))), (3, .o (.c (.v (.string s3))))], []⟩
def laws_markText_L1_S (s : Int × ByteArray) : St := laws_markText_L1_s s.1 s.2
def laws_markText_L1_a (s4 : ByteArray) : Option ByteArray :=
  (catM (ByteArray.mk #[109]) s4).bind fun v5 =>
  some v5
def laws_markText_L1_k (x : (ByteArray) ⊕ (ByteArray)) : Option ByteArray := match x with
  | .inl t => laws_markText_L1_a t
  | .inr y => some y
def laws_markText (a0 : Int) : Option ByteArray :=
  bif (decide (a0 ≤ 0)) then
  some (ByteArray.mk #[109, 48])
  else
  (loopM (laws_markText_L1) big (a0, (ByteArray.mk #[]))).bind (laws_markText_L1_k)
theorem laws_markText_ok (a0 : Int) (r : ByteArray) (hM : laws_markText a0 = some r) :
    Con Try.prog 97 [.c (.v (.int .i64 a0))] [] (.o (.c (.v (.string r)))) [] [] := by
  unfold laws_markText at hM
  refine cn (N := 20) (pids := []) Try_mixed Try.func97 (by kernel_rfl) (by kernel_rfl) (by kernel_rfl) rfl fun ρ g w R => ?_
  rcases cond_cases hM with ⟨h1, hM⟩ | ⟨h1, hM⟩
  · have hE : some (ByteArray.mk #[109, 48]) = some r := hM
    have hE := Option.some.inj hE
    subst hE
    exact pr R 9999 [.as 5 true] [] [] [] (And.intro h1 True.intro) (by kernel_rfl)
  · have K1 : ∀ (s4 : ByteArray), laws_markText_L1_a s4 = some r → Gr R [.code (cAt Try.f97 [1, 1, 1, 1])] (⟨[(3, .o (.c (.v (.string s4))))], []⟩) := by
      intro s4 hM
      unfold laws_markText_L1_a at hM
      obtain ⟨v5, h6, hM⟩ := bind_some hM
      have hE : some v5 = some r := hM
      have hE := Option.some.inj hE
      subst hE
      exact pr R 9999 [.run 19 (.string v5)] [] [] [] (And.intro (catM_run (P := Try.prog) (t := 9) (x := .tmp 0) (y := .tmp 0) h6) True.intro) (by kernel_rfl)
    refine pc R 9999 [.as 5 false] [.keep [0, 3] []] (k' := [.code (.loop (cAt Try.f97 [1, 1, 1, 0, 0, 0])), .blk 0, .code (cAt Try.f97 [1, 1, 1, 1])]) (S' := laws_markText_L1_S (a0, (ByteArray.mk #[]))) (And.intro h1 True.intro) (by kernel_rfl) ?_
    refine lq (laws_markText_L1_S) (body := laws_markText_L1) (k := laws_markText_L1_k) hM fun m1 s c1 hM hK1 => ?_
    obtain ⟨s2, s3⟩ := s
    have hM : laws_markText_L1_b s2 s3 = some c1 := hM
    unfold laws_markText_L1_b at hM
    rcases cond_cases hM with ⟨h7, hM⟩ | ⟨h7, hM⟩
    · obtain ⟨v8, h9, hM⟩ := bind_some hM
      have hE : some (Ctl.next (w64 (Int.tdiv s2 10), v8)) = some c1 := hM
      have hE := Option.some.inj hE
      subst hE
      exact pc R 9999 [.as 7 true, .new 0, .ix [.string (strOfNums ([IntKind.u8.wrap (w64 (48 + (Int.tmod s2 10)))] : List Int))], .run 15 (.string v8)] [.keep [0, 3] []] (And.intro h7 (And.intro (conv_ok ([IntKind.u8.wrap (w64 (48 + (Int.tmod s2 10)))] : List Int)) (And.intro (catM_run (P := Try.prog) (t := 9) (x := .tmp 0) (y := .tmp 0) h9) True.intro))) (by kernel_rfl) (li (Sf := laws_markText_L1_S) (M := Mk (laws_markText_L1) (laws_markText_L1_k) r) (k := [.blk 0, .code (cAt Try.f97 [1, 1, 1, 1])]) (Nat.lt_succ_self m1) hK1)
    · have hE : some (Ctl.brk s3) = some c1 := hM
      have hE := Option.some.inj hE
      subst hE
      exact pc R 5 [.as 7 false] [.keep [3] []] (And.intro h7 True.intro) (by kernel_rfl) (K1 s3 hK1)

-- loop.example/g03014/laws.markLegS
def laws_markLegS_L1_b (s1 : (List Leg)) (s2 : Int) (s3 : Int) : Option (Ctl ((List Leg) × Int × Int) ((List Leg) × Int) (Int × (List Leg))) :=
  bif (decide (s3 < (s1.length : Int))) then
  (laws_markText s2).bind fun v7 =>
  (gi s1 s3).bind fun v9 =>
  (laws_markText (w64 (s2 + 1))).bind fun v11 =>
  (gi (List.set s1 (Int.toNat s3) (Leg.mk v7 v9.To v9.Start v9.Takes v9.Days v9.Room)) s3).bind fun v13 =>
  (gi (List.set (List.set s1 (Int.toNat s3) (Leg.mk v7 v9.To v9.Start v9.Takes v9.Days v9.Room)) (Int.toNat s3) (Leg.mk v13.From v11 v13.Start v13.Takes v13.Days v13.Room)) s3).bind fun v15 =>
  (gi (List.set (List.set (List.set s1 (Int.toNat s3) (Leg.mk v7 v9.To v9.Start v9.Takes v9.Days v9.Room)) (Int.toNat s3) (Leg.mk v13.From v11 v13.Start v13.Takes v13.Days v13.Room)) (Int.toNat s3) (Leg.mk v15.From v15.To (w64 ((w64 (s2 + 1)) + 1)) v15.Takes v15.Days v15.Room)) s3).bind fun v17 =>
  (gi (List.set (List.set (List.set (List.set s1 (Int.toNat s3) (Leg.mk v7 v9.To v9.Start v9.Takes v9.Days v9.Room)) (Int.toNat s3) (Leg.mk v13.From v11 v13.Start v13.Takes v13.Days v13.Room)) (Int.toNat s3) (Leg.mk v15.From v15.To (w64 ((w64 (s2 + 1)) + 1)) v15.Takes v15.Days v15.Room)) (Int.toNat s3) (Leg.mk v17.From v17.To v17.Start (w64 ((w64 ((w64 (s2 + 1)) + 1)) + 1)) v17.Days v17.Room)) s3).bind fun v19 =>
  (gi (List.set (List.set (List.set (List.set (List.set s1 (Int.toNat s3) (Leg.mk v7 v9.To v9.Start v9.Takes v9.Days v9.Room)) (Int.toNat s3) (Leg.mk v13.From v11 v13.Start v13.Takes v13.Days v13.Room)) (Int.toNat s3) (Leg.mk v15.From v15.To (w64 ((w64 (s2 + 1)) + 1)) v15.Takes v15.Days v15.Room)) (Int.toNat s3) (Leg.mk v17.From v17.To v17.Start (w64 ((w64 ((w64 (s2 + 1)) + 1)) + 1)) v17.Days v17.Room)) (Int.toNat s3) (Leg.mk v19.From v19.To v19.Start v19.Takes (w64 ((w64 ((w64 ((w64 (s2 + 1)) + 1)) + 1)) + 1)) v19.Room)) s3).bind fun v21 =>
  some (.next (List.set (List.set (List.set (List.set (List.set (List.set s1 (Int.toNat s3) (Leg.mk v7 v9.To v9.Start v9.Takes v9.Days v9.Room)) (Int.toNat s3) (Leg.mk v13.From v11 v13.Start v13.Takes v13.Days v13.Room)) (Int.toNat s3) (Leg.mk v15.From v15.To (w64 ((w64 (s2 + 1)) + 1)) v15.Takes v15.Days v15.Room)) (Int.toNat s3) (Leg.mk v17.From v17.To v17.Start (w64 ((w64 ((w64 (s2 + 1)) + 1)) + 1)) v17.Days v17.Room)) (Int.toNat s3) (Leg.mk v19.From v19.To v19.Start v19.Takes (w64 ((w64 ((w64 ((w64 (s2 + 1)) + 1)) + 1)) + 1)) v19.Room)) (Int.toNat s3) (Leg.mk v21.From v21.To v21.Start v21.Takes v21.Days (w64 ((w64 ((w64 ((w64 ((w64 (s2 + 1)) + 1)) + 1)) + 1)) + 1))), w64 ((w64 ((w64 ((w64 ((w64 ((w64 (s2 + 1)) + 1)) + 1)) + 1)) + 1)) + 1), w64 (s3 + 1)))
  else
  some (.brk (s1, s2))
def laws_markLegS_L1 (s : (List Leg) × Int × Int) : Option (Ctl ((List Leg) × Int × Int) ((List Leg) × Int) (Int × (List Leg))) := laws_markLegS_L1_b s.1 s.2.1 s.2.2
def laws_markLegS_L1_s (s1 : (List Leg)) (s2 : Int) (s3 : Int) : St := ⟨[(0, .o (.c (.sl 900))), (1, .o (.c (.v (.int .i64 s2)))), (5, .o (.c (.v (.int .i64 s3))))], [(900, .row 77 6 (s1.map Leg.enc))]⟩
def laws_markLegS_L1_S (s : (List Leg) × Int × Int) : St := laws_markLegS_L1_s s.1 s.2.1 s.2.2
def laws_markLegS_L1_a (s4 : (List Leg)) (s5 : Int) : Option (Int × (List Leg)) :=
  some (s5, s4)
def laws_markLegS_L1_k (x : ((List Leg) × Int) ⊕ (Int × (List Leg))) : Option (Int × (List Leg)) := match x with
  | .inl t => laws_markLegS_L1_a t.1 t.2
  | .inr y => some y
def laws_markLegS (a0 : (List Leg)) (a1 : Int) : Option (Int × (List Leg)) :=
  (loopM (laws_markLegS_L1) big (a0, a1, 0)).bind (laws_markLegS_L1_k)
theorem laws_markLegS_ok (a0 : (List Leg)) (a1 : Int) (r : Int × (List Leg)) (hM : laws_markLegS a0 a1 = some r) :
    Con Try.prog 68 [.c (.sl 900), .c (.v (.int .i64 a1))] [(900, .row 77 6 (a0.map Leg.enc))] (.o (.c (.v (.int .i64 r.1)))) [(900, .row 77 6 (r.2.map Leg.enc))] [] := by
  unfold laws_markLegS at hM
  refine cn (N := 57) (pids := [900]) Try_mixed Try.func68 (by kernel_rfl) (by kernel_rfl) (by kernel_rfl) rfl fun ρ g w R => ?_
  have K1 : ∀ (s4 : (List Leg)) (s5 : Int), laws_markLegS_L1_a s4 s5 = some r → Gr R [.code (cAt Try.f68 [1, 1])] (⟨[(0, .o (.c (.sl 900))), (1, .o (.c (.v (.int .i64 s5))))], [(900, .row 77 6 (s4.map Leg.enc))]⟩) := by
    intro s4 s5 hM
    unfold laws_markLegS_L1_a at hM
    have hE : some (s5, s4) = some r := hM
    have hE := Option.some.inj hE
    subst hE
    exact pr R 9999 [] [] [900] [] True.intro (by kernel_rfl)
  refine pc R 9999 [] [.keep [0, 1, 5] [900]] (k' := [.code (.loop (cAt Try.f68 [1, 0, 1, 0, 0])), .blk 0, .code (cAt Try.f68 [1, 1])]) (S' := laws_markLegS_L1_S (a0, a1, 0)) True.intro (by kernel_rfl) ?_
  refine lq (laws_markLegS_L1_S) (body := laws_markLegS_L1) (k := laws_markLegS_L1_k) hM fun m1 s c1 hM hK1 => ?_
  obtain ⟨s1, s2, s3⟩ := s
  have hM : laws_markLegS_L1_b s1 s2 s3 = some c1 := hM
  unfold laws_markLegS_L1_b at hM
  rcases cond_cases hM with ⟨h6, hM⟩ | ⟨h6, hM⟩
  · obtain ⟨v7, h8, hM⟩ := bind_some hM
    obtain ⟨v9, h10, hM⟩ := bind_some hM
    obtain ⟨v11, h12, hM⟩ := bind_some hM
    obtain ⟨v13, h14, hM⟩ := bind_some hM
    obtain ⟨v15, h16, hM⟩ := bind_some hM
    obtain ⟨v17, h18, hM⟩ := bind_some hM
    obtain ⟨v19, h20, hM⟩ := bind_some hM
    obtain ⟨v21, h22, hM⟩ := bind_some hM
    have hE : some (Ctl.next (List.set (List.set (List.set (List.set (List.set (List.set s1 (Int.toNat s3) (Leg.mk v7 v9.To v9.Start v9.Takes v9.Days v9.Room)) (Int.toNat s3) (Leg.mk v13.From v11 v13.Start v13.Takes v13.Days v13.Room)) (Int.toNat s3) (Leg.mk v15.From v15.To (w64 ((w64 (s2 + 1)) + 1)) v15.Takes v15.Days v15.Room)) (Int.toNat s3) (Leg.mk v17.From v17.To v17.Start (w64 ((w64 ((w64 (s2 + 1)) + 1)) + 1)) v17.Days v17.Room)) (Int.toNat s3) (Leg.mk v19.From v19.To v19.Start v19.Takes (w64 ((w64 ((w64 ((w64 (s2 + 1)) + 1)) + 1)) + 1)) v19.Room)) (Int.toNat s3) (Leg.mk v21.From v21.To v21.Start v21.Takes v21.Days (w64 ((w64 ((w64 ((w64 ((w64 (s2 + 1)) + 1)) + 1)) + 1)) + 1))), w64 ((w64 ((w64 ((w64 ((w64 ((w64 (s2 + 1)) + 1)) + 1)) + 1)) + 1)) + 1), w64 (s3 + 1))) = some c1 := hM
    have hE := Option.some.inj hE
    subst hE
    exact pc R 9999 [.ln (s1.length), .as 9 true, .call false [] (.o (.c (.v (.string v7)))) [] [], .ix (Leg.enc v9), .nm ((List.set s1 (Int.toNat s3) (Leg.mk v7 v9.To v9.Start v9.Takes v9.Days v9.Room)).map Leg.enc), .call false [] (.o (.c (.v (.string v11)))) [] [], .ix (Leg.enc v13), .nm ((List.set (List.set s1 (Int.toNat s3) (Leg.mk v7 v9.To v9.Start v9.Takes v9.Days v9.Room)) (Int.toNat s3) (Leg.mk v13.From v11 v13.Start v13.Takes v13.Days v13.Room)).map Leg.enc), .ix (Leg.enc v15), .nm ((List.set (List.set (List.set s1 (Int.toNat s3) (Leg.mk v7 v9.To v9.Start v9.Takes v9.Days v9.Room)) (Int.toNat s3) (Leg.mk v13.From v11 v13.Start v13.Takes v13.Days v13.Room)) (Int.toNat s3) (Leg.mk v15.From v15.To (w64 ((w64 (s2 + 1)) + 1)) v15.Takes v15.Days v15.Room)).map Leg.enc), .ix (Leg.enc v17), .nm ((List.set (List.set (List.set (List.set s1 (Int.toNat s3) (Leg.mk v7 v9.To v9.Start v9.Takes v9.Days v9.Room)) (Int.toNat s3) (Leg.mk v13.From v11 v13.Start v13.Takes v13.Days v13.Room)) (Int.toNat s3) (Leg.mk v15.From v15.To (w64 ((w64 (s2 + 1)) + 1)) v15.Takes v15.Days v15.Room)) (Int.toNat s3) (Leg.mk v17.From v17.To v17.Start (w64 ((w64 ((w64 (s2 + 1)) + 1)) + 1)) v17.Days v17.Room)).map Leg.enc), .ix (Leg.enc v19), .nm ((List.set (List.set (List.set (List.set (List.set s1 (Int.toNat s3) (Leg.mk v7 v9.To v9.Start v9.Takes v9.Days v9.Room)) (Int.toNat s3) (Leg.mk v13.From v11 v13.Start v13.Takes v13.Days v13.Room)) (Int.toNat s3) (Leg.mk v15.From v15.To (w64 ((w64 (s2 + 1)) + 1)) v15.Takes v15.Days v15.Room)) (Int.toNat s3) (Leg.mk v17.From v17.To v17.Start (w64 ((w64 ((w64 (s2 + 1)) + 1)) + 1)) v17.Days v17.Room)) (Int.toNat s3) (Leg.mk v19.From v19.To v19.Start v19.Takes (w64 ((w64 ((w64 ((w64 (s2 + 1)) + 1)) + 1)) + 1)) v19.Room)).map Leg.enc), .ix (Leg.enc v21), .nm ((List.set (List.set (List.set (List.set (List.set (List.set s1 (Int.toNat s3) (Leg.mk v7 v9.To v9.Start v9.Takes v9.Days v9.Room)) (Int.toNat s3) (Leg.mk v13.From v11 v13.Start v13.Takes v13.Days v13.Room)) (Int.toNat s3) (Leg.mk v15.From v15.To (w64 ((w64 (s2 + 1)) + 1)) v15.Takes v15.Days v15.Room)) (Int.toNat s3) (Leg.mk v17.From v17.To v17.Start (w64 ((w64 ((w64 (s2 + 1)) + 1)) + 1)) v17.Days v17.Room)) (Int.toNat s3) (Leg.mk v19.From v19.To v19.Start v19.Takes (w64 ((w64 ((w64 ((w64 (s2 + 1)) + 1)) + 1)) + 1)) v19.Room)) (Int.toNat s3) (Leg.mk v21.From v21.To v21.Start v21.Takes v21.Days (w64 ((w64 ((w64 ((w64 ((w64 (s2 + 1)) + 1)) + 1)) + 1)) + 1)))).map Leg.enc)] [.keep [0, 1, 5] [900]] (And.intro (lenm Leg.enc s1) (And.intro h6 (And.intro (laws_markText_ok s2 v7 h8) (And.intro (gi_lt Leg.enc h10) (And.intro (And.intro (gi_map Leg.enc h10).2 (set_map Leg.enc s1 (Int.toNat s3) (Leg.mk v7 v9.To v9.Start v9.Takes v9.Days v9.Room))) (And.intro (laws_markText_ok (w64 (s2 + 1)) v11 h12) (And.intro (gi_lt Leg.enc h14) (And.intro (And.intro (gi_map Leg.enc h14).2 (set_map Leg.enc (List.set s1 (Int.toNat s3) (Leg.mk v7 v9.To v9.Start v9.Takes v9.Days v9.Room)) (Int.toNat s3) (Leg.mk v13.From v11 v13.Start v13.Takes v13.Days v13.Room))) (And.intro (gi_lt Leg.enc h16) (And.intro (And.intro (gi_map Leg.enc h16).2 (set_map Leg.enc (List.set (List.set s1 (Int.toNat s3) (Leg.mk v7 v9.To v9.Start v9.Takes v9.Days v9.Room)) (Int.toNat s3) (Leg.mk v13.From v11 v13.Start v13.Takes v13.Days v13.Room)) (Int.toNat s3) (Leg.mk v15.From v15.To (w64 ((w64 (s2 + 1)) + 1)) v15.Takes v15.Days v15.Room))) (And.intro (gi_lt Leg.enc h18) (And.intro (And.intro (gi_map Leg.enc h18).2 (set_map Leg.enc (List.set (List.set (List.set s1 (Int.toNat s3) (Leg.mk v7 v9.To v9.Start v9.Takes v9.Days v9.Room)) (Int.toNat s3) (Leg.mk v13.From v11 v13.Start v13.Takes v13.Days v13.Room)) (Int.toNat s3) (Leg.mk v15.From v15.To (w64 ((w64 (s2 + 1)) + 1)) v15.Takes v15.Days v15.Room)) (Int.toNat s3) (Leg.mk v17.From v17.To v17.Start (w64 ((w64 ((w64 (s2 + 1)) + 1)) + 1)) v17.Days v17.Room))) (And.intro (gi_lt Leg.enc h20) (And.intro (And.intro (gi_map Leg.enc h20).2 (set_map Leg.enc (List.set (List.set (List.set (List.set s1 (Int.toNat s3) (Leg.mk v7 v9.To v9.Start v9.Takes v9.Days v9.Room)) (Int.toNat s3) (Leg.mk v13.From v11 v13.Start v13.Takes v13.Days v13.Room)) (Int.toNat s3) (Leg.mk v15.From v15.To (w64 ((w64 (s2 + 1)) + 1)) v15.Takes v15.Days v15.Room)) (Int.toNat s3) (Leg.mk v17.From v17.To v17.Start (w64 ((w64 ((w64 (s2 + 1)) + 1)) + 1)) v17.Days v17.Room)) (Int.toNat s3) (Leg.mk v19.From v19.To v19.Start v19.Takes (w64 ((w64 ((w64 ((w64 (s2 + 1)) + 1)) + 1)) + 1)) v19.Room))) (And.intro (gi_lt Leg.enc h22) (And.intro (And.intro (gi_map Leg.enc h22).2 (set_map Leg.enc (List.set (List.set (List.set (List.set (List.set s1 (Int.toNat s3) (Leg.mk v7 v9.To v9.Start v9.Takes v9.Days v9.Room)) (Int.toNat s3) (Leg.mk v13.From v11 v13.Start v13.Takes v13.Days v13.Room)) (Int.toNat s3) (Leg.mk v15.From v15.To (w64 ((w64 (s2 + 1)) + 1)) v15.Takes v15.Days v15.Room)) (Int.toNat s3) (Leg.mk v17.From v17.To v17.Start (w64 ((w64 ((w64 (s2 + 1)) + 1)) + 1)) v17.Days v17.Room)) (Int.toNat s3) (Leg.mk v19.From v19.To v19.Start v19.Takes (w64 ((w64 ((w64 ((w64 (s2 + 1)) + 1)) + 1)) + 1)) v19.Room)) (Int.toNat s3) (Leg.mk v21.From v21.To v21.Start v21.Takes v21.Days (w64 ((w64 ((w64 ((w64 ((w64 (s2 + 1)) + 1)) + 1)) + 1)) + 1))))) True.intro)))))))))))))))) (by kernel_rfl) (li (Sf := laws_markLegS_L1_S) (M := Mk (laws_markLegS_L1) (laws_markLegS_L1_k) r) (k := [.blk 0, .code (cAt Try.f68 [1, 1])]) (Nat.lt_succ_self m1) hK1)
  · have hE : some (Ctl.brk (s1, s2)) = some c1 := hM
    have hE := Option.some.inj hE
    subst hE
    exact pc R 5 [.ln (s1.length), .as 9 false] [.keep [0, 1] [900]] (And.intro (lenm Leg.enc s1) (And.intro h6 True.intro)) (by kernel_rfl) (K1 s1 s2 hK1)

-- loop.example/g03014/laws.markIntS
def laws_markIntS_L1_b (s1 : (List Int)) (s2 : Int) (s3 : Int) : Option (Ctl ((List Int) × Int × Int) ((List Int) × Int) (Int × (List Int))) :=
  bif (decide (s3 < (s1.length : Int))) then
  (gi s1 s3).bind fun v7 =>
  some (.next (List.set s1 (Int.toNat s3) s2, w64 (s2 + 1), w64 (s3 + 1)))
  else
  some (.brk (s1, s2))
def laws_markIntS_L1 (s : (List Int) × Int × Int) : Option (Ctl ((List Int) × Int × Int) ((List Int) × Int) (Int × (List Int))) := laws_markIntS_L1_b s.1 s.2.1 s.2.2
def laws_markIntS_L1_s (s1 : (List Int)) (s2 : Int) (s3 : Int) : St := ⟨[(0, .o (.c (.sl 900))), (1, .o (.c (.v (.int .i64 s2)))), (5, .o (.c (.v (.int .i64 s3))))], [(900, .row 3 1 (s1.map encI))]⟩
def laws_markIntS_L1_S (s : (List Int) × Int × Int) : St := laws_markIntS_L1_s s.1 s.2.1 s.2.2
def laws_markIntS_L1_a (s4 : (List Int)) (s5 : Int) : Option (Int × (List Int)) :=
  some (s5, s4)
def laws_markIntS_L1_k (x : ((List Int) × Int) ⊕ (Int × (List Int))) : Option (Int × (List Int)) := match x with
  | .inl t => laws_markIntS_L1_a t.1 t.2
  | .inr y => some y
def laws_markIntS (a0 : (List Int)) (a1 : Int) : Option (Int × (List Int)) :=
  (loopM (laws_markIntS_L1) big (a0, a1, 0)).bind (laws_markIntS_L1_k)
theorem laws_markIntS_ok (a0 : (List Int)) (a1 : Int) (r : Int × (List Int)) (hM : laws_markIntS a0 a1 = some r) :
    Con Try.prog 38 [.c (.sl 900), .c (.v (.int .i64 a1))] [(900, .row 3 1 (a0.map encI))] (.o (.c (.v (.int .i64 r.1)))) [(900, .row 3 1 (r.2.map encI))] [] := by
  unfold laws_markIntS at hM
  refine cn (N := 19) (pids := [900]) Try_mixed Try.func38 (by kernel_rfl) (by kernel_rfl) (by kernel_rfl) rfl fun ρ g w R => ?_
  have K1 : ∀ (s4 : (List Int)) (s5 : Int), laws_markIntS_L1_a s4 s5 = some r → Gr R [.code (cAt Try.f38 [1, 1])] (⟨[(0, .o (.c (.sl 900))), (1, .o (.c (.v (.int .i64 s5))))], [(900, .row 3 1 (s4.map encI))]⟩) := by
    intro s4 s5 hM
    unfold laws_markIntS_L1_a at hM
    have hE : some (s5, s4) = some r := hM
    have hE := Option.some.inj hE
    subst hE
    exact pr R 9999 [] [] [900] [] True.intro (by kernel_rfl)
  refine pc R 9999 [] [.keep [0, 1, 5] [900]] (k' := [.code (.loop (cAt Try.f38 [1, 0, 1, 0, 0])), .blk 0, .code (cAt Try.f38 [1, 1])]) (S' := laws_markIntS_L1_S (a0, a1, 0)) True.intro (by kernel_rfl) ?_
  refine lq (laws_markIntS_L1_S) (body := laws_markIntS_L1) (k := laws_markIntS_L1_k) hM fun m1 s c1 hM hK1 => ?_
  obtain ⟨s1, s2, s3⟩ := s
  have hM : laws_markIntS_L1_b s1 s2 s3 = some c1 := hM
  unfold laws_markIntS_L1_b at hM
  rcases cond_cases hM with ⟨h6, hM⟩ | ⟨h6, hM⟩
  · obtain ⟨v7, h8, hM⟩ := bind_some hM
    have hE : some (Ctl.next (List.set s1 (Int.toNat s3) s2, w64 (s2 + 1), w64 (s3 + 1))) = some c1 := hM
    have hE := Option.some.inj hE
    subst hE
    exact pc R 9999 [.ln (s1.length), .as 9 true, .ix (encI v7), .nm ((List.set s1 (Int.toNat s3) s2).map encI)] [.keep [0, 1, 5] [900]] (And.intro (lenm encI s1) (And.intro h6 (And.intro (gi_lt encI h8) (And.intro (And.intro (gi_map encI h8).2 (set_map encI s1 (Int.toNat s3) s2)) True.intro)))) (by kernel_rfl) (li (Sf := laws_markIntS_L1_S) (M := Mk (laws_markIntS_L1) (laws_markIntS_L1_k) r) (k := [.blk 0, .code (cAt Try.f38 [1, 1])]) (Nat.lt_succ_self m1) hK1)
  · have hE : some (Ctl.brk (s1, s2)) = some c1 := hM
    have hE := Option.some.inj hE
    subst hE
    exact pc R 5 [.ln (s1.length), .as 9 false] [.keep [0, 1] [900]] (And.intro (lenm encI s1) (And.intro h6 True.intro)) (by kernel_rfl) (K1 s1 s2 hK1)

-- loop.example/g03014/laws.markNetwork
def laws_markNetwork (a0 : Network) (a1 : Int) : Option (Int × Network) :=
  (laws_markLegS a0.Legs a1).bind fun v1 =>
  (laws_markIntS a0.Off v1.1).bind fun v3 =>
  some (v3.1, (Network.mk v1.2 v3.2 a0.Change))
theorem laws_markNetwork_ok (a0 : Network) (a1 : Int) (r : Int × Network) (hM : laws_markNetwork a0 a1 = some r) :
    Con Try.prog 19 [.agg [.sl 900, .sl 920, .v (.int .i64 a0.Change)], .c (.v (.int .i64 a1))] [(900, .row 77 6 (a0.Legs.map Leg.enc)), (920, .row 3 1 (a0.Off.map encI))] (.o (.c (.v (.int .i64 r.1)))) [(900, .row 77 6 (r.2.Legs.map Leg.enc)), (920, .row 3 1 (r.2.Off.map encI))] [] := by
  unfold laws_markNetwork at hM
  refine cn (N := 14) (pids := [900, 920]) Try_mixed Try.func19 (by kernel_rfl) (by kernel_rfl) (by kernel_rfl) rfl fun ρ g w R => ?_
  obtain ⟨v1, h2, hM⟩ := bind_some hM
  obtain ⟨v3, h4, hM⟩ := bind_some hM
  have hE : some (v3.1, (Network.mk v1.2 v3.2 a0.Change)) = some r := hM
  have hE := Option.some.inj hE
  subst hE
  exact pr R 9999 [.new 0, .call false [900] (.o (.c (.v (.int .i64 v1.1)))) [(900, .row 77 6 (v1.2.map Leg.enc))] [], .call false [920] (.o (.c (.v (.int .i64 v3.1)))) [(920, .row 3 1 (v3.2.map encI))] []] [] [900, 920] [] (And.intro (And.intro (con_sw 900 900 (laws_markLegS_ok a0.Legs a1 v1 h2)) (rfl : ([900] : List Nat) = [900])) (And.intro (And.intro (con_sw 900 920 (laws_markIntS_ok a0.Off v1.1 v3 h4)) (rfl : ([920] : List Nat) = [920])) True.intro)) (by kernel_rfl)

-- loop.example/g03014/laws.heldIntS
def laws_heldIntS_L1_b (a0 : (List Int)) (s1 : Int) (s2 : Int) : Option (Ctl (Int × Int) Int Int) :=
  bif (decide (s2 < (a0.length : Int))) then
  (gi a0 s2).bind fun v5 =>
  bif (v5 != s1) then
  some (.ret (-1))
  else
  some (.next (w64 (s1 + 1), w64 (s2 + 1)))
  else
  some (.brk s1)
def laws_heldIntS_L1 (a0 : (List Int)) (s : Int × Int) : Option (Ctl (Int × Int) Int Int) := laws_heldIntS_L1_b a0 s.1 s.2
def laws_heldIntS_L1_s (a0 : (List Int)) (s1 : Int) (s2 : Int) : St := ⟨[(0, .o (.c (.rs 1 (a0.map encI)))), (1, .o (.c (.v (.int .i64 s1)))), (5, .o (.c (.v (.int .i64 s2))))], []⟩
def laws_heldIntS_L1_S (a0 : (List Int)) (s : Int × Int) : St := laws_heldIntS_L1_s a0 s.1 s.2
def laws_heldIntS_L1_a (s3 : Int) : Option Int :=
  some s3
def laws_heldIntS_L1_k (x : (Int) ⊕ (Int)) : Option Int := match x with
  | .inl t => laws_heldIntS_L1_a t
  | .inr y => some y
def laws_heldIntS (a0 : (List Int)) (a1 : Int) : Option Int :=
  (loopM (laws_heldIntS_L1 a0) big (a1, 0)).bind (laws_heldIntS_L1_k)
theorem laws_heldIntS_ok (a0 : (List Int)) (a1 : Int) (r : Int) (hM : laws_heldIntS a0 a1 = some r) :
    Con Try.prog 39 [.c (.rs 1 (a0.map encI)), .c (.v (.int .i64 a1))] [] (.o (.c (.v (.int .i64 r)))) [] [] := by
  unfold laws_heldIntS at hM
  refine cn (N := 21) (pids := []) Try_mixed Try.func39 (by kernel_rfl) (by kernel_rfl) (by kernel_rfl) rfl fun ρ g w R => ?_
  have K1 : ∀ (s3 : Int), laws_heldIntS_L1_a s3 = some r → Gr R [.code (cAt Try.f39 [1, 1])] (⟨[(1, .o (.c (.v (.int .i64 s3))))], []⟩) := by
    intro s3 hM
    unfold laws_heldIntS_L1_a at hM
    have hE : some s3 = some r := hM
    have hE := Option.some.inj hE
    subst hE
    exact pr R 9999 [] [] [] [] True.intro (by kernel_rfl)
  refine pc R 9999 [] [.keep [0, 1, 5] []] (k' := [.code (.loop (cAt Try.f39 [1, 0, 1, 0, 0])), .blk 0, .code (cAt Try.f39 [1, 1])]) (S' := laws_heldIntS_L1_S a0 (a1, 0)) True.intro (by kernel_rfl) ?_
  refine lq (laws_heldIntS_L1_S a0) (body := laws_heldIntS_L1 a0) (k := laws_heldIntS_L1_k) hM fun m1 s c1 hM hK1 => ?_
  obtain ⟨s1, s2⟩ := s
  have hM : laws_heldIntS_L1_b a0 s1 s2 = some c1 := hM
  unfold laws_heldIntS_L1_b at hM
  rcases cond_cases hM with ⟨h4, hM⟩ | ⟨h4, hM⟩
  · obtain ⟨v5, h6, hM⟩ := bind_some hM
    rcases cond_cases hM with ⟨h7, hM⟩ | ⟨h7, hM⟩
    · have hE : some (Ctl.ret (-1)) = some c1 := hM
      have hE := Option.some.inj hE
      subst hE
      have hE : some (-1) = some r := hK1
      have hE := Option.some.inj hE
      subst hE
      exact pr R 9999 [.ln (a0.length), .as 9 true, .ix (encI v5), .as 17 true] [] [] [] (And.intro (lenm encI a0) (And.intro h4 (And.intro (gi_map encI h6) (And.intro h7 True.intro)))) (by kernel_rfl)
    · have hE : some (Ctl.next (w64 (s1 + 1), w64 (s2 + 1))) = some c1 := hM
      have hE := Option.some.inj hE
      subst hE
      exact pc R 9999 [.ln (a0.length), .as 9 true, .ix (encI v5), .as 17 false] [.keep [0, 1, 5] []] (And.intro (lenm encI a0) (And.intro h4 (And.intro (gi_map encI h6) (And.intro h7 True.intro)))) (by kernel_rfl) (li (Sf := laws_heldIntS_L1_S a0) (M := Mk (laws_heldIntS_L1 a0) (laws_heldIntS_L1_k) r) (k := [.blk 0, .code (cAt Try.f39 [1, 1])]) (Nat.lt_succ_self m1) hK1)
  · have hE : some (Ctl.brk s1) = some c1 := hM
    have hE := Option.some.inj hE
    subst hE
    exact pc R 5 [.ln (a0.length), .as 9 false] [.keep [1] []] (And.intro (lenm encI a0) (And.intro h4 True.intro)) (by kernel_rfl) (K1 s1 hK1)

-- loop.example/g03014/laws.FnExactBestArrivals
def laws_FnExactBestArrivals_x1 (a0 : Network) (a1 : ByteArray) (a2 : Int) (a3 : Int) (v7 : (List Int)) (v9 : Network) (v11 : (List Int)) (v18 : Bool) : St := ⟨[(1, .o (.c (.v (.string a1)))), (2, .o (.c (.v (.int .i64 a2)))), (3, .o (.c (.v (.int .i64 a3)))), (4, .o (.c (.ptr 0 0))), (10, .o (.c (.sl 3))), (11, .o (.c (.ptr 6 0))), (12, .o (.c (.sl 7))), (46, .o (.c (.v (.bool (!v18)))))], [(0, .box 25 [.rs 6 (a0.Legs.map Leg.enc), .rs 1 (a0.Off.map encI), .v (.int .i64 a0.Change)]), (3, .row 3 1 (v7.map encI)), (6, .box 32 [.sl 4, .sl 5, .v (.int .i64 v9.Change)]), (4, .row 77 6 (v9.Legs.map Leg.enc)), (5, .row 3 1 (v9.Off.map encI)), (7, .row 3 1 (v11.map encI))]⟩
def laws_FnExactBestArrivals (a0 : Network) (a1 : ByteArray) (a2 : Int) (a3 : Int) : Option Bool :=
  bif (decide ((a1.size : Int) > 1048576)) then
  some true
  else
  (laws_szNetwork a0 1048576).bind fun v2 =>
  bif (decide (v2 < 0)) then
  some true
  else
  (laws_toNetwork a0).bind fun v5 =>
  (spec_BestArrivals v5 a1 a2 a3).bind fun v7 =>
  (laws_toNetwork a0).bind fun v9 =>
  (impl_BestArrivals v9 a1 a2 a3).bind fun v11 =>
  (laws_eqIntS v11 v7).bind fun v13 =>
  bif (!v13) then
  some false
  else
  (laws_toNetwork a0).bind fun v16 =>
  (laws_eqNetwork v9 v16).bind fun v18 =>
  bif (!v18) then
  some false
  else
  (laws_markNetwork v9 1).bind fun v21 =>
  bif (decide (v21.1 < 0)) then
  some false
  else
  (laws_eqIntS v11 v7).bind fun v24 =>
  bif (!v24) then
  some false
  else
  (laws_markIntS v11 1).bind fun v27 =>
  (laws_heldIntS v27.2 1).bind fun v29 =>
  bif (decide (v29 < 0)) then
  some false
  else
  bif (v29 != v27.1) then
  some false
  else
  (laws_toNetwork a0).bind fun v33 =>
  (impl_BestArrivals v33 a1 a2 a3).bind fun v35 =>
  (laws_eqIntS v35 v7).bind fun v37 =>
  bif (!v37) then
  some false
  else
  (laws_heldIntS v27.2 1).bind fun v40 =>
  bif (decide (v40 < 0)) then
  some false
  else
  bif (v40 != v27.1) then
  some false
  else
  some true
theorem laws_FnExactBestArrivals_ok (a0 : Network) (a1 : ByteArray) (a2 : Int) (a3 : Int) (r : Bool) (hM : laws_FnExactBestArrivals a0 a1 a2 a3 = some r) :
    Con Try.prog 10 [.agg [.rs 6 (a0.Legs.map Leg.enc), .rs 1 (a0.Off.map encI), .v (.int .i64 a0.Change)], .c (.v (.string a1)), .c (.v (.int .i64 a2)), .c (.v (.int .i64 a3))] [] (.o (.c (.v (.bool r)))) [] [] := by
  unfold laws_FnExactBestArrivals at hM
  refine cn (N := 87) (pids := []) Try_mixed Try.func10 (by kernel_rfl) (by kernel_rfl) (by kernel_rfl) rfl fun ρ g w R => ?_
  rcases cond_cases hM with ⟨h1, hM⟩ | ⟨h1, hM⟩
  · have hE : some true = some r := hM
    have hE := Option.some.inj hE
    subst hE
    exact pr R 9999 [.new 0, .as 19 true] [] [] [] (And.intro h1 True.intro) (by kernel_rfl)
  · obtain ⟨v2, h3, hM⟩ := bind_some hM
    rcases cond_cases hM with ⟨h4, hM⟩ | ⟨h4, hM⟩
    · have hE : some true = some r := hM
      have hE := Option.some.inj hE
      subst hE
      exact pr R 9999 [.new 0, .as 19 false, .call false [] (.o (.c (.v (.int .i64 v2)))) [] [], .as 24 true] [] [] [] (And.intro h1 (And.intro (laws_szNetwork_ok a0 1048576 v2 h3) (And.intro h4 True.intro))) (by kernel_rfl)
    · obtain ⟨v5, h6, hM⟩ := bind_some hM
      obtain ⟨v7, h8, hM⟩ := bind_some hM
      obtain ⟨v9, h10, hM⟩ := bind_some hM
      obtain ⟨v11, h12, hM⟩ := bind_some hM
      obtain ⟨v13, h14, hM⟩ := bind_some hM
      rcases cond_cases hM with ⟨h15, hM⟩ | ⟨h15, hM⟩
      · have hE : some false = some r := hM
        have hE := Option.some.inj hE
        subst hE
        exact pr R 9999 [.new 0, .as 19 false, .call false [] (.o (.c (.v (.int .i64 v2)))) [] [], .as 24 false, .call false [] (.o (.agg [.sl 1, .sl 2, .v (.int .i64 v5.Change)])) [] [(1, .row 77 6 (v5.Legs.map Leg.enc)), (2, .row 3 1 (v5.Off.map encI))], .call false [] (.o (.c (.sl 3))) [] [(3, .row 3 1 (v7.map encI))], .call false [] (.o (.agg [.sl 4, .sl 5, .v (.int .i64 v9.Change)])) [] [(4, .row 77 6 (v9.Legs.map Leg.enc)), (5, .row 3 1 (v9.Off.map encI))], .new 6, .call false [] (.o (.c (.sl 7))) [] [(7, .row 3 1 (v11.map encI))], .call false [] (.o (.c (.v (.bool v13)))) [] [], .as 41 true] [] [] [] (And.intro h1 (And.intro (laws_szNetwork_ok a0 1048576 v2 h3) (And.intro h4 (And.intro (And.intro (con_sw 1001 2 (con_sw 1000 1 (laws_toNetwork_ok a0 v5 h6))) (rfl : ([] : List Nat) = [])) (And.intro (And.intro (con_sw 1000 3 (spec_BestArrivals_ok v5 a1 a2 a3 v7 h8)) (rfl : ([] : List Nat) = [])) (And.intro (And.intro (con_sw 1001 5 (con_sw 1000 4 (laws_toNetwork_ok a0 v9 h10))) (rfl : ([] : List Nat) = [])) (And.intro (And.intro (con_sw 1000 7 (impl_BestArrivals_ok v9 a1 a2 a3 v11 h12)) (rfl : ([] : List Nat) = [])) (And.intro (laws_eqIntS_ok v11 v7 v13 h14) (And.intro h15 True.intro))))))))) (by kernel_rfl)
      · obtain ⟨v16, h17, hM⟩ := bind_some hM
        obtain ⟨v18, h19, hM⟩ := bind_some hM
        rcases cond_cases hM with ⟨h20, hM⟩ | ⟨h20, hM⟩
        · have hE : some false = some r := hM
          have hE := Option.some.inj hE
          subst hE
          exact pr R 9999 [.new 0, .as 19 false, .call false [] (.o (.c (.v (.int .i64 v2)))) [] [], .as 24 false, .call false [] (.o (.agg [.sl 1, .sl 2, .v (.int .i64 v5.Change)])) [] [(1, .row 77 6 (v5.Legs.map Leg.enc)), (2, .row 3 1 (v5.Off.map encI))], .call false [] (.o (.c (.sl 3))) [] [(3, .row 3 1 (v7.map encI))], .call false [] (.o (.agg [.sl 4, .sl 5, .v (.int .i64 v9.Change)])) [] [(4, .row 77 6 (v9.Legs.map Leg.enc)), (5, .row 3 1 (v9.Off.map encI))], .new 6, .call false [] (.o (.c (.sl 7))) [] [(7, .row 3 1 (v11.map encI))], .call false [] (.o (.c (.v (.bool v13)))) [] [], .as 41 false, .xo [[], [], [.call false [] (.o (.agg [.sl 8, .sl 9, .v (.int .i64 v16.Change)])) [] [(8, .row 77 6 (v16.Legs.map Leg.enc)), (9, .row 3 1 (v16.Off.map encI))]], [.call false [] (.o (.c (.v (.bool v18)))) [] []], []] [.keep [1, 2, 3, 4, 10, 11, 12, 46] [0, 3, 6, 4, 5, 7]] (laws_FnExactBestArrivals_x1 a0 a1 a2 a3 v7 v9 v11 v18), .as 46 true] [] [] [] (And.intro h1 (And.intro (laws_szNetwork_ok a0 1048576 v2 h3) (And.intro h4 (And.intro (And.intro (con_sw 1001 2 (con_sw 1000 1 (laws_toNetwork_ok a0 v5 h6))) (rfl : ([] : List Nat) = [])) (And.intro (And.intro (con_sw 1000 3 (spec_BestArrivals_ok v5 a1 a2 a3 v7 h8)) (rfl : ([] : List Nat) = [])) (And.intro (And.intro (con_sw 1001 5 (con_sw 1000 4 (laws_toNetwork_ok a0 v9 h10))) (rfl : ([] : List Nat) = [])) (And.intro (And.intro (con_sw 1000 7 (impl_BestArrivals_ok v9 a1 a2 a3 v11 h12)) (rfl : ([] : List Nat) = [])) (And.intro (laws_eqIntS_ok v11 v7 v13 h14) (And.intro h15 (And.intro (And.intro (con_sw 1001 9 (con_sw 1000 8 (laws_toNetwork_ok a0 v16 h17))) (rfl : ([] : List Nat) = [])) (And.intro (laws_eqNetwork_ok v9 v16 v18 h19) (And.intro (rfl : (laws_FnExactBestArrivals_x1 a0 a1 a2 a3 v7 v9 v11 v18) = (laws_FnExactBestArrivals_x1 a0 a1 a2 a3 v7 v9 v11 v18)) (And.intro (And.intro (con_sw 1001 9 (con_sw 1000 8 (laws_toNetwork_ok a0 v16 h17))) (rfl : ([] : List Nat) = [])) (And.intro (laws_eqNetwork_ok v9 v16 v18 h19) (And.intro (rfl : (laws_FnExactBestArrivals_x1 a0 a1 a2 a3 v7 v9 v11 v18) = (laws_FnExactBestArrivals_x1 a0 a1 a2 a3 v7 v9 v11 v18)) (And.intro (And.intro (con_sw 1001 9 (con_sw 1000 8 (laws_toNetwork_ok a0 v16 h17))) (rfl : ([] : List Nat) = [])) (And.intro (laws_eqNetwork_ok v9 v16 v18 h19) (And.intro (rfl : (laws_FnExactBestArrivals_x1 a0 a1 a2 a3 v7 v9 v11 v18) = (laws_FnExactBestArrivals_x1 a0 a1 a2 a3 v7 v9 v11 v18)) (And.intro h20 True.intro))))))))))))))))))) (by kernel_rfl)
        · obtain ⟨v21, h22, hM⟩ := bind_some hM
          rcases cond_cases hM with ⟨h23, hM⟩ | ⟨h23, hM⟩
          · have hE : some false = some r := hM
            have hE := Option.some.inj hE
            subst hE
            exact pr R 9999 [.new 0, .as 19 false, .call false [] (.o (.c (.v (.int .i64 v2)))) [] [], .as 24 false, .call false [] (.o (.agg [.sl 1, .sl 2, .v (.int .i64 v5.Change)])) [] [(1, .row 77 6 (v5.Legs.map Leg.enc)), (2, .row 3 1 (v5.Off.map encI))], .call false [] (.o (.c (.sl 3))) [] [(3, .row 3 1 (v7.map encI))], .call false [] (.o (.agg [.sl 4, .sl 5, .v (.int .i64 v9.Change)])) [] [(4, .row 77 6 (v9.Legs.map Leg.enc)), (5, .row 3 1 (v9.Off.map encI))], .new 6, .call false [] (.o (.c (.sl 7))) [] [(7, .row 3 1 (v11.map encI))], .call false [] (.o (.c (.v (.bool v13)))) [] [], .as 41 false, .xo [[], [], [.call false [] (.o (.agg [.sl 8, .sl 9, .v (.int .i64 v16.Change)])) [] [(8, .row 77 6 (v16.Legs.map Leg.enc)), (9, .row 3 1 (v16.Off.map encI))]], [.call false [] (.o (.c (.v (.bool v18)))) [] []], []] [.keep [1, 2, 3, 4, 10, 11, 12, 46] [0, 3, 6, 4, 5, 7]] (laws_FnExactBestArrivals_x1 a0 a1 a2 a3 v7 v9 v11 v18), .as 46 false, .ad (.keep [1, 2, 3, 4, 10, 11, 12, 13, 46, 47, 48] [4, 5, 0, 3, 6, 7]), .call false [4, 5] (.o (.c (.v (.int .i64 v21.1)))) [(4, .row 77 6 (v21.2.Legs.map Leg.enc)), (5, .row 3 1 (v21.2.Off.map encI))] [], .as 52 true] [] [] [] (And.intro h1 (And.intro (laws_szNetwork_ok a0 1048576 v2 h3) (And.intro h4 (And.intro (And.intro (con_sw 1001 2 (con_sw 1000 1 (laws_toNetwork_ok a0 v5 h6))) (rfl : ([] : List Nat) = [])) (And.intro (And.intro (con_sw 1000 3 (spec_BestArrivals_ok v5 a1 a2 a3 v7 h8)) (rfl : ([] : List Nat) = [])) (And.intro (And.intro (con_sw 1001 5 (con_sw 1000 4 (laws_toNetwork_ok a0 v9 h10))) (rfl : ([] : List Nat) = [])) (And.intro (And.intro (con_sw 1000 7 (impl_BestArrivals_ok v9 a1 a2 a3 v11 h12)) (rfl : ([] : List Nat) = [])) (And.intro (laws_eqIntS_ok v11 v7 v13 h14) (And.intro h15 (And.intro (And.intro (con_sw 1001 9 (con_sw 1000 8 (laws_toNetwork_ok a0 v16 h17))) (rfl : ([] : List Nat) = [])) (And.intro (laws_eqNetwork_ok v9 v16 v18 h19) (And.intro (rfl : (laws_FnExactBestArrivals_x1 a0 a1 a2 a3 v7 v9 v11 v18) = (laws_FnExactBestArrivals_x1 a0 a1 a2 a3 v7 v9 v11 v18)) (And.intro (And.intro (con_sw 1001 9 (con_sw 1000 8 (laws_toNetwork_ok a0 v16 h17))) (rfl : ([] : List Nat) = [])) (And.intro (laws_eqNetwork_ok v9 v16 v18 h19) (And.intro (rfl : (laws_FnExactBestArrivals_x1 a0 a1 a2 a3 v7 v9 v11 v18) = (laws_FnExactBestArrivals_x1 a0 a1 a2 a3 v7 v9 v11 v18)) (And.intro (And.intro (con_sw 1001 9 (con_sw 1000 8 (laws_toNetwork_ok a0 v16 h17))) (rfl : ([] : List Nat) = [])) (And.intro (laws_eqNetwork_ok v9 v16 v18 h19) (And.intro (rfl : (laws_FnExactBestArrivals_x1 a0 a1 a2 a3 v7 v9 v11 v18) = (laws_FnExactBestArrivals_x1 a0 a1 a2 a3 v7 v9 v11 v18)) (And.intro h20 (And.intro (And.intro (con_sw 920 5 (con_sw 900 4 (laws_markNetwork_ok v9 1 v21 h22))) (rfl : ([4, 5] : List Nat) = [4, 5])) (And.intro h23 True.intro))))))))))))))))))))) (by kernel_rfl)
          · obtain ⟨v24, h25, hM⟩ := bind_some hM
            rcases cond_cases hM with ⟨h26, hM⟩ | ⟨h26, hM⟩
            · have hE : some false = some r := hM
              have hE := Option.some.inj hE
              subst hE
              exact pr R 9999 [.new 0, .as 19 false, .call false [] (.o (.c (.v (.int .i64 v2)))) [] [], .as 24 false, .call false [] (.o (.agg [.sl 1, .sl 2, .v (.int .i64 v5.Change)])) [] [(1, .row 77 6 (v5.Legs.map Leg.enc)), (2, .row 3 1 (v5.Off.map encI))], .call false [] (.o (.c (.sl 3))) [] [(3, .row 3 1 (v7.map encI))], .call false [] (.o (.agg [.sl 4, .sl 5, .v (.int .i64 v9.Change)])) [] [(4, .row 77 6 (v9.Legs.map Leg.enc)), (5, .row 3 1 (v9.Off.map encI))], .new 6, .call false [] (.o (.c (.sl 7))) [] [(7, .row 3 1 (v11.map encI))], .call false [] (.o (.c (.v (.bool v13)))) [] [], .as 41 false, .xo [[], [], [.call false [] (.o (.agg [.sl 8, .sl 9, .v (.int .i64 v16.Change)])) [] [(8, .row 77 6 (v16.Legs.map Leg.enc)), (9, .row 3 1 (v16.Off.map encI))]], [.call false [] (.o (.c (.v (.bool v18)))) [] []], []] [.keep [1, 2, 3, 4, 10, 11, 12, 46] [0, 3, 6, 4, 5, 7]] (laws_FnExactBestArrivals_x1 a0 a1 a2 a3 v7 v9 v11 v18), .as 46 false, .ad (.keep [1, 2, 3, 4, 10, 11, 12, 13, 46, 47, 48] [4, 5, 0, 3, 6, 7]), .call false [4, 5] (.o (.c (.v (.int .i64 v21.1)))) [(4, .row 77 6 (v21.2.Legs.map Leg.enc)), (5, .row 3 1 (v21.2.Off.map encI))] [], .as 52 false, .call false [] (.o (.c (.v (.bool v24)))) [] [], .as 57 true] [] [] [] (And.intro h1 (And.intro (laws_szNetwork_ok a0 1048576 v2 h3) (And.intro h4 (And.intro (And.intro (con_sw 1001 2 (con_sw 1000 1 (laws_toNetwork_ok a0 v5 h6))) (rfl : ([] : List Nat) = [])) (And.intro (And.intro (con_sw 1000 3 (spec_BestArrivals_ok v5 a1 a2 a3 v7 h8)) (rfl : ([] : List Nat) = [])) (And.intro (And.intro (con_sw 1001 5 (con_sw 1000 4 (laws_toNetwork_ok a0 v9 h10))) (rfl : ([] : List Nat) = [])) (And.intro (And.intro (con_sw 1000 7 (impl_BestArrivals_ok v9 a1 a2 a3 v11 h12)) (rfl : ([] : List Nat) = [])) (And.intro (laws_eqIntS_ok v11 v7 v13 h14) (And.intro h15 (And.intro (And.intro (con_sw 1001 9 (con_sw 1000 8 (laws_toNetwork_ok a0 v16 h17))) (rfl : ([] : List Nat) = [])) (And.intro (laws_eqNetwork_ok v9 v16 v18 h19) (And.intro (rfl : (laws_FnExactBestArrivals_x1 a0 a1 a2 a3 v7 v9 v11 v18) = (laws_FnExactBestArrivals_x1 a0 a1 a2 a3 v7 v9 v11 v18)) (And.intro (And.intro (con_sw 1001 9 (con_sw 1000 8 (laws_toNetwork_ok a0 v16 h17))) (rfl : ([] : List Nat) = [])) (And.intro (laws_eqNetwork_ok v9 v16 v18 h19) (And.intro (rfl : (laws_FnExactBestArrivals_x1 a0 a1 a2 a3 v7 v9 v11 v18) = (laws_FnExactBestArrivals_x1 a0 a1 a2 a3 v7 v9 v11 v18)) (And.intro (And.intro (con_sw 1001 9 (con_sw 1000 8 (laws_toNetwork_ok a0 v16 h17))) (rfl : ([] : List Nat) = [])) (And.intro (laws_eqNetwork_ok v9 v16 v18 h19) (And.intro (rfl : (laws_FnExactBestArrivals_x1 a0 a1 a2 a3 v7 v9 v11 v18) = (laws_FnExactBestArrivals_x1 a0 a1 a2 a3 v7 v9 v11 v18)) (And.intro h20 (And.intro (And.intro (con_sw 920 5 (con_sw 900 4 (laws_markNetwork_ok v9 1 v21 h22))) (rfl : ([4, 5] : List Nat) = [4, 5])) (And.intro h23 (And.intro (laws_eqIntS_ok v11 v7 v24 h25) (And.intro h26 True.intro))))))))))))))))))))))) (by kernel_rfl)
            · obtain ⟨v27, h28, hM⟩ := bind_some hM
              obtain ⟨v29, h30, hM⟩ := bind_some hM
              rcases cond_cases hM with ⟨h31, hM⟩ | ⟨h31, hM⟩
              · have hE : some false = some r := hM
                have hE := Option.some.inj hE
                subst hE
                exact pr R 9999 [.new 0, .as 19 false, .call false [] (.o (.c (.v (.int .i64 v2)))) [] [], .as 24 false, .call false [] (.o (.agg [.sl 1, .sl 2, .v (.int .i64 v5.Change)])) [] [(1, .row 77 6 (v5.Legs.map Leg.enc)), (2, .row 3 1 (v5.Off.map encI))], .call false [] (.o (.c (.sl 3))) [] [(3, .row 3 1 (v7.map encI))], .call false [] (.o (.agg [.sl 4, .sl 5, .v (.int .i64 v9.Change)])) [] [(4, .row 77 6 (v9.Legs.map Leg.enc)), (5, .row 3 1 (v9.Off.map encI))], .new 6, .call false [] (.o (.c (.sl 7))) [] [(7, .row 3 1 (v11.map encI))], .call false [] (.o (.c (.v (.bool v13)))) [] [], .as 41 false, .xo [[], [], [.call false [] (.o (.agg [.sl 8, .sl 9, .v (.int .i64 v16.Change)])) [] [(8, .row 77 6 (v16.Legs.map Leg.enc)), (9, .row 3 1 (v16.Off.map encI))]], [.call false [] (.o (.c (.v (.bool v18)))) [] []], []] [.keep [1, 2, 3, 4, 10, 11, 12, 46] [0, 3, 6, 4, 5, 7]] (laws_FnExactBestArrivals_x1 a0 a1 a2 a3 v7 v9 v11 v18), .as 46 false, .ad (.keep [1, 2, 3, 4, 10, 11, 12, 13, 46, 47, 48] [4, 5, 0, 3, 6, 7]), .call false [4, 5] (.o (.c (.v (.int .i64 v21.1)))) [(4, .row 77 6 (v21.2.Legs.map Leg.enc)), (5, .row 3 1 (v21.2.Off.map encI))] [], .as 52 false, .call false [] (.o (.c (.v (.bool v24)))) [] [], .as 57 false, .call false [7] (.o (.c (.v (.int .i64 v27.1)))) [(7, .row 3 1 (v27.2.map encI))] [], .call false [] (.o (.c (.v (.int .i64 v29)))) [] [], .as 65 true] [] [] [] (And.intro h1 (And.intro (laws_szNetwork_ok a0 1048576 v2 h3) (And.intro h4 (And.intro (And.intro (con_sw 1001 2 (con_sw 1000 1 (laws_toNetwork_ok a0 v5 h6))) (rfl : ([] : List Nat) = [])) (And.intro (And.intro (con_sw 1000 3 (spec_BestArrivals_ok v5 a1 a2 a3 v7 h8)) (rfl : ([] : List Nat) = [])) (And.intro (And.intro (con_sw 1001 5 (con_sw 1000 4 (laws_toNetwork_ok a0 v9 h10))) (rfl : ([] : List Nat) = [])) (And.intro (And.intro (con_sw 1000 7 (impl_BestArrivals_ok v9 a1 a2 a3 v11 h12)) (rfl : ([] : List Nat) = [])) (And.intro (laws_eqIntS_ok v11 v7 v13 h14) (And.intro h15 (And.intro (And.intro (con_sw 1001 9 (con_sw 1000 8 (laws_toNetwork_ok a0 v16 h17))) (rfl : ([] : List Nat) = [])) (And.intro (laws_eqNetwork_ok v9 v16 v18 h19) (And.intro (rfl : (laws_FnExactBestArrivals_x1 a0 a1 a2 a3 v7 v9 v11 v18) = (laws_FnExactBestArrivals_x1 a0 a1 a2 a3 v7 v9 v11 v18)) (And.intro (And.intro (con_sw 1001 9 (con_sw 1000 8 (laws_toNetwork_ok a0 v16 h17))) (rfl : ([] : List Nat) = [])) (And.intro (laws_eqNetwork_ok v9 v16 v18 h19) (And.intro (rfl : (laws_FnExactBestArrivals_x1 a0 a1 a2 a3 v7 v9 v11 v18) = (laws_FnExactBestArrivals_x1 a0 a1 a2 a3 v7 v9 v11 v18)) (And.intro (And.intro (con_sw 1001 9 (con_sw 1000 8 (laws_toNetwork_ok a0 v16 h17))) (rfl : ([] : List Nat) = [])) (And.intro (laws_eqNetwork_ok v9 v16 v18 h19) (And.intro (rfl : (laws_FnExactBestArrivals_x1 a0 a1 a2 a3 v7 v9 v11 v18) = (laws_FnExactBestArrivals_x1 a0 a1 a2 a3 v7 v9 v11 v18)) (And.intro h20 (And.intro (And.intro (con_sw 920 5 (con_sw 900 4 (laws_markNetwork_ok v9 1 v21 h22))) (rfl : ([4, 5] : List Nat) = [4, 5])) (And.intro h23 (And.intro (laws_eqIntS_ok v11 v7 v24 h25) (And.intro h26 (And.intro (And.intro (con_sw 900 7 (laws_markIntS_ok v11 1 v27 h28)) (rfl : ([7] : List Nat) = [7])) (And.intro (laws_heldIntS_ok v27.2 1 v29 h30) (And.intro h31 True.intro)))))))))))))))))))))))))) (by kernel_rfl)
              · rcases cond_cases hM with ⟨h32, hM⟩ | ⟨h32, hM⟩
                · have hE : some false = some r := hM
                  have hE := Option.some.inj hE
                  subst hE
                  exact pr R 9999 [.new 0, .as 19 false, .call false [] (.o (.c (.v (.int .i64 v2)))) [] [], .as 24 false, .call false [] (.o (.agg [.sl 1, .sl 2, .v (.int .i64 v5.Change)])) [] [(1, .row 77 6 (v5.Legs.map Leg.enc)), (2, .row 3 1 (v5.Off.map encI))], .call false [] (.o (.c (.sl 3))) [] [(3, .row 3 1 (v7.map encI))], .call false [] (.o (.agg [.sl 4, .sl 5, .v (.int .i64 v9.Change)])) [] [(4, .row 77 6 (v9.Legs.map Leg.enc)), (5, .row 3 1 (v9.Off.map encI))], .new 6, .call false [] (.o (.c (.sl 7))) [] [(7, .row 3 1 (v11.map encI))], .call false [] (.o (.c (.v (.bool v13)))) [] [], .as 41 false, .xo [[], [], [.call false [] (.o (.agg [.sl 8, .sl 9, .v (.int .i64 v16.Change)])) [] [(8, .row 77 6 (v16.Legs.map Leg.enc)), (9, .row 3 1 (v16.Off.map encI))]], [.call false [] (.o (.c (.v (.bool v18)))) [] []], []] [.keep [1, 2, 3, 4, 10, 11, 12, 46] [0, 3, 6, 4, 5, 7]] (laws_FnExactBestArrivals_x1 a0 a1 a2 a3 v7 v9 v11 v18), .as 46 false, .ad (.keep [1, 2, 3, 4, 10, 11, 12, 13, 46, 47, 48] [4, 5, 0, 3, 6, 7]), .call false [4, 5] (.o (.c (.v (.int .i64 v21.1)))) [(4, .row 77 6 (v21.2.Legs.map Leg.enc)), (5, .row 3 1 (v21.2.Off.map encI))] [], .as 52 false, .call false [] (.o (.c (.v (.bool v24)))) [] [], .as 57 false, .call false [7] (.o (.c (.v (.int .i64 v27.1)))) [(7, .row 3 1 (v27.2.map encI))] [], .call false [] (.o (.c (.v (.int .i64 v29)))) [] [], .as 65 false, .as 68 true] [] [] [] (And.intro h1 (And.intro (laws_szNetwork_ok a0 1048576 v2 h3) (And.intro h4 (And.intro (And.intro (con_sw 1001 2 (con_sw 1000 1 (laws_toNetwork_ok a0 v5 h6))) (rfl : ([] : List Nat) = [])) (And.intro (And.intro (con_sw 1000 3 (spec_BestArrivals_ok v5 a1 a2 a3 v7 h8)) (rfl : ([] : List Nat) = [])) (And.intro (And.intro (con_sw 1001 5 (con_sw 1000 4 (laws_toNetwork_ok a0 v9 h10))) (rfl : ([] : List Nat) = [])) (And.intro (And.intro (con_sw 1000 7 (impl_BestArrivals_ok v9 a1 a2 a3 v11 h12)) (rfl : ([] : List Nat) = [])) (And.intro (laws_eqIntS_ok v11 v7 v13 h14) (And.intro h15 (And.intro (And.intro (con_sw 1001 9 (con_sw 1000 8 (laws_toNetwork_ok a0 v16 h17))) (rfl : ([] : List Nat) = [])) (And.intro (laws_eqNetwork_ok v9 v16 v18 h19) (And.intro (rfl : (laws_FnExactBestArrivals_x1 a0 a1 a2 a3 v7 v9 v11 v18) = (laws_FnExactBestArrivals_x1 a0 a1 a2 a3 v7 v9 v11 v18)) (And.intro (And.intro (con_sw 1001 9 (con_sw 1000 8 (laws_toNetwork_ok a0 v16 h17))) (rfl : ([] : List Nat) = [])) (And.intro (laws_eqNetwork_ok v9 v16 v18 h19) (And.intro (rfl : (laws_FnExactBestArrivals_x1 a0 a1 a2 a3 v7 v9 v11 v18) = (laws_FnExactBestArrivals_x1 a0 a1 a2 a3 v7 v9 v11 v18)) (And.intro (And.intro (con_sw 1001 9 (con_sw 1000 8 (laws_toNetwork_ok a0 v16 h17))) (rfl : ([] : List Nat) = [])) (And.intro (laws_eqNetwork_ok v9 v16 v18 h19) (And.intro (rfl : (laws_FnExactBestArrivals_x1 a0 a1 a2 a3 v7 v9 v11 v18) = (laws_FnExactBestArrivals_x1 a0 a1 a2 a3 v7 v9 v11 v18)) (And.intro h20 (And.intro (And.intro (con_sw 920 5 (con_sw 900 4 (laws_markNetwork_ok v9 1 v21 h22))) (rfl : ([4, 5] : List Nat) = [4, 5])) (And.intro h23 (And.intro (laws_eqIntS_ok v11 v7 v24 h25) (And.intro h26 (And.intro (And.intro (con_sw 900 7 (laws_markIntS_ok v11 1 v27 h28)) (rfl : ([7] : List Nat) = [7])) (And.intro (laws_heldIntS_ok v27.2 1 v29 h30) (And.intro h31 (And.intro h32 True.intro))))))))))))))))))))))))))) (by kernel_rfl)
                · obtain ⟨v33, h34, hM⟩ := bind_some hM
                  obtain ⟨v35, h36, hM⟩ := bind_some hM
                  obtain ⟨v37, h38, hM⟩ := bind_some hM
                  rcases cond_cases hM with ⟨h39, hM⟩ | ⟨h39, hM⟩
                  · have hE : some false = some r := hM
                    have hE := Option.some.inj hE
                    subst hE
                    exact pr R 9999 [.new 0, .as 19 false, .call false [] (.o (.c (.v (.int .i64 v2)))) [] [], .as 24 false, .call false [] (.o (.agg [.sl 1, .sl 2, .v (.int .i64 v5.Change)])) [] [(1, .row 77 6 (v5.Legs.map Leg.enc)), (2, .row 3 1 (v5.Off.map encI))], .call false [] (.o (.c (.sl 3))) [] [(3, .row 3 1 (v7.map encI))], .call false [] (.o (.agg [.sl 4, .sl 5, .v (.int .i64 v9.Change)])) [] [(4, .row 77 6 (v9.Legs.map Leg.enc)), (5, .row 3 1 (v9.Off.map encI))], .new 6, .call false [] (.o (.c (.sl 7))) [] [(7, .row 3 1 (v11.map encI))], .call false [] (.o (.c (.v (.bool v13)))) [] [], .as 41 false, .xo [[], [], [.call false [] (.o (.agg [.sl 8, .sl 9, .v (.int .i64 v16.Change)])) [] [(8, .row 77 6 (v16.Legs.map Leg.enc)), (9, .row 3 1 (v16.Off.map encI))]], [.call false [] (.o (.c (.v (.bool v18)))) [] []], []] [.keep [1, 2, 3, 4, 10, 11, 12, 46] [0, 3, 6, 4, 5, 7]] (laws_FnExactBestArrivals_x1 a0 a1 a2 a3 v7 v9 v11 v18), .as 46 false, .ad (.keep [1, 2, 3, 4, 10, 11, 12, 13, 46, 47, 48] [4, 5, 0, 3, 6, 7]), .call false [4, 5] (.o (.c (.v (.int .i64 v21.1)))) [(4, .row 77 6 (v21.2.Legs.map Leg.enc)), (5, .row 3 1 (v21.2.Off.map encI))] [], .as 52 false, .call false [] (.o (.c (.v (.bool v24)))) [] [], .as 57 false, .call false [7] (.o (.c (.v (.int .i64 v27.1)))) [(7, .row 3 1 (v27.2.map encI))] [], .call false [] (.o (.c (.v (.int .i64 v29)))) [] [], .as 65 false, .as 68 false, .call false [] (.o (.agg [.sl 10, .sl 11, .v (.int .i64 v33.Change)])) [] [(10, .row 77 6 (v33.Legs.map Leg.enc)), (11, .row 3 1 (v33.Off.map encI))], .call false [] (.o (.c (.sl 12))) [] [(12, .row 3 1 (v35.map encI))], .call false [] (.o (.c (.v (.bool v37)))) [] [], .as 78 true] [] [] [] (And.intro h1 (And.intro (laws_szNetwork_ok a0 1048576 v2 h3) (And.intro h4 (And.intro (And.intro (con_sw 1001 2 (con_sw 1000 1 (laws_toNetwork_ok a0 v5 h6))) (rfl : ([] : List Nat) = [])) (And.intro (And.intro (con_sw 1000 3 (spec_BestArrivals_ok v5 a1 a2 a3 v7 h8)) (rfl : ([] : List Nat) = [])) (And.intro (And.intro (con_sw 1001 5 (con_sw 1000 4 (laws_toNetwork_ok a0 v9 h10))) (rfl : ([] : List Nat) = [])) (And.intro (And.intro (con_sw 1000 7 (impl_BestArrivals_ok v9 a1 a2 a3 v11 h12)) (rfl : ([] : List Nat) = [])) (And.intro (laws_eqIntS_ok v11 v7 v13 h14) (And.intro h15 (And.intro (And.intro (con_sw 1001 9 (con_sw 1000 8 (laws_toNetwork_ok a0 v16 h17))) (rfl : ([] : List Nat) = [])) (And.intro (laws_eqNetwork_ok v9 v16 v18 h19) (And.intro (rfl : (laws_FnExactBestArrivals_x1 a0 a1 a2 a3 v7 v9 v11 v18) = (laws_FnExactBestArrivals_x1 a0 a1 a2 a3 v7 v9 v11 v18)) (And.intro (And.intro (con_sw 1001 9 (con_sw 1000 8 (laws_toNetwork_ok a0 v16 h17))) (rfl : ([] : List Nat) = [])) (And.intro (laws_eqNetwork_ok v9 v16 v18 h19) (And.intro (rfl : (laws_FnExactBestArrivals_x1 a0 a1 a2 a3 v7 v9 v11 v18) = (laws_FnExactBestArrivals_x1 a0 a1 a2 a3 v7 v9 v11 v18)) (And.intro (And.intro (con_sw 1001 9 (con_sw 1000 8 (laws_toNetwork_ok a0 v16 h17))) (rfl : ([] : List Nat) = [])) (And.intro (laws_eqNetwork_ok v9 v16 v18 h19) (And.intro (rfl : (laws_FnExactBestArrivals_x1 a0 a1 a2 a3 v7 v9 v11 v18) = (laws_FnExactBestArrivals_x1 a0 a1 a2 a3 v7 v9 v11 v18)) (And.intro h20 (And.intro (And.intro (con_sw 920 5 (con_sw 900 4 (laws_markNetwork_ok v9 1 v21 h22))) (rfl : ([4, 5] : List Nat) = [4, 5])) (And.intro h23 (And.intro (laws_eqIntS_ok v11 v7 v24 h25) (And.intro h26 (And.intro (And.intro (con_sw 900 7 (laws_markIntS_ok v11 1 v27 h28)) (rfl : ([7] : List Nat) = [7])) (And.intro (laws_heldIntS_ok v27.2 1 v29 h30) (And.intro h31 (And.intro h32 (And.intro (And.intro (con_sw 1001 11 (con_sw 1000 10 (laws_toNetwork_ok a0 v33 h34))) (rfl : ([] : List Nat) = [])) (And.intro (And.intro (con_sw 1000 12 (impl_BestArrivals_ok v33 a1 a2 a3 v35 h36)) (rfl : ([] : List Nat) = [])) (And.intro (laws_eqIntS_ok v35 v7 v37 h38) (And.intro h39 True.intro))))))))))))))))))))))))))))))) (by kernel_rfl)
                  · obtain ⟨v40, h41, hM⟩ := bind_some hM
                    rcases cond_cases hM with ⟨h42, hM⟩ | ⟨h42, hM⟩
                    · have hE : some false = some r := hM
                      have hE := Option.some.inj hE
                      subst hE
                      exact pr R 9999 [.new 0, .as 19 false, .call false [] (.o (.c (.v (.int .i64 v2)))) [] [], .as 24 false, .call false [] (.o (.agg [.sl 1, .sl 2, .v (.int .i64 v5.Change)])) [] [(1, .row 77 6 (v5.Legs.map Leg.enc)), (2, .row 3 1 (v5.Off.map encI))], .call false [] (.o (.c (.sl 3))) [] [(3, .row 3 1 (v7.map encI))], .call false [] (.o (.agg [.sl 4, .sl 5, .v (.int .i64 v9.Change)])) [] [(4, .row 77 6 (v9.Legs.map Leg.enc)), (5, .row 3 1 (v9.Off.map encI))], .new 6, .call false [] (.o (.c (.sl 7))) [] [(7, .row 3 1 (v11.map encI))], .call false [] (.o (.c (.v (.bool v13)))) [] [], .as 41 false, .xo [[], [], [.call false [] (.o (.agg [.sl 8, .sl 9, .v (.int .i64 v16.Change)])) [] [(8, .row 77 6 (v16.Legs.map Leg.enc)), (9, .row 3 1 (v16.Off.map encI))]], [.call false [] (.o (.c (.v (.bool v18)))) [] []], []] [.keep [1, 2, 3, 4, 10, 11, 12, 46] [0, 3, 6, 4, 5, 7]] (laws_FnExactBestArrivals_x1 a0 a1 a2 a3 v7 v9 v11 v18), .as 46 false, .ad (.keep [1, 2, 3, 4, 10, 11, 12, 13, 46, 47, 48] [4, 5, 0, 3, 6, 7]), .call false [4, 5] (.o (.c (.v (.int .i64 v21.1)))) [(4, .row 77 6 (v21.2.Legs.map Leg.enc)), (5, .row 3 1 (v21.2.Off.map encI))] [], .as 52 false, .call false [] (.o (.c (.v (.bool v24)))) [] [], .as 57 false, .call false [7] (.o (.c (.v (.int .i64 v27.1)))) [(7, .row 3 1 (v27.2.map encI))] [], .call false [] (.o (.c (.v (.int .i64 v29)))) [] [], .as 65 false, .as 68 false, .call false [] (.o (.agg [.sl 10, .sl 11, .v (.int .i64 v33.Change)])) [] [(10, .row 77 6 (v33.Legs.map Leg.enc)), (11, .row 3 1 (v33.Off.map encI))], .call false [] (.o (.c (.sl 12))) [] [(12, .row 3 1 (v35.map encI))], .call false [] (.o (.c (.v (.bool v37)))) [] [], .as 78 false, .call false [] (.o (.c (.v (.int .i64 v40)))) [] [], .as 83 true] [] [] [] (And.intro h1 (And.intro (laws_szNetwork_ok a0 1048576 v2 h3) (And.intro h4 (And.intro (And.intro (con_sw 1001 2 (con_sw 1000 1 (laws_toNetwork_ok a0 v5 h6))) (rfl : ([] : List Nat) = [])) (And.intro (And.intro (con_sw 1000 3 (spec_BestArrivals_ok v5 a1 a2 a3 v7 h8)) (rfl : ([] : List Nat) = [])) (And.intro (And.intro (con_sw 1001 5 (con_sw 1000 4 (laws_toNetwork_ok a0 v9 h10))) (rfl : ([] : List Nat) = [])) (And.intro (And.intro (con_sw 1000 7 (impl_BestArrivals_ok v9 a1 a2 a3 v11 h12)) (rfl : ([] : List Nat) = [])) (And.intro (laws_eqIntS_ok v11 v7 v13 h14) (And.intro h15 (And.intro (And.intro (con_sw 1001 9 (con_sw 1000 8 (laws_toNetwork_ok a0 v16 h17))) (rfl : ([] : List Nat) = [])) (And.intro (laws_eqNetwork_ok v9 v16 v18 h19) (And.intro (rfl : (laws_FnExactBestArrivals_x1 a0 a1 a2 a3 v7 v9 v11 v18) = (laws_FnExactBestArrivals_x1 a0 a1 a2 a3 v7 v9 v11 v18)) (And.intro (And.intro (con_sw 1001 9 (con_sw 1000 8 (laws_toNetwork_ok a0 v16 h17))) (rfl : ([] : List Nat) = [])) (And.intro (laws_eqNetwork_ok v9 v16 v18 h19) (And.intro (rfl : (laws_FnExactBestArrivals_x1 a0 a1 a2 a3 v7 v9 v11 v18) = (laws_FnExactBestArrivals_x1 a0 a1 a2 a3 v7 v9 v11 v18)) (And.intro (And.intro (con_sw 1001 9 (con_sw 1000 8 (laws_toNetwork_ok a0 v16 h17))) (rfl : ([] : List Nat) = [])) (And.intro (laws_eqNetwork_ok v9 v16 v18 h19) (And.intro (rfl : (laws_FnExactBestArrivals_x1 a0 a1 a2 a3 v7 v9 v11 v18) = (laws_FnExactBestArrivals_x1 a0 a1 a2 a3 v7 v9 v11 v18)) (And.intro h20 (And.intro (And.intro (con_sw 920 5 (con_sw 900 4 (laws_markNetwork_ok v9 1 v21 h22))) (rfl : ([4, 5] : List Nat) = [4, 5])) (And.intro h23 (And.intro (laws_eqIntS_ok v11 v7 v24 h25) (And.intro h26 (And.intro (And.intro (con_sw 900 7 (laws_markIntS_ok v11 1 v27 h28)) (rfl : ([7] : List Nat) = [7])) (And.intro (laws_heldIntS_ok v27.2 1 v29 h30) (And.intro h31 (And.intro h32 (And.intro (And.intro (con_sw 1001 11 (con_sw 1000 10 (laws_toNetwork_ok a0 v33 h34))) (rfl : ([] : List Nat) = [])) (And.intro (And.intro (con_sw 1000 12 (impl_BestArrivals_ok v33 a1 a2 a3 v35 h36)) (rfl : ([] : List Nat) = [])) (And.intro (laws_eqIntS_ok v35 v7 v37 h38) (And.intro h39 (And.intro (laws_heldIntS_ok v27.2 1 v40 h41) (And.intro h42 True.intro))))))))))))))))))))))))))))))))) (by kernel_rfl)
                    · rcases cond_cases hM with ⟨h43, hM⟩ | ⟨h43, hM⟩
                      · have hE : some false = some r := hM
                        have hE := Option.some.inj hE
                        subst hE
                        exact pr R 9999 [.new 0, .as 19 false, .call false [] (.o (.c (.v (.int .i64 v2)))) [] [], .as 24 false, .call false [] (.o (.agg [.sl 1, .sl 2, .v (.int .i64 v5.Change)])) [] [(1, .row 77 6 (v5.Legs.map Leg.enc)), (2, .row 3 1 (v5.Off.map encI))], .call false [] (.o (.c (.sl 3))) [] [(3, .row 3 1 (v7.map encI))], .call false [] (.o (.agg [.sl 4, .sl 5, .v (.int .i64 v9.Change)])) [] [(4, .row 77 6 (v9.Legs.map Leg.enc)), (5, .row 3 1 (v9.Off.map encI))], .new 6, .call false [] (.o (.c (.sl 7))) [] [(7, .row 3 1 (v11.map encI))], .call false [] (.o (.c (.v (.bool v13)))) [] [], .as 41 false, .xo [[], [], [.call false [] (.o (.agg [.sl 8, .sl 9, .v (.int .i64 v16.Change)])) [] [(8, .row 77 6 (v16.Legs.map Leg.enc)), (9, .row 3 1 (v16.Off.map encI))]], [.call false [] (.o (.c (.v (.bool v18)))) [] []], []] [.keep [1, 2, 3, 4, 10, 11, 12, 46] [0, 3, 6, 4, 5, 7]] (laws_FnExactBestArrivals_x1 a0 a1 a2 a3 v7 v9 v11 v18), .as 46 false, .ad (.keep [1, 2, 3, 4, 10, 11, 12, 13, 46, 47, 48] [4, 5, 0, 3, 6, 7]), .call false [4, 5] (.o (.c (.v (.int .i64 v21.1)))) [(4, .row 77 6 (v21.2.Legs.map Leg.enc)), (5, .row 3 1 (v21.2.Off.map encI))] [], .as 52 false, .call false [] (.o (.c (.v (.bool v24)))) [] [], .as 57 false, .call false [7] (.o (.c (.v (.int .i64 v27.1)))) [(7, .row 3 1 (v27.2.map encI))] [], .call false [] (.o (.c (.v (.int .i64 v29)))) [] [], .as 65 false, .as 68 false, .call false [] (.o (.agg [.sl 10, .sl 11, .v (.int .i64 v33.Change)])) [] [(10, .row 77 6 (v33.Legs.map Leg.enc)), (11, .row 3 1 (v33.Off.map encI))], .call false [] (.o (.c (.sl 12))) [] [(12, .row 3 1 (v35.map encI))], .call false [] (.o (.c (.v (.bool v37)))) [] [], .as 78 false, .call false [] (.o (.c (.v (.int .i64 v40)))) [] [], .as 83 false, .as 86 true] [] [] [] (And.intro h1 (And.intro (laws_szNetwork_ok a0 1048576 v2 h3) (And.intro h4 (And.intro (And.intro (con_sw 1001 2 (con_sw 1000 1 (laws_toNetwork_ok a0 v5 h6))) (rfl : ([] : List Nat) = [])) (And.intro (And.intro (con_sw 1000 3 (spec_BestArrivals_ok v5 a1 a2 a3 v7 h8)) (rfl : ([] : List Nat) = [])) (And.intro (And.intro (con_sw 1001 5 (con_sw 1000 4 (laws_toNetwork_ok a0 v9 h10))) (rfl : ([] : List Nat) = [])) (And.intro (And.intro (con_sw 1000 7 (impl_BestArrivals_ok v9 a1 a2 a3 v11 h12)) (rfl : ([] : List Nat) = [])) (And.intro (laws_eqIntS_ok v11 v7 v13 h14) (And.intro h15 (And.intro (And.intro (con_sw 1001 9 (con_sw 1000 8 (laws_toNetwork_ok a0 v16 h17))) (rfl : ([] : List Nat) = [])) (And.intro (laws_eqNetwork_ok v9 v16 v18 h19) (And.intro (rfl : (laws_FnExactBestArrivals_x1 a0 a1 a2 a3 v7 v9 v11 v18) = (laws_FnExactBestArrivals_x1 a0 a1 a2 a3 v7 v9 v11 v18)) (And.intro (And.intro (con_sw 1001 9 (con_sw 1000 8 (laws_toNetwork_ok a0 v16 h17))) (rfl : ([] : List Nat) = [])) (And.intro (laws_eqNetwork_ok v9 v16 v18 h19) (And.intro (rfl : (laws_FnExactBestArrivals_x1 a0 a1 a2 a3 v7 v9 v11 v18) = (laws_FnExactBestArrivals_x1 a0 a1 a2 a3 v7 v9 v11 v18)) (And.intro (And.intro (con_sw 1001 9 (con_sw 1000 8 (laws_toNetwork_ok a0 v16 h17))) (rfl : ([] : List Nat) = [])) (And.intro (laws_eqNetwork_ok v9 v16 v18 h19) (And.intro (rfl : (laws_FnExactBestArrivals_x1 a0 a1 a2 a3 v7 v9 v11 v18) = (laws_FnExactBestArrivals_x1 a0 a1 a2 a3 v7 v9 v11 v18)) (And.intro h20 (And.intro (And.intro (con_sw 920 5 (con_sw 900 4 (laws_markNetwork_ok v9 1 v21 h22))) (rfl : ([4, 5] : List Nat) = [4, 5])) (And.intro h23 (And.intro (laws_eqIntS_ok v11 v7 v24 h25) (And.intro h26 (And.intro (And.intro (con_sw 900 7 (laws_markIntS_ok v11 1 v27 h28)) (rfl : ([7] : List Nat) = [7])) (And.intro (laws_heldIntS_ok v27.2 1 v29 h30) (And.intro h31 (And.intro h32 (And.intro (And.intro (con_sw 1001 11 (con_sw 1000 10 (laws_toNetwork_ok a0 v33 h34))) (rfl : ([] : List Nat) = [])) (And.intro (And.intro (con_sw 1000 12 (impl_BestArrivals_ok v33 a1 a2 a3 v35 h36)) (rfl : ([] : List Nat) = [])) (And.intro (laws_eqIntS_ok v35 v7 v37 h38) (And.intro h39 (And.intro (laws_heldIntS_ok v27.2 1 v40 h41) (And.intro h42 (And.intro h43 True.intro)))))))))))))))))))))))))))))))))) (by kernel_rfl)
                      · have hE : some true = some r := hM
                        have hE := Option.some.inj hE
                        subst hE
                        exact pr R 9999 [.new 0, .as 19 false, .call false [] (.o (.c (.v (.int .i64 v2)))) [] [], .as 24 false, .call false [] (.o (.agg [.sl 1, .sl 2, .v (.int .i64 v5.Change)])) [] [(1, .row 77 6 (v5.Legs.map Leg.enc)), (2, .row 3 1 (v5.Off.map encI))], .call false [] (.o (.c (.sl 3))) [] [(3, .row 3 1 (v7.map encI))], .call false [] (.o (.agg [.sl 4, .sl 5, .v (.int .i64 v9.Change)])) [] [(4, .row 77 6 (v9.Legs.map Leg.enc)), (5, .row 3 1 (v9.Off.map encI))], .new 6, .call false [] (.o (.c (.sl 7))) [] [(7, .row 3 1 (v11.map encI))], .call false [] (.o (.c (.v (.bool v13)))) [] [], .as 41 false, .xo [[], [], [.call false [] (.o (.agg [.sl 8, .sl 9, .v (.int .i64 v16.Change)])) [] [(8, .row 77 6 (v16.Legs.map Leg.enc)), (9, .row 3 1 (v16.Off.map encI))]], [.call false [] (.o (.c (.v (.bool v18)))) [] []], []] [.keep [1, 2, 3, 4, 10, 11, 12, 46] [0, 3, 6, 4, 5, 7]] (laws_FnExactBestArrivals_x1 a0 a1 a2 a3 v7 v9 v11 v18), .as 46 false, .ad (.keep [1, 2, 3, 4, 10, 11, 12, 13, 46, 47, 48] [4, 5, 0, 3, 6, 7]), .call false [4, 5] (.o (.c (.v (.int .i64 v21.1)))) [(4, .row 77 6 (v21.2.Legs.map Leg.enc)), (5, .row 3 1 (v21.2.Off.map encI))] [], .as 52 false, .call false [] (.o (.c (.v (.bool v24)))) [] [], .as 57 false, .call false [7] (.o (.c (.v (.int .i64 v27.1)))) [(7, .row 3 1 (v27.2.map encI))] [], .call false [] (.o (.c (.v (.int .i64 v29)))) [] [], .as 65 false, .as 68 false, .call false [] (.o (.agg [.sl 10, .sl 11, .v (.int .i64 v33.Change)])) [] [(10, .row 77 6 (v33.Legs.map Leg.enc)), (11, .row 3 1 (v33.Off.map encI))], .call false [] (.o (.c (.sl 12))) [] [(12, .row 3 1 (v35.map encI))], .call false [] (.o (.c (.v (.bool v37)))) [] [], .as 78 false, .call false [] (.o (.c (.v (.int .i64 v40)))) [] [], .as 83 false, .as 86 false] [] [] [] (And.intro h1 (And.intro (laws_szNetwork_ok a0 1048576 v2 h3) (And.intro h4 (And.intro (And.intro (con_sw 1001 2 (con_sw 1000 1 (laws_toNetwork_ok a0 v5 h6))) (rfl : ([] : List Nat) = [])) (And.intro (And.intro (con_sw 1000 3 (spec_BestArrivals_ok v5 a1 a2 a3 v7 h8)) (rfl : ([] : List Nat) = [])) (And.intro (And.intro (con_sw 1001 5 (con_sw 1000 4 (laws_toNetwork_ok a0 v9 h10))) (rfl : ([] : List Nat) = [])) (And.intro (And.intro (con_sw 1000 7 (impl_BestArrivals_ok v9 a1 a2 a3 v11 h12)) (rfl : ([] : List Nat) = [])) (And.intro (laws_eqIntS_ok v11 v7 v13 h14) (And.intro h15 (And.intro (And.intro (con_sw 1001 9 (con_sw 1000 8 (laws_toNetwork_ok a0 v16 h17))) (rfl : ([] : List Nat) = [])) (And.intro (laws_eqNetwork_ok v9 v16 v18 h19) (And.intro (rfl : (laws_FnExactBestArrivals_x1 a0 a1 a2 a3 v7 v9 v11 v18) = (laws_FnExactBestArrivals_x1 a0 a1 a2 a3 v7 v9 v11 v18)) (And.intro (And.intro (con_sw 1001 9 (con_sw 1000 8 (laws_toNetwork_ok a0 v16 h17))) (rfl : ([] : List Nat) = [])) (And.intro (laws_eqNetwork_ok v9 v16 v18 h19) (And.intro (rfl : (laws_FnExactBestArrivals_x1 a0 a1 a2 a3 v7 v9 v11 v18) = (laws_FnExactBestArrivals_x1 a0 a1 a2 a3 v7 v9 v11 v18)) (And.intro (And.intro (con_sw 1001 9 (con_sw 1000 8 (laws_toNetwork_ok a0 v16 h17))) (rfl : ([] : List Nat) = [])) (And.intro (laws_eqNetwork_ok v9 v16 v18 h19) (And.intro (rfl : (laws_FnExactBestArrivals_x1 a0 a1 a2 a3 v7 v9 v11 v18) = (laws_FnExactBestArrivals_x1 a0 a1 a2 a3 v7 v9 v11 v18)) (And.intro h20 (And.intro (And.intro (con_sw 920 5 (con_sw 900 4 (laws_markNetwork_ok v9 1 v21 h22))) (rfl : ([4, 5] : List Nat) = [4, 5])) (And.intro h23 (And.intro (laws_eqIntS_ok v11 v7 v24 h25) (And.intro h26 (And.intro (And.intro (con_sw 900 7 (laws_markIntS_ok v11 1 v27 h28)) (rfl : ([7] : List Nat) = [7])) (And.intro (laws_heldIntS_ok v27.2 1 v29 h30) (And.intro h31 (And.intro h32 (And.intro (And.intro (con_sw 1001 11 (con_sw 1000 10 (laws_toNetwork_ok a0 v33 h34))) (rfl : ([] : List Nat) = [])) (And.intro (And.intro (con_sw 1000 12 (impl_BestArrivals_ok v33 a1 a2 a3 v35 h36)) (rfl : ([] : List Nat) = [])) (And.intro (laws_eqIntS_ok v35 v7 v37 h38) (And.intro h39 (And.intro (laws_heldIntS_ok v27.2 1 v40 h41) (And.intro h42 (And.intro h43 True.intro)))))))))))))))))))))))))))))))))) (by kernel_rfl)

-- loop.example/g03014/spec.EarliestAt
def spec_EarliestAt (a0 : Network) (a1 : ByteArray) (a2 : ByteArray) (a3 : Int) : Option Int :=
  (spec_PlacesOf a0).bind fun v1 =>
  (spec_l4Index v1 a2).bind fun v3 =>
  (spec_BestArrivals a0 a1 a3 (v1.length : Int)).bind fun v5 =>
  bif (decide (v3 < 0)) then
  some (-1)
  else
  bif ((v5.length : Int) == 0) then
  some (-1)
  else
  (gi v5 v3).bind fun v9 =>
  some v9
theorem spec_EarliestAt_ok (a0 : Network) (a1 : ByteArray) (a2 : ByteArray) (a3 : Int) (r : Int) (hM : spec_EarliestAt a0 a1 a2 a3 = some r) :
    Con Try.prog 40 [.agg [.rs 6 (a0.Legs.map Leg.enc), .rs 1 (a0.Off.map encI), .v (.int .i64 a0.Change)], .c (.v (.string a1)), .c (.v (.string a2)), .c (.v (.int .i64 a3))] [] (.o (.c (.v (.int .i64 r)))) [] [] := by
  unfold spec_EarliestAt at hM
  refine cn (N := 34) (pids := []) Try_mixed Try.func40 (by kernel_rfl) (by kernel_rfl) (by kernel_rfl) rfl fun ρ g w R => ?_
  obtain ⟨v1, h2, hM⟩ := bind_some hM
  obtain ⟨v3, h4, hM⟩ := bind_some hM
  obtain ⟨v5, h6, hM⟩ := bind_some hM
  rcases cond_cases hM with ⟨h7, hM⟩ | ⟨h7, hM⟩
  · have hE : some (-1) = some r := hM
    have hE := Option.some.inj hE
    subst hE
    exact pr R 9999 [.new 0, .call false [] (.o (.c (.sl 1))) [] [(1, .row 9 1 (v1.map encS))], .call false [] (.o (.c (.v (.int .i64 v3)))) [] [], .ln (v1.length), .call false [] (.o (.c (.sl 2))) [] [(2, .row 3 1 (v5.map encI))], .as 25 true] [] [] [] (And.intro (And.intro (con_sw 1000 1 (spec_PlacesOf_ok a0 v1 h2)) (rfl : ([] : List Nat) = [])) (And.intro (spec_l4Index_ok v1 a2 v3 h4) (And.intro (lenm encS v1) (And.intro (And.intro (con_sw 1000 2 (spec_BestArrivals_ok a0 a1 a3 (v1.length : Int) v5 h6)) (rfl : ([] : List Nat) = [])) (And.intro h7 True.intro))))) (by kernel_rfl)
  · rcases cond_cases hM with ⟨h8, hM⟩ | ⟨h8, hM⟩
    · have hE : some (-1) = some r := hM
      have hE := Option.some.inj hE
      subst hE
      exact pr R 9999 [.new 0, .call false [] (.o (.c (.sl 1))) [] [(1, .row 9 1 (v1.map encS))], .call false [] (.o (.c (.v (.int .i64 v3)))) [] [], .ln (v1.length), .call false [] (.o (.c (.sl 2))) [] [(2, .row 3 1 (v5.map encI))], .as 25 false, .ln (v5.length), .as 29 true] [] [] [] (And.intro (And.intro (con_sw 1000 1 (spec_PlacesOf_ok a0 v1 h2)) (rfl : ([] : List Nat) = [])) (And.intro (spec_l4Index_ok v1 a2 v3 h4) (And.intro (lenm encS v1) (And.intro (And.intro (con_sw 1000 2 (spec_BestArrivals_ok a0 a1 a3 (v1.length : Int) v5 h6)) (rfl : ([] : List Nat) = [])) (And.intro h7 (And.intro (lenm encI v5) (And.intro h8 True.intro))))))) (by kernel_rfl)
    · obtain ⟨v9, h10, hM⟩ := bind_some hM
      have hE : some v9 = some r := hM
      have hE := Option.some.inj hE
      subst hE
      exact pr R 9999 [.new 0, .call false [] (.o (.c (.sl 1))) [] [(1, .row 9 1 (v1.map encS))], .call false [] (.o (.c (.v (.int .i64 v3)))) [] [], .ln (v1.length), .call false [] (.o (.c (.sl 2))) [] [(2, .row 3 1 (v5.map encI))], .as 25 false, .ln (v5.length), .as 29 false, .ix (encI v9)] [] [] [] (And.intro (And.intro (con_sw 1000 1 (spec_PlacesOf_ok a0 v1 h2)) (rfl : ([] : List Nat) = [])) (And.intro (spec_l4Index_ok v1 a2 v3 h4) (And.intro (lenm encS v1) (And.intro (And.intro (con_sw 1000 2 (spec_BestArrivals_ok a0 a1 a3 (v1.length : Int) v5 h6)) (rfl : ([] : List Nat) = [])) (And.intro h7 (And.intro (lenm encI v5) (And.intro h8 (And.intro (gi_lt encI h10) (And.intro ((gi_map encI h10).2) True.intro))))))))) (by kernel_rfl)

-- loop.example/g03014/impl.EarliestAt
def impl_EarliestAt (a0 : Network) (a1 : ByteArray) (a2 : ByteArray) (a3 : Int) : Option Int :=
  (impl_PlacesOf a0).bind fun v1 =>
  (impl_BestArrivals a0 a1 a3 (v1.length : Int)).bind fun v3 =>
  (impl_placeAt v1 a2).bind fun v5 =>
  bif (decide (v5 < 0)) then
  some (-1)
  else
  bif ((v3.length : Int) == 0) then
  some (-1)
  else
  (gi v3 v5).bind fun v9 =>
  some v9
theorem impl_EarliestAt_ok (a0 : Network) (a1 : ByteArray) (a2 : ByteArray) (a3 : Int) (r : Int) (hM : impl_EarliestAt a0 a1 a2 a3 = some r) :
    Con Try.prog 41 [.agg [.rs 6 (a0.Legs.map Leg.enc), .rs 1 (a0.Off.map encI), .v (.int .i64 a0.Change)], .c (.v (.string a1)), .c (.v (.string a2)), .c (.v (.int .i64 a3))] [] (.o (.c (.v (.int .i64 r)))) [] [] := by
  unfold impl_EarliestAt at hM
  refine cn (N := 34) (pids := []) Try_mixed Try.func41 (by kernel_rfl) (by kernel_rfl) (by kernel_rfl) rfl fun ρ g w R => ?_
  obtain ⟨v1, h2, hM⟩ := bind_some hM
  obtain ⟨v3, h4, hM⟩ := bind_some hM
  obtain ⟨v5, h6, hM⟩ := bind_some hM
  rcases cond_cases hM with ⟨h7, hM⟩ | ⟨h7, hM⟩
  · have hE : some (-1) = some r := hM
    have hE := Option.some.inj hE
    subst hE
    exact pr R 9999 [.new 0, .call false [] (.o (.c (.sl 1))) [] [(1, .row 9 1 (v1.map encS))], .ln (v1.length), .call false [] (.o (.c (.sl 2))) [] [(2, .row 3 1 (v3.map encI))], .call false [] (.o (.c (.v (.int .i64 v5)))) [] [], .as 25 true] [] [] [] (And.intro (And.intro (con_sw 1000 1 (impl_PlacesOf_ok a0 v1 h2)) (rfl : ([] : List Nat) = [])) (And.intro (lenm encS v1) (And.intro (And.intro (con_sw 1000 2 (impl_BestArrivals_ok a0 a1 a3 (v1.length : Int) v3 h4)) (rfl : ([] : List Nat) = [])) (And.intro (impl_placeAt_ok v1 a2 v5 h6) (And.intro h7 True.intro))))) (by kernel_rfl)
  · rcases cond_cases hM with ⟨h8, hM⟩ | ⟨h8, hM⟩
    · have hE : some (-1) = some r := hM
      have hE := Option.some.inj hE
      subst hE
      exact pr R 9999 [.new 0, .call false [] (.o (.c (.sl 1))) [] [(1, .row 9 1 (v1.map encS))], .ln (v1.length), .call false [] (.o (.c (.sl 2))) [] [(2, .row 3 1 (v3.map encI))], .call false [] (.o (.c (.v (.int .i64 v5)))) [] [], .as 25 false, .ln (v3.length), .as 29 true] [] [] [] (And.intro (And.intro (con_sw 1000 1 (impl_PlacesOf_ok a0 v1 h2)) (rfl : ([] : List Nat) = [])) (And.intro (lenm encS v1) (And.intro (And.intro (con_sw 1000 2 (impl_BestArrivals_ok a0 a1 a3 (v1.length : Int) v3 h4)) (rfl : ([] : List Nat) = [])) (And.intro (impl_placeAt_ok v1 a2 v5 h6) (And.intro h7 (And.intro (lenm encI v3) (And.intro h8 True.intro))))))) (by kernel_rfl)
    · obtain ⟨v9, h10, hM⟩ := bind_some hM
      have hE : some v9 = some r := hM
      have hE := Option.some.inj hE
      subst hE
      exact pr R 9999 [.new 0, .call false [] (.o (.c (.sl 1))) [] [(1, .row 9 1 (v1.map encS))], .ln (v1.length), .call false [] (.o (.c (.sl 2))) [] [(2, .row 3 1 (v3.map encI))], .call false [] (.o (.c (.v (.int .i64 v5)))) [] [], .as 25 false, .ln (v3.length), .as 29 false, .ix (encI v9)] [] [] [] (And.intro (And.intro (con_sw 1000 1 (impl_PlacesOf_ok a0 v1 h2)) (rfl : ([] : List Nat) = [])) (And.intro (lenm encS v1) (And.intro (And.intro (con_sw 1000 2 (impl_BestArrivals_ok a0 a1 a3 (v1.length : Int) v3 h4)) (rfl : ([] : List Nat) = [])) (And.intro (impl_placeAt_ok v1 a2 v5 h6) (And.intro h7 (And.intro (lenm encI v3) (And.intro h8 (And.intro (gi_lt encI h10) (And.intro ((gi_map encI h10).2) True.intro))))))))) (by kernel_rfl)

-- loop.example/g03014/laws.FnExactEarliestAt
def laws_FnExactEarliestAt_x1 (v17 : Bool) : St := ⟨[(44, .o (.c (.v (.bool (!v17)))))], []⟩
def laws_FnExactEarliestAt (a0 : Network) (a1 : ByteArray) (a2 : ByteArray) (a3 : Int) : Option Bool :=
  bif (decide ((a1.size : Int) > 1048576)) then
  some true
  else
  bif (decide ((a2.size : Int) > 1048576)) then
  some true
  else
  (laws_szNetwork a0 1048576).bind fun v3 =>
  bif (decide (v3 < 0)) then
  some true
  else
  (laws_toNetwork a0).bind fun v6 =>
  (spec_EarliestAt v6 a1 a2 a3).bind fun v8 =>
  (laws_toNetwork a0).bind fun v10 =>
  (impl_EarliestAt v10 a1 a2 a3).bind fun v12 =>
  bif (v12 != v8) then
  some false
  else
  (laws_toNetwork a0).bind fun v15 =>
  (laws_eqNetwork v10 v15).bind fun v17 =>
  bif (!v17) then
  some false
  else
  some true
theorem laws_FnExactEarliestAt_ok (a0 : Network) (a1 : ByteArray) (a2 : ByteArray) (a3 : Int) (r : Bool) (hM : laws_FnExactEarliestAt a0 a1 a2 a3 = some r) :
    Con Try.prog 8 [.agg [.rs 6 (a0.Legs.map Leg.enc), .rs 1 (a0.Off.map encI), .v (.int .i64 a0.Change)], .c (.v (.string a1)), .c (.v (.string a2)), .c (.v (.int .i64 a3))] [] (.o (.c (.v (.bool r)))) [] [] := by
  unfold laws_FnExactEarliestAt at hM
  refine cn (N := 45) (pids := []) Try_mixed Try.func8 (by kernel_rfl) (by kernel_rfl) (by kernel_rfl) rfl fun ρ g w R => ?_
  rcases cond_cases hM with ⟨h1, hM⟩ | ⟨h1, hM⟩
  · have hE : some true = some r := hM
    have hE := Option.some.inj hE
    subst hE
    exact pr R 9999 [.new 0, .as 15 true] [] [] [] (And.intro h1 True.intro) (by kernel_rfl)
  · rcases cond_cases hM with ⟨h2, hM⟩ | ⟨h2, hM⟩
    · have hE : some true = some r := hM
      have hE := Option.some.inj hE
      subst hE
      exact pr R 9999 [.new 0, .as 15 false, .as 18 true] [] [] [] (And.intro h1 (And.intro h2 True.intro)) (by kernel_rfl)
    · obtain ⟨v3, h4, hM⟩ := bind_some hM
      rcases cond_cases hM with ⟨h5, hM⟩ | ⟨h5, hM⟩
      · have hE : some true = some r := hM
        have hE := Option.some.inj hE
        subst hE
        exact pr R 9999 [.new 0, .as 15 false, .as 18 false, .call false [] (.o (.c (.v (.int .i64 v3)))) [] [], .as 23 true] [] [] [] (And.intro h1 (And.intro h2 (And.intro (laws_szNetwork_ok a0 1048576 v3 h4) (And.intro h5 True.intro)))) (by kernel_rfl)
      · obtain ⟨v6, h7, hM⟩ := bind_some hM
        obtain ⟨v8, h9, hM⟩ := bind_some hM
        obtain ⟨v10, h11, hM⟩ := bind_some hM
        obtain ⟨v12, h13, hM⟩ := bind_some hM
        rcases cond_cases hM with ⟨h14, hM⟩ | ⟨h14, hM⟩
        · have hE : some false = some r := hM
          have hE := Option.some.inj hE
          subst hE
          exact pr R 9999 [.new 0, .as 15 false, .as 18 false, .call false [] (.o (.c (.v (.int .i64 v3)))) [] [], .as 23 false, .call false [] (.o (.agg [.sl 1, .sl 2, .v (.int .i64 v6.Change)])) [] [(1, .row 77 6 (v6.Legs.map Leg.enc)), (2, .row 3 1 (v6.Off.map encI))], .call false [] (.o (.c (.v (.int .i64 v8)))) [] [], .call false [] (.o (.agg [.sl 3, .sl 4, .v (.int .i64 v10.Change)])) [] [(3, .row 77 6 (v10.Legs.map Leg.enc)), (4, .row 3 1 (v10.Off.map encI))], .new 5, .call false [] (.o (.c (.v (.int .i64 v12)))) [] [], .as 39 true] [] [] [] (And.intro h1 (And.intro h2 (And.intro (laws_szNetwork_ok a0 1048576 v3 h4) (And.intro h5 (And.intro (And.intro (con_sw 1001 2 (con_sw 1000 1 (laws_toNetwork_ok a0 v6 h7))) (rfl : ([] : List Nat) = [])) (And.intro (spec_EarliestAt_ok v6 a1 a2 a3 v8 h9) (And.intro (And.intro (con_sw 1001 4 (con_sw 1000 3 (laws_toNetwork_ok a0 v10 h11))) (rfl : ([] : List Nat) = [])) (And.intro (impl_EarliestAt_ok v10 a1 a2 a3 v12 h13) (And.intro h14 True.intro))))))))) (by kernel_rfl)
        · obtain ⟨v15, h16, hM⟩ := bind_some hM
          obtain ⟨v17, h18, hM⟩ := bind_some hM
          rcases cond_cases hM with ⟨h19, hM⟩ | ⟨h19, hM⟩
          · have hE : some false = some r := hM
            have hE := Option.some.inj hE
            subst hE
            exact pr R 9999 [.new 0, .as 15 false, .as 18 false, .call false [] (.o (.c (.v (.int .i64 v3)))) [] [], .as 23 false, .call false [] (.o (.agg [.sl 1, .sl 2, .v (.int .i64 v6.Change)])) [] [(1, .row 77 6 (v6.Legs.map Leg.enc)), (2, .row 3 1 (v6.Off.map encI))], .call false [] (.o (.c (.v (.int .i64 v8)))) [] [], .call false [] (.o (.agg [.sl 3, .sl 4, .v (.int .i64 v10.Change)])) [] [(3, .row 77 6 (v10.Legs.map Leg.enc)), (4, .row 3 1 (v10.Off.map encI))], .new 5, .call false [] (.o (.c (.v (.int .i64 v12)))) [] [], .as 39 false, .xo [[], [], [.call false [] (.o (.agg [.sl 6, .sl 7, .v (.int .i64 v15.Change)])) [] [(6, .row 77 6 (v15.Legs.map Leg.enc)), (7, .row 3 1 (v15.Off.map encI))]], [.call false [] (.o (.c (.v (.bool v17)))) [] []], []] [.keep [44] []] (laws_FnExactEarliestAt_x1 v17), .as 44 true] [] [] [] (And.intro h1 (And.intro h2 (And.intro (laws_szNetwork_ok a0 1048576 v3 h4) (And.intro h5 (And.intro (And.intro (con_sw 1001 2 (con_sw 1000 1 (laws_toNetwork_ok a0 v6 h7))) (rfl : ([] : List Nat) = [])) (And.intro (spec_EarliestAt_ok v6 a1 a2 a3 v8 h9) (And.intro (And.intro (con_sw 1001 4 (con_sw 1000 3 (laws_toNetwork_ok a0 v10 h11))) (rfl : ([] : List Nat) = [])) (And.intro (impl_EarliestAt_ok v10 a1 a2 a3 v12 h13) (And.intro h14 (And.intro (And.intro (con_sw 1001 7 (con_sw 1000 6 (laws_toNetwork_ok a0 v15 h16))) (rfl : ([] : List Nat) = [])) (And.intro (laws_eqNetwork_ok v10 v15 v17 h18) (And.intro (rfl : (laws_FnExactEarliestAt_x1 v17) = (laws_FnExactEarliestAt_x1 v17)) (And.intro (And.intro (con_sw 1001 7 (con_sw 1000 6 (laws_toNetwork_ok a0 v15 h16))) (rfl : ([] : List Nat) = [])) (And.intro (laws_eqNetwork_ok v10 v15 v17 h18) (And.intro (rfl : (laws_FnExactEarliestAt_x1 v17) = (laws_FnExactEarliestAt_x1 v17)) (And.intro (And.intro (con_sw 1001 7 (con_sw 1000 6 (laws_toNetwork_ok a0 v15 h16))) (rfl : ([] : List Nat) = [])) (And.intro (laws_eqNetwork_ok v10 v15 v17 h18) (And.intro (rfl : (laws_FnExactEarliestAt_x1 v17) = (laws_FnExactEarliestAt_x1 v17)) (And.intro h19 True.intro))))))))))))))))))) (by kernel_rfl)
          · have hE : some true = some r := hM
            have hE := Option.some.inj hE
            subst hE
            exact pr R 9999 [.new 0, .as 15 false, .as 18 false, .call false [] (.o (.c (.v (.int .i64 v3)))) [] [], .as 23 false, .call false [] (.o (.agg [.sl 1, .sl 2, .v (.int .i64 v6.Change)])) [] [(1, .row 77 6 (v6.Legs.map Leg.enc)), (2, .row 3 1 (v6.Off.map encI))], .call false [] (.o (.c (.v (.int .i64 v8)))) [] [], .call false [] (.o (.agg [.sl 3, .sl 4, .v (.int .i64 v10.Change)])) [] [(3, .row 77 6 (v10.Legs.map Leg.enc)), (4, .row 3 1 (v10.Off.map encI))], .new 5, .call false [] (.o (.c (.v (.int .i64 v12)))) [] [], .as 39 false, .xo [[], [], [.call false [] (.o (.agg [.sl 6, .sl 7, .v (.int .i64 v15.Change)])) [] [(6, .row 77 6 (v15.Legs.map Leg.enc)), (7, .row 3 1 (v15.Off.map encI))]], [.call false [] (.o (.c (.v (.bool v17)))) [] []], []] [.keep [44] []] (laws_FnExactEarliestAt_x1 v17), .as 44 false] [] [] [] (And.intro h1 (And.intro h2 (And.intro (laws_szNetwork_ok a0 1048576 v3 h4) (And.intro h5 (And.intro (And.intro (con_sw 1001 2 (con_sw 1000 1 (laws_toNetwork_ok a0 v6 h7))) (rfl : ([] : List Nat) = [])) (And.intro (spec_EarliestAt_ok v6 a1 a2 a3 v8 h9) (And.intro (And.intro (con_sw 1001 4 (con_sw 1000 3 (laws_toNetwork_ok a0 v10 h11))) (rfl : ([] : List Nat) = [])) (And.intro (impl_EarliestAt_ok v10 a1 a2 a3 v12 h13) (And.intro h14 (And.intro (And.intro (con_sw 1001 7 (con_sw 1000 6 (laws_toNetwork_ok a0 v15 h16))) (rfl : ([] : List Nat) = [])) (And.intro (laws_eqNetwork_ok v10 v15 v17 h18) (And.intro (rfl : (laws_FnExactEarliestAt_x1 v17) = (laws_FnExactEarliestAt_x1 v17)) (And.intro (And.intro (con_sw 1001 7 (con_sw 1000 6 (laws_toNetwork_ok a0 v15 h16))) (rfl : ([] : List Nat) = [])) (And.intro (laws_eqNetwork_ok v10 v15 v17 h18) (And.intro (rfl : (laws_FnExactEarliestAt_x1 v17) = (laws_FnExactEarliestAt_x1 v17)) (And.intro (And.intro (con_sw 1001 7 (con_sw 1000 6 (laws_toNetwork_ok a0 v15 h16))) (rfl : ([] : List Nat) = [])) (And.intro (laws_eqNetwork_ok v10 v15 v17 h18) (And.intro (rfl : (laws_FnExactEarliestAt_x1 v17) = (laws_FnExactEarliestAt_x1 v17)) (And.intro h19 True.intro))))))))))))))))))) (by kernel_rfl)

-- loop.example/g03014/spec.PromiseOf
def spec_PromiseOf (a0 : Network) (a1 : Int) (a2 : ByteArray) (a3 : ByteArray) (a4 : Int) : Option Int :=
  (spec_EarliestAt a0 a2 a3 a4).bind fun v1 =>
  bif (decide (v1 < 0)) then
  some (-1)
  else
  (spec_l1In a1 1 3).bind fun v4 =>
  bif (!v4) then
  some (-1)
  else
  bif (decide ((Int.tmod v1 1440) > 1080)) then
  some (w64 ((w64 ((w64 ((w64 ((w64 (Int.tdiv v1 1440)) + 1)) + (w64 ((w64 (a1 - 1)) * (w64 (a1 - 1)))))) * 1440)) + 1080))
  else
  some (w64 ((w64 ((w64 ((w64 (Int.tdiv v1 1440)) + (w64 ((w64 (a1 - 1)) * (w64 (a1 - 1)))))) * 1440)) + 1080))
theorem spec_PromiseOf_ok (a0 : Network) (a1 : Int) (a2 : ByteArray) (a3 : ByteArray) (a4 : Int) (r : Int) (hM : spec_PromiseOf a0 a1 a2 a3 a4 = some r) :
    Con Try.prog 42 [.agg [.rs 6 (a0.Legs.map Leg.enc), .rs 1 (a0.Off.map encI), .v (.int .i64 a0.Change)], .c (.v (.int .i64 a1)), .c (.v (.string a2)), .c (.v (.string a3)), .c (.v (.int .i64 a4))] [] (.o (.c (.v (.int .i64 r)))) [] [] := by
  unfold spec_PromiseOf at hM
  refine cn (N := 41) (pids := []) Try_mixed Try.func42 (by kernel_rfl) (by kernel_rfl) (by kernel_rfl) rfl fun ρ g w R => ?_
  obtain ⟨v1, h2, hM⟩ := bind_some hM
  rcases cond_cases hM with ⟨h3, hM⟩ | ⟨h3, hM⟩
  · have hE : some (-1) = some r := hM
    have hE := Option.some.inj hE
    subst hE
    exact pr R 9999 [.new 0, .call false [] (.o (.c (.v (.int .i64 v1)))) [] [], .as 20 true] [] [] [] (And.intro (spec_EarliestAt_ok a0 a2 a3 a4 v1 h2) (And.intro h3 True.intro)) (by kernel_rfl)
  · obtain ⟨v4, h5, hM⟩ := bind_some hM
    rcases cond_cases hM with ⟨h6, hM⟩ | ⟨h6, hM⟩
    · have hE : some (-1) = some r := hM
      have hE := Option.some.inj hE
      subst hE
      exact pr R 9999 [.new 0, .call false [] (.o (.c (.v (.int .i64 v1)))) [] [], .as 20 false, .call false [] (.o (.c (.v (.bool v4)))) [] [], .as 24 true] [] [] [] (And.intro (spec_EarliestAt_ok a0 a2 a3 a4 v1 h2) (And.intro h3 (And.intro (spec_l1In_ok a1 1 3 v4 h5) (And.intro h6 True.intro)))) (by kernel_rfl)
    · rcases cond_cases hM with ⟨h7, hM⟩ | ⟨h7, hM⟩
      · have hE : some (w64 ((w64 ((w64 ((w64 ((w64 (Int.tdiv v1 1440)) + 1)) + (w64 ((w64 (a1 - 1)) * (w64 (a1 - 1)))))) * 1440)) + 1080)) = some r := hM
        have hE := Option.some.inj hE
        subst hE
        exact pr R 9999 [.new 0, .call false [] (.o (.c (.v (.int .i64 v1)))) [] [], .as 20 false, .call false [] (.o (.c (.v (.bool v4)))) [] [], .as 24 false, .as 29 true] [] [] [] (And.intro (spec_EarliestAt_ok a0 a2 a3 a4 v1 h2) (And.intro h3 (And.intro (spec_l1In_ok a1 1 3 v4 h5) (And.intro h6 (And.intro h7 True.intro))))) (by kernel_rfl)
      · have hE : some (w64 ((w64 ((w64 ((w64 (Int.tdiv v1 1440)) + (w64 ((w64 (a1 - 1)) * (w64 (a1 - 1)))))) * 1440)) + 1080)) = some r := hM
        have hE := Option.some.inj hE
        subst hE
        exact pr R 9999 [.new 0, .call false [] (.o (.c (.v (.int .i64 v1)))) [] [], .as 20 false, .call false [] (.o (.c (.v (.bool v4)))) [] [], .as 24 false, .as 29 false] [] [] [] (And.intro (spec_EarliestAt_ok a0 a2 a3 a4 v1 h2) (And.intro h3 (And.intro (spec_l1In_ok a1 1 3 v4 h5) (And.intro h6 (And.intro h7 True.intro))))) (by kernel_rfl)

-- loop.example/g03014/impl.PromiseOf
def impl_PromiseOf (a0 : Network) (a1 : Int) (a2 : ByteArray) (a3 : ByteArray) (a4 : Int) : Option Int :=
  (impl_EarliestAt a0 a2 a3 a4).bind fun v1 =>
  bif (v1 == (-1)) then
  some (-1)
  else
  (impl_within a1 1 3).bind fun v4 =>
  bif (!v4) then
  some (-1)
  else
  bif (decide ((Int.tmod v1 1440) > 1080)) then
  (gi ([0, 1, 4] : List Int) (w64 (a1 - 1))).bind fun v8 =>
  some (w64 ((w64 ((w64 ((w64 ((w64 (Int.tdiv v1 1440)) + 1)) + v8)) * 1440)) + 1080))
  else
  (gi ([0, 1, 4] : List Int) (w64 (a1 - 1))).bind fun v10 =>
  some (w64 ((w64 ((w64 ((w64 (Int.tdiv v1 1440)) + v10)) * 1440)) + 1080))
theorem impl_PromiseOf_ok (a0 : Network) (a1 : Int) (a2 : ByteArray) (a3 : ByteArray) (a4 : Int) (r : Int) (hM : impl_PromiseOf a0 a1 a2 a3 a4 = some r) :
    Con Try.prog 43 [.agg [.rs 6 (a0.Legs.map Leg.enc), .rs 1 (a0.Off.map encI), .v (.int .i64 a0.Change)], .c (.v (.int .i64 a1)), .c (.v (.string a2)), .c (.v (.string a3)), .c (.v (.int .i64 a4))] [] (.o (.c (.v (.int .i64 r)))) [] [] := by
  unfold impl_PromiseOf at hM
  refine cn (N := 41) (pids := []) Try_mixed Try.func43 (by kernel_rfl) (by kernel_rfl) (by kernel_rfl) rfl fun ρ g w R => ?_
  obtain ⟨v1, h2, hM⟩ := bind_some hM
  rcases cond_cases hM with ⟨h3, hM⟩ | ⟨h3, hM⟩
  · have hE : some (-1) = some r := hM
    have hE := Option.some.inj hE
    subst hE
    exact pr R 9999 [.new 0, .call false [] (.o (.c (.v (.int .i64 v1)))) [] [], .as 20 true] [] [] [] (And.intro (impl_EarliestAt_ok a0 a2 a3 a4 v1 h2) (And.intro h3 True.intro)) (by kernel_rfl)
  · obtain ⟨v4, h5, hM⟩ := bind_some hM
    rcases cond_cases hM with ⟨h6, hM⟩ | ⟨h6, hM⟩
    · have hE : some (-1) = some r := hM
      have hE := Option.some.inj hE
      subst hE
      exact pr R 9999 [.new 0, .call false [] (.o (.c (.v (.int .i64 v1)))) [] [], .as 20 false, .call false [] (.o (.c (.v (.bool v4)))) [] [], .as 24 true] [] [] [] (And.intro (impl_EarliestAt_ok a0 a2 a3 a4 v1 h2) (And.intro h3 (And.intro (impl_within_ok a1 1 3 v4 h5) (And.intro h6 True.intro)))) (by kernel_rfl)
    · rcases cond_cases hM with ⟨h7, hM⟩ | ⟨h7, hM⟩
      · obtain ⟨v8, h9, hM⟩ := bind_some hM
        have hE : some (w64 ((w64 ((w64 ((w64 ((w64 (Int.tdiv v1 1440)) + 1)) + v8)) * 1440)) + 1080)) = some r := hM
        have hE := Option.some.inj hE
        subst hE
        exact pr R 9999 [.new 0, .call false [] (.o (.c (.v (.int .i64 v1)))) [] [], .as 20 false, .call false [] (.o (.c (.v (.bool v4)))) [] [], .as 24 false, .as 29 true, .new 1, .ix (encI v8)] [] [] [] (And.intro (impl_EarliestAt_ok a0 a2 a3 a4 v1 h2) (And.intro h3 (And.intro (impl_within_ok a1 1 3 v4 h5) (And.intro h6 (And.intro h7 (And.intro (gi_lt encI h9) (And.intro ((gi_map encI h9).2) True.intro))))))) (by kernel_rfl)
      · obtain ⟨v10, h11, hM⟩ := bind_some hM
        have hE : some (w64 ((w64 ((w64 ((w64 (Int.tdiv v1 1440)) + v10)) * 1440)) + 1080)) = some r := hM
        have hE := Option.some.inj hE
        subst hE
        exact pr R 9999 [.new 0, .call false [] (.o (.c (.v (.int .i64 v1)))) [] [], .as 20 false, .call false [] (.o (.c (.v (.bool v4)))) [] [], .as 24 false, .as 29 false, .new 2, .ix (encI v10)] [] [] [] (And.intro (impl_EarliestAt_ok a0 a2 a3 a4 v1 h2) (And.intro h3 (And.intro (impl_within_ok a1 1 3 v4 h5) (And.intro h6 (And.intro h7 (And.intro (gi_lt encI h11) (And.intro ((gi_map encI h11).2) True.intro))))))) (by kernel_rfl)

-- loop.example/g03014/laws.FnExactPromiseOf
def laws_FnExactPromiseOf_x1 (v17 : Bool) : St := ⟨[(48, .o (.c (.v (.bool (!v17)))))], []⟩
def laws_FnExactPromiseOf (a0 : Network) (a1 : Int) (a2 : ByteArray) (a3 : ByteArray) (a4 : Int) : Option Bool :=
  bif (decide ((a2.size : Int) > 1048576)) then
  some true
  else
  bif (decide ((a3.size : Int) > 1048576)) then
  some true
  else
  (laws_szNetwork a0 1048576).bind fun v3 =>
  bif (decide (v3 < 0)) then
  some true
  else
  (laws_toNetwork a0).bind fun v6 =>
  (spec_PromiseOf v6 a1 a2 a3 a4).bind fun v8 =>
  (laws_toNetwork a0).bind fun v10 =>
  (impl_PromiseOf v10 a1 a2 a3 a4).bind fun v12 =>
  bif (v12 != v8) then
  some false
  else
  (laws_toNetwork a0).bind fun v15 =>
  (laws_eqNetwork v10 v15).bind fun v17 =>
  bif (!v17) then
  some false
  else
  some true
theorem laws_FnExactPromiseOf_ok (a0 : Network) (a1 : Int) (a2 : ByteArray) (a3 : ByteArray) (a4 : Int) (r : Bool) (hM : laws_FnExactPromiseOf a0 a1 a2 a3 a4 = some r) :
    Con Try.prog 9 [.agg [.rs 6 (a0.Legs.map Leg.enc), .rs 1 (a0.Off.map encI), .v (.int .i64 a0.Change)], .c (.v (.int .i64 a1)), .c (.v (.string a2)), .c (.v (.string a3)), .c (.v (.int .i64 a4))] [] (.o (.c (.v (.bool r)))) [] [] := by
  unfold laws_FnExactPromiseOf at hM
  refine cn (N := 49) (pids := []) Try_mixed Try.func9 (by kernel_rfl) (by kernel_rfl) (by kernel_rfl) rfl fun ρ g w R => ?_
  rcases cond_cases hM with ⟨h1, hM⟩ | ⟨h1, hM⟩
  · have hE : some true = some r := hM
    have hE := Option.some.inj hE
    subst hE
    exact pr R 9999 [.new 0, .as 17 true] [] [] [] (And.intro h1 True.intro) (by kernel_rfl)
  · rcases cond_cases hM with ⟨h2, hM⟩ | ⟨h2, hM⟩
    · have hE : some true = some r := hM
      have hE := Option.some.inj hE
      subst hE
      exact pr R 9999 [.new 0, .as 17 false, .as 20 true] [] [] [] (And.intro h1 (And.intro h2 True.intro)) (by kernel_rfl)
    · obtain ⟨v3, h4, hM⟩ := bind_some hM
      rcases cond_cases hM with ⟨h5, hM⟩ | ⟨h5, hM⟩
      · have hE : some true = some r := hM
        have hE := Option.some.inj hE
        subst hE
        exact pr R 9999 [.new 0, .as 17 false, .as 20 false, .call false [] (.o (.c (.v (.int .i64 v3)))) [] [], .as 25 true] [] [] [] (And.intro h1 (And.intro h2 (And.intro (laws_szNetwork_ok a0 1048576 v3 h4) (And.intro h5 True.intro)))) (by kernel_rfl)
      · obtain ⟨v6, h7, hM⟩ := bind_some hM
        obtain ⟨v8, h9, hM⟩ := bind_some hM
        obtain ⟨v10, h11, hM⟩ := bind_some hM
        obtain ⟨v12, h13, hM⟩ := bind_some hM
        rcases cond_cases hM with ⟨h14, hM⟩ | ⟨h14, hM⟩
        · have hE : some false = some r := hM
          have hE := Option.some.inj hE
          subst hE
          exact pr R 9999 [.new 0, .as 17 false, .as 20 false, .call false [] (.o (.c (.v (.int .i64 v3)))) [] [], .as 25 false, .call false [] (.o (.agg [.sl 1, .sl 2, .v (.int .i64 v6.Change)])) [] [(1, .row 77 6 (v6.Legs.map Leg.enc)), (2, .row 3 1 (v6.Off.map encI))], .call false [] (.o (.c (.v (.int .i64 v8)))) [] [], .call false [] (.o (.agg [.sl 3, .sl 4, .v (.int .i64 v10.Change)])) [] [(3, .row 77 6 (v10.Legs.map Leg.enc)), (4, .row 3 1 (v10.Off.map encI))], .new 5, .call false [] (.o (.c (.v (.int .i64 v12)))) [] [], .as 43 true] [] [] [] (And.intro h1 (And.intro h2 (And.intro (laws_szNetwork_ok a0 1048576 v3 h4) (And.intro h5 (And.intro (And.intro (con_sw 1001 2 (con_sw 1000 1 (laws_toNetwork_ok a0 v6 h7))) (rfl : ([] : List Nat) = [])) (And.intro (spec_PromiseOf_ok v6 a1 a2 a3 a4 v8 h9) (And.intro (And.intro (con_sw 1001 4 (con_sw 1000 3 (laws_toNetwork_ok a0 v10 h11))) (rfl : ([] : List Nat) = [])) (And.intro (impl_PromiseOf_ok v10 a1 a2 a3 a4 v12 h13) (And.intro h14 True.intro))))))))) (by kernel_rfl)
        · obtain ⟨v15, h16, hM⟩ := bind_some hM
          obtain ⟨v17, h18, hM⟩ := bind_some hM
          rcases cond_cases hM with ⟨h19, hM⟩ | ⟨h19, hM⟩
          · have hE : some false = some r := hM
            have hE := Option.some.inj hE
            subst hE
            exact pr R 9999 [.new 0, .as 17 false, .as 20 false, .call false [] (.o (.c (.v (.int .i64 v3)))) [] [], .as 25 false, .call false [] (.o (.agg [.sl 1, .sl 2, .v (.int .i64 v6.Change)])) [] [(1, .row 77 6 (v6.Legs.map Leg.enc)), (2, .row 3 1 (v6.Off.map encI))], .call false [] (.o (.c (.v (.int .i64 v8)))) [] [], .call false [] (.o (.agg [.sl 3, .sl 4, .v (.int .i64 v10.Change)])) [] [(3, .row 77 6 (v10.Legs.map Leg.enc)), (4, .row 3 1 (v10.Off.map encI))], .new 5, .call false [] (.o (.c (.v (.int .i64 v12)))) [] [], .as 43 false, .xo [[], [], [.call false [] (.o (.agg [.sl 6, .sl 7, .v (.int .i64 v15.Change)])) [] [(6, .row 77 6 (v15.Legs.map Leg.enc)), (7, .row 3 1 (v15.Off.map encI))]], [.call false [] (.o (.c (.v (.bool v17)))) [] []], []] [.keep [48] []] (laws_FnExactPromiseOf_x1 v17), .as 48 true] [] [] [] (And.intro h1 (And.intro h2 (And.intro (laws_szNetwork_ok a0 1048576 v3 h4) (And.intro h5 (And.intro (And.intro (con_sw 1001 2 (con_sw 1000 1 (laws_toNetwork_ok a0 v6 h7))) (rfl : ([] : List Nat) = [])) (And.intro (spec_PromiseOf_ok v6 a1 a2 a3 a4 v8 h9) (And.intro (And.intro (con_sw 1001 4 (con_sw 1000 3 (laws_toNetwork_ok a0 v10 h11))) (rfl : ([] : List Nat) = [])) (And.intro (impl_PromiseOf_ok v10 a1 a2 a3 a4 v12 h13) (And.intro h14 (And.intro (And.intro (con_sw 1001 7 (con_sw 1000 6 (laws_toNetwork_ok a0 v15 h16))) (rfl : ([] : List Nat) = [])) (And.intro (laws_eqNetwork_ok v10 v15 v17 h18) (And.intro (rfl : (laws_FnExactPromiseOf_x1 v17) = (laws_FnExactPromiseOf_x1 v17)) (And.intro (And.intro (con_sw 1001 7 (con_sw 1000 6 (laws_toNetwork_ok a0 v15 h16))) (rfl : ([] : List Nat) = [])) (And.intro (laws_eqNetwork_ok v10 v15 v17 h18) (And.intro (rfl : (laws_FnExactPromiseOf_x1 v17) = (laws_FnExactPromiseOf_x1 v17)) (And.intro (And.intro (con_sw 1001 7 (con_sw 1000 6 (laws_toNetwork_ok a0 v15 h16))) (rfl : ([] : List Nat) = [])) (And.intro (laws_eqNetwork_ok v10 v15 v17 h18) (And.intro (rfl : (laws_FnExactPromiseOf_x1 v17) = (laws_FnExactPromiseOf_x1 v17)) (And.intro h19 True.intro))))))))))))))))))) (by kernel_rfl)
          · have hE : some true = some r := hM
            have hE := Option.some.inj hE
            subst hE
            exact pr R 9999 [.new 0, .as 17 false, .as 20 false, .call false [] (.o (.c (.v (.int .i64 v3)))) [] [], .as 25 false, .call false [] (.o (.agg [.sl 1, .sl 2, .v (.int .i64 v6.Change)])) [] [(1, .row 77 6 (v6.Legs.map Leg.enc)), (2, .row 3 1 (v6.Off.map encI))], .call false [] (.o (.c (.v (.int .i64 v8)))) [] [], .call false [] (.o (.agg [.sl 3, .sl 4, .v (.int .i64 v10.Change)])) [] [(3, .row 77 6 (v10.Legs.map Leg.enc)), (4, .row 3 1 (v10.Off.map encI))], .new 5, .call false [] (.o (.c (.v (.int .i64 v12)))) [] [], .as 43 false, .xo [[], [], [.call false [] (.o (.agg [.sl 6, .sl 7, .v (.int .i64 v15.Change)])) [] [(6, .row 77 6 (v15.Legs.map Leg.enc)), (7, .row 3 1 (v15.Off.map encI))]], [.call false [] (.o (.c (.v (.bool v17)))) [] []], []] [.keep [48] []] (laws_FnExactPromiseOf_x1 v17), .as 48 false] [] [] [] (And.intro h1 (And.intro h2 (And.intro (laws_szNetwork_ok a0 1048576 v3 h4) (And.intro h5 (And.intro (And.intro (con_sw 1001 2 (con_sw 1000 1 (laws_toNetwork_ok a0 v6 h7))) (rfl : ([] : List Nat) = [])) (And.intro (spec_PromiseOf_ok v6 a1 a2 a3 a4 v8 h9) (And.intro (And.intro (con_sw 1001 4 (con_sw 1000 3 (laws_toNetwork_ok a0 v10 h11))) (rfl : ([] : List Nat) = [])) (And.intro (impl_PromiseOf_ok v10 a1 a2 a3 a4 v12 h13) (And.intro h14 (And.intro (And.intro (con_sw 1001 7 (con_sw 1000 6 (laws_toNetwork_ok a0 v15 h16))) (rfl : ([] : List Nat) = [])) (And.intro (laws_eqNetwork_ok v10 v15 v17 h18) (And.intro (rfl : (laws_FnExactPromiseOf_x1 v17) = (laws_FnExactPromiseOf_x1 v17)) (And.intro (And.intro (con_sw 1001 7 (con_sw 1000 6 (laws_toNetwork_ok a0 v15 h16))) (rfl : ([] : List Nat) = [])) (And.intro (laws_eqNetwork_ok v10 v15 v17 h18) (And.intro (rfl : (laws_FnExactPromiseOf_x1 v17) = (laws_FnExactPromiseOf_x1 v17)) (And.intro (And.intro (con_sw 1001 7 (con_sw 1000 6 (laws_toNetwork_ok a0 v15 h16))) (rfl : ([] : List Nat) = [])) (And.intro (laws_eqNetwork_ok v10 v15 v17 h18) (And.intro (rfl : (laws_FnExactPromiseOf_x1 v17) = (laws_FnExactPromiseOf_x1 v17)) (And.intro h19 True.intro))))))))))))))))))) (by kernel_rfl)

-- loop.example/g03014/spec.ReachedBy
def spec_ReachedBy_L1_b (a3 : Int) (v1 : (List ByteArray)) (v3 : (List Int)) (s5 : (List ByteArray)) (s6 : Int) : Option (Ctl ((List ByteArray) × Int) (List ByteArray) (List ByteArray)) :=
  bif (decide (s6 < (v3.length : Int))) then
  (gi v3 s6).bind fun v9 =>
  bif (decide (v9 ≥ 0)) then
  (gi v3 s6).bind fun v12 =>
  bif (decide (v12 ≤ a3)) then
  (gi v1 s6).bind fun v15 =>
  (ap 16 s5 ([v15] : List ByteArray)).bind fun v17 =>
  some (.next (v17, w64 (s6 + 1)))
  else
  some (.next (s5, w64 (s6 + 1)))
  else
  some (.next (s5, w64 (s6 + 1)))
  else
  some (.brk s5)
def spec_ReachedBy_L1 (a3 : Int) (v1 : (List ByteArray)) (v3 : (List Int)) (s : (List ByteArray) × Int) : Option (Ctl ((List ByteArray) × Int) (List ByteArray) (List ByteArray)) := spec_ReachedBy_L1_b a3 v1 v3 s.1 s.2
def spec_ReachedBy_L1_s (a3 : Int) (v1 : (List ByteArray)) (v3 : (List Int)) (s5 : (List ByteArray)) (s6 : Int) : St := ⟨[(3, .o (.c (.v (.int .i64 a3)))), (9, .o (.c (.sl 1))), (10, .o (.c (.sl 2))), (11, .o (.c (.sl 3))), (12, .o (.c (.v (.int .i64 s6))))], [(1, .row 9 1 (v1.map encS)), (2, .row 9 1 (s5.map encS)), (3, .row 3 1 (v3.map encI))]⟩
def spec_ReachedBy_L1_S (a3 : Int) (v1 : (List ByteArray)) (v3 : (List Int)) (s : (List ByteArray) × Int) : St := spec_ReachedBy_L1_s a3 v1 v3 s.1 s.2
def spec_ReachedBy_L1_a (s7 : (List ByteArray)) : Option (List ByteArray) :=
  some s7
def spec_ReachedBy_L1_k (x : ((List ByteArray)) ⊕ ((List ByteArray))) : Option (List ByteArray) := match x with
  | .inl t => spec_ReachedBy_L1_a t
  | .inr y => some y
def spec_ReachedBy (a0 : Network) (a1 : ByteArray) (a2 : Int) (a3 : Int) : Option (List ByteArray) :=
  (spec_PlacesOf a0).bind fun v1 =>
  (spec_BestArrivals a0 a1 a2 (v1.length : Int)).bind fun v3 =>
  (loopM (spec_ReachedBy_L1 a3 v1 v3) big (([] : List ByteArray), 0)).bind (spec_ReachedBy_L1_k)
theorem spec_ReachedBy_ok (a0 : Network) (a1 : ByteArray) (a2 : Int) (a3 : Int) (r : (List ByteArray)) (hM : spec_ReachedBy a0 a1 a2 a3 = some r) :
    Con Try.prog 46 [.agg [.rs 6 (a0.Legs.map Leg.enc), .rs 1 (a0.Off.map encI), .v (.int .i64 a0.Change)], .c (.v (.string a1)), .c (.v (.int .i64 a2)), .c (.v (.int .i64 a3))] [] (.o (.c (.sl 1000))) [] [(1000, .row 9 1 (r.map encS))] := by
  unfold spec_ReachedBy at hM
  refine cn (N := 49) (pids := []) Try_mixed Try.func46 (by kernel_rfl) (by kernel_rfl) (by kernel_rfl) rfl fun ρ g w R => ?_
  obtain ⟨v1, h2, hM⟩ := bind_some hM
  obtain ⟨v3, h4, hM⟩ := bind_some hM
  have K1 : ∀ (s7 : (List ByteArray)), spec_ReachedBy_L1_a s7 = some r → Gr R [.code (cAt Try.f46 [1, 1, 1, 1, 1])] (⟨[(10, .o (.c (.sl 2)))], [(2, .row 9 1 (s7.map encS))]⟩) := by
    intro s7 hM
    unfold spec_ReachedBy_L1_a at hM
    have hE : some s7 = some r := hM
    have hE := Option.some.inj hE
    subst hE
    exact pr R 9999 [] [.sw 2 1000] [] [1000] True.intro (by kernel_rfl)
  refine pc R 9999 [.new 0, .call false [] (.o (.c (.sl 1))) [] [(1, .row 9 1 (v1.map encS))], .new 2, .ln (v1.length), .call false [] (.o (.c (.sl 3))) [] [(3, .row 3 1 (v3.map encI))]] [.keep [3, 9, 10, 11, 12] [1, 2, 3]] (k' := [.code (.loop (cAt Try.f46 [1, 1, 1, 1, 0, 1, 0, 0])), .blk 0, .code (cAt Try.f46 [1, 1, 1, 1, 1])]) (S' := spec_ReachedBy_L1_S a3 v1 v3 (([] : List ByteArray), 0)) (And.intro (And.intro (con_sw 1000 1 (spec_PlacesOf_ok a0 v1 h2)) (rfl : ([] : List Nat) = [])) (And.intro (lenm encS v1) (And.intro (And.intro (con_sw 1000 3 (spec_BestArrivals_ok a0 a1 a2 (v1.length : Int) v3 h4)) (rfl : ([] : List Nat) = [])) True.intro))) (by kernel_rfl) ?_
  refine lq (spec_ReachedBy_L1_S a3 v1 v3) (body := spec_ReachedBy_L1 a3 v1 v3) (k := spec_ReachedBy_L1_k) hM fun m1 s c1 hM hK1 => ?_
  obtain ⟨s5, s6⟩ := s
  have hM : spec_ReachedBy_L1_b a3 v1 v3 s5 s6 = some c1 := hM
  unfold spec_ReachedBy_L1_b at hM
  rcases cond_cases hM with ⟨h8, hM⟩ | ⟨h8, hM⟩
  · obtain ⟨v9, h10, hM⟩ := bind_some hM
    rcases cond_cases hM with ⟨h11, hM⟩ | ⟨h11, hM⟩
    · obtain ⟨v12, h13, hM⟩ := bind_some hM
      rcases cond_cases hM with ⟨h14, hM⟩ | ⟨h14, hM⟩
      · obtain ⟨v15, h16, hM⟩ := bind_some hM
        obtain ⟨v17, h18, hM⟩ := bind_some hM
        have hE : some (Ctl.next (v17, w64 (s6 + 1))) = some c1 := hM
        have hE := Option.some.inj hE
        subst hE
        exact pc R 9999 [.ln (v3.length), .as 25 true, .ix (encI v9), .as 33 true, .ix (encI v12), .as 40 true, .ix (encS v15), .new 4, .new 5, .nm (v17.map encS)] [.sw 5 2, .keep [3, 9, 10, 11, 12] [1, 2, 3]] (And.intro (lenm encI v3) (And.intro h8 (And.intro (gi_lt encI h10) (And.intro ((gi_map encI h10).2) (And.intro h11 (And.intro (gi_lt encI h13) (And.intro ((gi_map encI h13).2) (And.intro h14 (And.intro (gi_lt encS h16) (And.intro ((gi_map encS h16).2) (And.intro (ap_ok encS h18) True.intro))))))))))) (by kernel_rfl) (li (Sf := spec_ReachedBy_L1_S a3 v1 v3) (M := Mk (spec_ReachedBy_L1 a3 v1 v3) (spec_ReachedBy_L1_k) r) (k := [.blk 0, .code (cAt Try.f46 [1, 1, 1, 1, 1])]) (Nat.lt_succ_self m1) hK1)
      · have hE : some (Ctl.next (s5, w64 (s6 + 1))) = some c1 := hM
        have hE := Option.some.inj hE
        subst hE
        exact pc R 9999 [.ln (v3.length), .as 25 true, .ix (encI v9), .as 33 true, .ix (encI v12), .as 40 false] [.keep [3, 9, 10, 11, 12] [1, 2, 3]] (And.intro (lenm encI v3) (And.intro h8 (And.intro (gi_lt encI h10) (And.intro ((gi_map encI h10).2) (And.intro h11 (And.intro (gi_lt encI h13) (And.intro ((gi_map encI h13).2) (And.intro h14 True.intro)))))))) (by kernel_rfl) (li (Sf := spec_ReachedBy_L1_S a3 v1 v3) (M := Mk (spec_ReachedBy_L1 a3 v1 v3) (spec_ReachedBy_L1_k) r) (k := [.blk 0, .code (cAt Try.f46 [1, 1, 1, 1, 1])]) (Nat.lt_succ_self m1) hK1)
    · have hE : some (Ctl.next (s5, w64 (s6 + 1))) = some c1 := hM
      have hE := Option.some.inj hE
      subst hE
      exact pc R 9999 [.ln (v3.length), .as 25 true, .ix (encI v9), .as 33 false] [.keep [3, 9, 10, 11, 12] [1, 2, 3]] (And.intro (lenm encI v3) (And.intro h8 (And.intro (gi_lt encI h10) (And.intro ((gi_map encI h10).2) (And.intro h11 True.intro))))) (by kernel_rfl) (li (Sf := spec_ReachedBy_L1_S a3 v1 v3) (M := Mk (spec_ReachedBy_L1 a3 v1 v3) (spec_ReachedBy_L1_k) r) (k := [.blk 0, .code (cAt Try.f46 [1, 1, 1, 1, 1])]) (Nat.lt_succ_self m1) hK1)
  · have hE : some (Ctl.brk s5) = some c1 := hM
    have hE := Option.some.inj hE
    subst hE
    exact pc R 5 [.ln (v3.length), .as 25 false] [.keep [10] [2]] (And.intro (lenm encI v3) (And.intro h8 True.intro)) (by kernel_rfl) (K1 s5 hK1)

-- loop.example/g03014/impl.ReachedBy
def impl_ReachedBy_L1_b (a3 : Int) (v1 : (List ByteArray)) (v3 : (List Int)) (s5 : (List ByteArray)) (s6 : Int) : Option (Ctl ((List ByteArray) × Int) (List ByteArray) (List ByteArray)) :=
  bif (decide (s6 < (v3.length : Int))) then
  (gi v3 s6).bind fun v9 =>
  bif (v9 != (-1)) then
  bif (decide (v9 ≤ a3)) then
  (gi v1 s6).bind fun v13 =>
  (ap 16 s5 ([v13] : List ByteArray)).bind fun v15 =>
  some (.next (v15, w64 (s6 + 1)))
  else
  some (.next (s5, w64 (s6 + 1)))
  else
  some (.next (s5, w64 (s6 + 1)))
  else
  some (.brk s5)
def impl_ReachedBy_L1 (a3 : Int) (v1 : (List ByteArray)) (v3 : (List Int)) (s : (List ByteArray) × Int) : Option (Ctl ((List ByteArray) × Int) (List ByteArray) (List ByteArray)) := impl_ReachedBy_L1_b a3 v1 v3 s.1 s.2
def impl_ReachedBy_L1_s (a3 : Int) (v1 : (List ByteArray)) (v3 : (List Int)) (s5 : (List ByteArray)) (s6 : Int) : St := ⟨[(3, .o (.c (.v (.int .i64 a3)))), (9, .o (.c (.sl 1))), (10, .o (.c (.sl 2))), (21, .o (.c (.sl 3))), (22, .o (.c (.v (.int .i64 (v3.length : Int))))), (23, .o (.c (.v (.int .i64 s6))))], [(1, .row 9 1 (v1.map encS)), (2, .row 9 1 (s5.map encS)), (3, .row 3 1 (v3.map encI))]⟩
def impl_ReachedBy_L1_S (a3 : Int) (v1 : (List ByteArray)) (v3 : (List Int)) (s : (List ByteArray) × Int) : St := impl_ReachedBy_L1_s a3 v1 v3 s.1 s.2
def impl_ReachedBy_L1_a (s7 : (List ByteArray)) : Option (List ByteArray) :=
  some s7
def impl_ReachedBy_L1_k (x : ((List ByteArray)) ⊕ ((List ByteArray))) : Option (List ByteArray) := match x with
  | .inl t => impl_ReachedBy_L1_a t
  | .inr y => some y
def impl_ReachedBy (a0 : Network) (a1 : ByteArray) (a2 : Int) (a3 : Int) : Option (List ByteArray) :=
  (impl_PlacesOf a0).bind fun v1 =>
  (impl_BestArrivals a0 a1 a2 (v1.length : Int)).bind fun v3 =>
  (loopM (impl_ReachedBy_L1 a3 v1 v3) big (([] : List ByteArray), 0)).bind (impl_ReachedBy_L1_k)
theorem impl_ReachedBy_ok (a0 : Network) (a1 : ByteArray) (a2 : Int) (a3 : Int) (r : (List ByteArray)) (hM : impl_ReachedBy a0 a1 a2 a3 = some r) :
    Con Try.prog 47 [.agg [.rs 6 (a0.Legs.map Leg.enc), .rs 1 (a0.Off.map encI), .v (.int .i64 a0.Change)], .c (.v (.string a1)), .c (.v (.int .i64 a2)), .c (.v (.int .i64 a3))] [] (.o (.c (.sl 1000))) [] [(1000, .row 9 1 (r.map encS))] := by
  unfold impl_ReachedBy at hM
  refine cn (N := 44) (pids := []) Try_mixed Try.func47 (by kernel_rfl) (by kernel_rfl) (by kernel_rfl) rfl fun ρ g w R => ?_
  obtain ⟨v1, h2, hM⟩ := bind_some hM
  obtain ⟨v3, h4, hM⟩ := bind_some hM
  have K1 : ∀ (s7 : (List ByteArray)), impl_ReachedBy_L1_a s7 = some r → Gr R [.code (cAt Try.f47 [1, 1, 1, 1])] (⟨[(10, .o (.c (.sl 2)))], [(2, .row 9 1 (s7.map encS))]⟩) := by
    intro s7 hM
    unfold impl_ReachedBy_L1_a at hM
    have hE : some s7 = some r := hM
    have hE := Option.some.inj hE
    subst hE
    exact pr R 9999 [] [.sw 2 1000] [] [1000] True.intro (by kernel_rfl)
  refine pc R 9999 [.new 0, .call false [] (.o (.c (.sl 1))) [] [(1, .row 9 1 (v1.map encS))], .new 2, .ln (v1.length), .call false [] (.o (.c (.sl 3))) [] [(3, .row 3 1 (v3.map encI))], .ln (v3.length)] [.keep [3, 9, 10, 21, 22, 23] [1, 2, 3]] (k' := [.code (.loop (cAt Try.f47 [1, 1, 1, 0, 1, 0, 0])), .blk 0, .code (cAt Try.f47 [1, 1, 1, 1])]) (S' := impl_ReachedBy_L1_S a3 v1 v3 (([] : List ByteArray), 0)) (And.intro (And.intro (con_sw 1000 1 (impl_PlacesOf_ok a0 v1 h2)) (rfl : ([] : List Nat) = [])) (And.intro (lenm encS v1) (And.intro (And.intro (con_sw 1000 3 (impl_BestArrivals_ok a0 a1 a2 (v1.length : Int) v3 h4)) (rfl : ([] : List Nat) = [])) (And.intro (lenm encI v3) True.intro)))) (by kernel_rfl) ?_
  refine lq (impl_ReachedBy_L1_S a3 v1 v3) (body := impl_ReachedBy_L1 a3 v1 v3) (k := impl_ReachedBy_L1_k) hM fun m1 s c1 hM hK1 => ?_
  obtain ⟨s5, s6⟩ := s
  have hM : impl_ReachedBy_L1_b a3 v1 v3 s5 s6 = some c1 := hM
  unfold impl_ReachedBy_L1_b at hM
  rcases cond_cases hM with ⟨h8, hM⟩ | ⟨h8, hM⟩
  · obtain ⟨v9, h10, hM⟩ := bind_some hM
    rcases cond_cases hM with ⟨h11, hM⟩ | ⟨h11, hM⟩
    · rcases cond_cases hM with ⟨h12, hM⟩ | ⟨h12, hM⟩
      · obtain ⟨v13, h14, hM⟩ := bind_some hM
        obtain ⟨v15, h16, hM⟩ := bind_some hM
        have hE : some (Ctl.next (v15, w64 (s6 + 1))) = some c1 := hM
        have hE := Option.some.inj hE
        subst hE
        exact pc R 9999 [.as 24 true, .ix (encI v9), .as 30 true, .as 34 true, .ix (encS v13), .new 4, .new 5, .nm (v15.map encS)] [.sw 5 2, .keep [3, 9, 10, 21, 22, 23] [1, 2, 3]] (And.intro h8 (And.intro (gi_lt encI h10) (And.intro ((gi_map encI h10).2) (And.intro h11 (And.intro h12 (And.intro (gi_lt encS h14) (And.intro ((gi_map encS h14).2) (And.intro (ap_ok encS h16) True.intro)))))))) (by kernel_rfl) (li (Sf := impl_ReachedBy_L1_S a3 v1 v3) (M := Mk (impl_ReachedBy_L1 a3 v1 v3) (impl_ReachedBy_L1_k) r) (k := [.blk 0, .code (cAt Try.f47 [1, 1, 1, 1])]) (Nat.lt_succ_self m1) hK1)
      · have hE : some (Ctl.next (s5, w64 (s6 + 1))) = some c1 := hM
        have hE := Option.some.inj hE
        subst hE
        exact pc R 9999 [.as 24 true, .ix (encI v9), .as 30 true, .as 34 false] [.keep [3, 9, 10, 21, 22, 23] [1, 2, 3]] (And.intro h8 (And.intro (gi_lt encI h10) (And.intro ((gi_map encI h10).2) (And.intro h11 (And.intro h12 True.intro))))) (by kernel_rfl) (li (Sf := impl_ReachedBy_L1_S a3 v1 v3) (M := Mk (impl_ReachedBy_L1 a3 v1 v3) (impl_ReachedBy_L1_k) r) (k := [.blk 0, .code (cAt Try.f47 [1, 1, 1, 1])]) (Nat.lt_succ_self m1) hK1)
    · have hE : some (Ctl.next (s5, w64 (s6 + 1))) = some c1 := hM
      have hE := Option.some.inj hE
      subst hE
      exact pc R 9999 [.as 24 true, .ix (encI v9), .as 30 false] [.keep [3, 9, 10, 21, 22, 23] [1, 2, 3]] (And.intro h8 (And.intro (gi_lt encI h10) (And.intro ((gi_map encI h10).2) (And.intro h11 True.intro)))) (by kernel_rfl) (li (Sf := impl_ReachedBy_L1_S a3 v1 v3) (M := Mk (impl_ReachedBy_L1 a3 v1 v3) (impl_ReachedBy_L1_k) r) (k := [.blk 0, .code (cAt Try.f47 [1, 1, 1, 1])]) (Nat.lt_succ_self m1) hK1)
  · have hE : some (Ctl.brk s5) = some c1 := hM
    have hE := Option.some.inj hE
    subst hE
    exact pc R 5 [.as 24 false] [.keep [10] [2]] (And.intro h8 True.intro) (by kernel_rfl) (K1 s5 hK1)

-- loop.example/g03014/laws.eqStringS
def laws_eqStringS_L1_b (a0 : (List ByteArray)) (a1 : (List ByteArray)) (s2 : Int) : Option (Ctl Int Unit Bool) :=
  bif (decide (s2 < (a0.length : Int))) then
  (gi a0 s2).bind fun v4 =>
  (gi a1 s2).bind fun v6 =>
  bif (!(v4.toList == v6.toList)) then
  some (.ret false)
  else
  some (.next (w64 (s2 + 1)))
  else
  some (.brk ())
def laws_eqStringS_L1 (a0 : (List ByteArray)) (a1 : (List ByteArray)) (s : Int) : Option (Ctl Int Unit Bool) := laws_eqStringS_L1_b a0 a1 s
def laws_eqStringS_L1_s (a0 : (List ByteArray)) (a1 : (List ByteArray)) (s2 : Int) : St := ⟨[(0, .o (.c (.rs 1 (a0.map encS)))), (1, .o (.c (.rs 1 (a1.map encS)))), (5, .o (.c (.v (.int .i64 s2))))], []⟩
def laws_eqStringS_L1_S (a0 : (List ByteArray)) (a1 : (List ByteArray)) (s : Int) : St := laws_eqStringS_L1_s a0 a1 s
def laws_eqStringS_L1_a : Option Bool :=
  some true
def laws_eqStringS_L1_k (x : (Unit) ⊕ (Bool)) : Option Bool := match x with
  | .inl t => laws_eqStringS_L1_a
  | .inr y => some y
def laws_eqStringS (a0 : (List ByteArray)) (a1 : (List ByteArray)) : Option Bool :=
  bif ((a0.length : Int) != (a1.length : Int)) then
  some false
  else
  (loopM (laws_eqStringS_L1 a0 a1) big 0).bind (laws_eqStringS_L1_k)
theorem laws_eqStringS_ok (a0 : (List ByteArray)) (a1 : (List ByteArray)) (r : Bool) (hM : laws_eqStringS a0 a1 = some r) :
    Con Try.prog 48 [.c (.rs 1 (a0.map encS)), .c (.rs 1 (a1.map encS))] [] (.o (.c (.v (.bool r)))) [] [] := by
  unfold laws_eqStringS at hM
  refine cn (N := 26) (pids := []) Try_mixed Try.func48 (by kernel_rfl) (by kernel_rfl) (by kernel_rfl) rfl fun ρ g w R => ?_
  rcases cond_cases hM with ⟨h1, hM⟩ | ⟨h1, hM⟩
  · have hE : some false = some r := hM
    have hE := Option.some.inj hE
    subst hE
    exact pr R 9999 [.ln (a0.length), .ln (a1.length), .as 10 true] [] [] [] (And.intro (lenm encS a0) (And.intro (lenm encS a1) (And.intro h1 True.intro))) (by kernel_rfl)
  · have K1 : ∀ (_ : Unit), laws_eqStringS_L1_a = some r → Gr R [.code (cAt Try.f48 [1, 1, 1])] (⟨[], []⟩) := by
      intro _ hM
      unfold laws_eqStringS_L1_a at hM
      have hE : some true = some r := hM
      have hE := Option.some.inj hE
      subst hE
      exact pr R 9999 [] [] [] [] True.intro (by kernel_rfl)
    refine pc R 9999 [.ln (a0.length), .ln (a1.length), .as 10 false] [.keep [0, 1, 5] []] (k' := [.code (.loop (cAt Try.f48 [1, 1, 0, 1, 0, 0])), .blk 0, .code (cAt Try.f48 [1, 1, 1])]) (S' := laws_eqStringS_L1_S a0 a1 0) (And.intro (lenm encS a0) (And.intro (lenm encS a1) (And.intro h1 True.intro))) (by kernel_rfl) ?_
    refine lq (laws_eqStringS_L1_S a0 a1) (body := laws_eqStringS_L1 a0 a1) (k := laws_eqStringS_L1_k) hM fun m1 s c1 hM hK1 => ?_
    obtain ⟨s2, hs⟩ : ∃ z, z = s := ⟨_, rfl⟩
    subst hs
    have hM : laws_eqStringS_L1_b a0 a1 s2 = some c1 := hM
    unfold laws_eqStringS_L1_b at hM
    rcases cond_cases hM with ⟨h3, hM⟩ | ⟨h3, hM⟩
    · obtain ⟨v4, h5, hM⟩ := bind_some hM
      obtain ⟨v6, h7, hM⟩ := bind_some hM
      rcases cond_cases hM with ⟨h8, hM⟩ | ⟨h8, hM⟩
      · have hE : some (Ctl.ret false) = some c1 := hM
        have hE := Option.some.inj hE
        subst hE
        have hE : some false = some r := hK1
        have hE := Option.some.inj hE
        subst hE
        exact pr R 9999 [.ln (a0.length), .as 14 true, .ix (encS v4), .ix (encS v6), .as 25 true] [] [] [] (And.intro (lenm encS a0) (And.intro h3 (And.intro (gi_map encS h5) (And.intro (gi_map encS h7) (And.intro h8 True.intro))))) (by kernel_rfl)
      · have hE : some (Ctl.next (w64 (s2 + 1))) = some c1 := hM
        have hE := Option.some.inj hE
        subst hE
        exact pc R 9999 [.ln (a0.length), .as 14 true, .ix (encS v4), .ix (encS v6), .as 25 false] [.keep [0, 1, 5] []] (And.intro (lenm encS a0) (And.intro h3 (And.intro (gi_map encS h5) (And.intro (gi_map encS h7) (And.intro h8 True.intro))))) (by kernel_rfl) (li (Sf := laws_eqStringS_L1_S a0 a1) (M := Mk (laws_eqStringS_L1 a0 a1) (laws_eqStringS_L1_k) r) (k := [.blk 0, .code (cAt Try.f48 [1, 1, 1])]) (Nat.lt_succ_self m1) hK1)
    · have hE : some (Ctl.brk ()) = some c1 := hM
      have hE := Option.some.inj hE
      subst hE
      exact pc R 5 [.ln (a0.length), .as 14 false] [.keep [] []] (And.intro (lenm encS a0) (And.intro h3 True.intro)) (by kernel_rfl) (K1 () hK1)

-- loop.example/g03014/laws.markStringS
def laws_markStringS_L1_b (s1 : (List ByteArray)) (s2 : Int) (s3 : Int) : Option (Ctl ((List ByteArray) × Int × Int) ((List ByteArray) × Int) (Int × (List ByteArray))) :=
  bif (decide (s3 < (s1.length : Int))) then
  (laws_markText s2).bind fun v7 =>
  (gi s1 s3).bind fun v9 =>
  some (.next (List.set s1 (Int.toNat s3) v7, w64 (s2 + 1), w64 (s3 + 1)))
  else
  some (.brk (s1, s2))
def laws_markStringS_L1 (s : (List ByteArray) × Int × Int) : Option (Ctl ((List ByteArray) × Int × Int) ((List ByteArray) × Int) (Int × (List ByteArray))) := laws_markStringS_L1_b s.1 s.2.1 s.2.2
def laws_markStringS_L1_s (s1 : (List ByteArray)) (s2 : Int) (s3 : Int) : St := ⟨[(0, .o (.c (.sl 900))), (1, .o (.c (.v (.int .i64 s2)))), (5, .o (.c (.v (.int .i64 s3))))], [(900, .row 9 1 (s1.map encS))]⟩
def laws_markStringS_L1_S (s : (List ByteArray) × Int × Int) : St := laws_markStringS_L1_s s.1 s.2.1 s.2.2
def laws_markStringS_L1_a (s4 : (List ByteArray)) (s5 : Int) : Option (Int × (List ByteArray)) :=
  some (s5, s4)
def laws_markStringS_L1_k (x : ((List ByteArray) × Int) ⊕ (Int × (List ByteArray))) : Option (Int × (List ByteArray)) := match x with
  | .inl t => laws_markStringS_L1_a t.1 t.2
  | .inr y => some y
def laws_markStringS (a0 : (List ByteArray)) (a1 : Int) : Option (Int × (List ByteArray)) :=
  (loopM (laws_markStringS_L1) big (a0, a1, 0)).bind (laws_markStringS_L1_k)
theorem laws_markStringS_ok (a0 : (List ByteArray)) (a1 : Int) (r : Int × (List ByteArray)) (hM : laws_markStringS a0 a1 = some r) :
    Con Try.prog 49 [.c (.sl 900), .c (.v (.int .i64 a1))] [(900, .row 9 1 (a0.map encS))] (.o (.c (.v (.int .i64 r.1)))) [(900, .row 9 1 (r.2.map encS))] [] := by
  unfold laws_markStringS at hM
  refine cn (N := 20) (pids := [900]) Try_mixed Try.func49 (by kernel_rfl) (by kernel_rfl) (by kernel_rfl) rfl fun ρ g w R => ?_
  have K1 : ∀ (s4 : (List ByteArray)) (s5 : Int), laws_markStringS_L1_a s4 s5 = some r → Gr R [.code (cAt Try.f49 [1, 1])] (⟨[(0, .o (.c (.sl 900))), (1, .o (.c (.v (.int .i64 s5))))], [(900, .row 9 1 (s4.map encS))]⟩) := by
    intro s4 s5 hM
    unfold laws_markStringS_L1_a at hM
    have hE : some (s5, s4) = some r := hM
    have hE := Option.some.inj hE
    subst hE
    exact pr R 9999 [] [] [900] [] True.intro (by kernel_rfl)
  refine pc R 9999 [] [.keep [0, 1, 5] [900]] (k' := [.code (.loop (cAt Try.f49 [1, 0, 1, 0, 0])), .blk 0, .code (cAt Try.f49 [1, 1])]) (S' := laws_markStringS_L1_S (a0, a1, 0)) True.intro (by kernel_rfl) ?_
  refine lq (laws_markStringS_L1_S) (body := laws_markStringS_L1) (k := laws_markStringS_L1_k) hM fun m1 s c1 hM hK1 => ?_
  obtain ⟨s1, s2, s3⟩ := s
  have hM : laws_markStringS_L1_b s1 s2 s3 = some c1 := hM
  unfold laws_markStringS_L1_b at hM
  rcases cond_cases hM with ⟨h6, hM⟩ | ⟨h6, hM⟩
  · obtain ⟨v7, h8, hM⟩ := bind_some hM
    obtain ⟨v9, h10, hM⟩ := bind_some hM
    have hE : some (Ctl.next (List.set s1 (Int.toNat s3) v7, w64 (s2 + 1), w64 (s3 + 1))) = some c1 := hM
    have hE := Option.some.inj hE
    subst hE
    exact pc R 9999 [.ln (s1.length), .as 9 true, .call false [] (.o (.c (.v (.string v7)))) [] [], .ix (encS v9), .nm ((List.set s1 (Int.toNat s3) v7).map encS)] [.keep [0, 1, 5] [900]] (And.intro (lenm encS s1) (And.intro h6 (And.intro (laws_markText_ok s2 v7 h8) (And.intro (gi_lt encS h10) (And.intro (And.intro (gi_map encS h10).2 (set_map encS s1 (Int.toNat s3) v7)) True.intro))))) (by kernel_rfl) (li (Sf := laws_markStringS_L1_S) (M := Mk (laws_markStringS_L1) (laws_markStringS_L1_k) r) (k := [.blk 0, .code (cAt Try.f49 [1, 1])]) (Nat.lt_succ_self m1) hK1)
  · have hE : some (Ctl.brk (s1, s2)) = some c1 := hM
    have hE := Option.some.inj hE
    subst hE
    exact pc R 5 [.ln (s1.length), .as 9 false] [.keep [0, 1] [900]] (And.intro (lenm encS s1) (And.intro h6 True.intro)) (by kernel_rfl) (K1 s1 s2 hK1)

-- loop.example/g03014/laws.heldStringS
def laws_heldStringS_L1_b (a0 : (List ByteArray)) (s1 : Int) (s2 : Int) : Option (Ctl (Int × Int) Int Int) :=
  bif (decide (s2 < (a0.length : Int))) then
  (gi a0 s2).bind fun v5 =>
  (laws_markText s1).bind fun v7 =>
  bif (!(v5.toList == v7.toList)) then
  some (.ret (-1))
  else
  some (.next (w64 (s1 + 1), w64 (s2 + 1)))
  else
  some (.brk s1)
def laws_heldStringS_L1 (a0 : (List ByteArray)) (s : Int × Int) : Option (Ctl (Int × Int) Int Int) := laws_heldStringS_L1_b a0 s.1 s.2
def laws_heldStringS_L1_s (a0 : (List ByteArray)) (s1 : Int) (s2 : Int) : St := ⟨[(0, .o (.c (.rs 1 (a0.map encS)))), (1, .o (.c (.v (.int .i64 s1)))), (5, .o (.c (.v (.int .i64 s2))))], []⟩
def laws_heldStringS_L1_S (a0 : (List ByteArray)) (s : Int × Int) : St := laws_heldStringS_L1_s a0 s.1 s.2
def laws_heldStringS_L1_a (s3 : Int) : Option Int :=
  some s3
def laws_heldStringS_L1_k (x : (Int) ⊕ (Int)) : Option Int := match x with
  | .inl t => laws_heldStringS_L1_a t
  | .inr y => some y
def laws_heldStringS (a0 : (List ByteArray)) (a1 : Int) : Option Int :=
  (loopM (laws_heldStringS_L1 a0) big (a1, 0)).bind (laws_heldStringS_L1_k)
theorem laws_heldStringS_ok (a0 : (List ByteArray)) (a1 : Int) (r : Int) (hM : laws_heldStringS a0 a1 = some r) :
    Con Try.prog 50 [.c (.rs 1 (a0.map encS)), .c (.v (.int .i64 a1))] [] (.o (.c (.v (.int .i64 r)))) [] [] := by
  unfold laws_heldStringS at hM
  refine cn (N := 22) (pids := []) Try_mixed Try.func50 (by kernel_rfl) (by kernel_rfl) (by kernel_rfl) rfl fun ρ g w R => ?_
  have K1 : ∀ (s3 : Int), laws_heldStringS_L1_a s3 = some r → Gr R [.code (cAt Try.f50 [1, 1])] (⟨[(1, .o (.c (.v (.int .i64 s3))))], []⟩) := by
    intro s3 hM
    unfold laws_heldStringS_L1_a at hM
    have hE : some s3 = some r := hM
    have hE := Option.some.inj hE
    subst hE
    exact pr R 9999 [] [] [] [] True.intro (by kernel_rfl)
  refine pc R 9999 [] [.keep [0, 1, 5] []] (k' := [.code (.loop (cAt Try.f50 [1, 0, 1, 0, 0])), .blk 0, .code (cAt Try.f50 [1, 1])]) (S' := laws_heldStringS_L1_S a0 (a1, 0)) True.intro (by kernel_rfl) ?_
  refine lq (laws_heldStringS_L1_S a0) (body := laws_heldStringS_L1 a0) (k := laws_heldStringS_L1_k) hM fun m1 s c1 hM hK1 => ?_
  obtain ⟨s1, s2⟩ := s
  have hM : laws_heldStringS_L1_b a0 s1 s2 = some c1 := hM
  unfold laws_heldStringS_L1_b at hM
  rcases cond_cases hM with ⟨h4, hM⟩ | ⟨h4, hM⟩
  · obtain ⟨v5, h6, hM⟩ := bind_some hM
    obtain ⟨v7, h8, hM⟩ := bind_some hM
    rcases cond_cases hM with ⟨h9, hM⟩ | ⟨h9, hM⟩
    · have hE : some (Ctl.ret (-1)) = some c1 := hM
      have hE := Option.some.inj hE
      subst hE
      have hE : some (-1) = some r := hK1
      have hE := Option.some.inj hE
      subst hE
      exact pr R 9999 [.ln (a0.length), .as 9 true, .ix (encS v5), .call false [] (.o (.c (.v (.string v7)))) [] [], .as 18 true] [] [] [] (And.intro (lenm encS a0) (And.intro h4 (And.intro (gi_map encS h6) (And.intro (laws_markText_ok s1 v7 h8) (And.intro h9 True.intro))))) (by kernel_rfl)
    · have hE : some (Ctl.next (w64 (s1 + 1), w64 (s2 + 1))) = some c1 := hM
      have hE := Option.some.inj hE
      subst hE
      exact pc R 9999 [.ln (a0.length), .as 9 true, .ix (encS v5), .call false [] (.o (.c (.v (.string v7)))) [] [], .as 18 false] [.keep [0, 1, 5] []] (And.intro (lenm encS a0) (And.intro h4 (And.intro (gi_map encS h6) (And.intro (laws_markText_ok s1 v7 h8) (And.intro h9 True.intro))))) (by kernel_rfl) (li (Sf := laws_heldStringS_L1_S a0) (M := Mk (laws_heldStringS_L1 a0) (laws_heldStringS_L1_k) r) (k := [.blk 0, .code (cAt Try.f50 [1, 1])]) (Nat.lt_succ_self m1) hK1)
  · have hE : some (Ctl.brk s1) = some c1 := hM
    have hE := Option.some.inj hE
    subst hE
    exact pc R 5 [.ln (a0.length), .as 9 false] [.keep [1] []] (And.intro (lenm encS a0) (And.intro h4 True.intro)) (by kernel_rfl) (K1 s1 hK1)

-- loop.example/g03014/laws.FnExactReachedBy
def laws_FnExactReachedBy_x1 (a0 : Network) (a1 : ByteArray) (a2 : Int) (a3 : Int) (v7 : (List ByteArray)) (v9 : Network) (v11 : (List ByteArray)) (v18 : Bool) : St := ⟨[(1, .o (.c (.v (.string a1)))), (2, .o (.c (.v (.int .i64 a2)))), (3, .o (.c (.v (.int .i64 a3)))), (4, .o (.c (.ptr 0 0))), (10, .o (.c (.sl 3))), (11, .o (.c (.ptr 6 0))), (12, .o (.c (.sl 7))), (46, .o (.c (.v (.bool (!v18)))))], [(0, .box 25 [.rs 6 (a0.Legs.map Leg.enc), .rs 1 (a0.Off.map encI), .v (.int .i64 a0.Change)]), (3, .row 9 1 (v7.map encS)), (6, .box 32 [.sl 4, .sl 5, .v (.int .i64 v9.Change)]), (4, .row 77 6 (v9.Legs.map Leg.enc)), (5, .row 3 1 (v9.Off.map encI)), (7, .row 9 1 (v11.map encS))]⟩
def laws_FnExactReachedBy (a0 : Network) (a1 : ByteArray) (a2 : Int) (a3 : Int) : Option Bool :=
  bif (decide ((a1.size : Int) > 1048576)) then
  some true
  else
  (laws_szNetwork a0 1048576).bind fun v2 =>
  bif (decide (v2 < 0)) then
  some true
  else
  (laws_toNetwork a0).bind fun v5 =>
  (spec_ReachedBy v5 a1 a2 a3).bind fun v7 =>
  (laws_toNetwork a0).bind fun v9 =>
  (impl_ReachedBy v9 a1 a2 a3).bind fun v11 =>
  (laws_eqStringS v11 v7).bind fun v13 =>
  bif (!v13) then
  some false
  else
  (laws_toNetwork a0).bind fun v16 =>
  (laws_eqNetwork v9 v16).bind fun v18 =>
  bif (!v18) then
  some false
  else
  (laws_markNetwork v9 1).bind fun v21 =>
  bif (decide (v21.1 < 0)) then
  some false
  else
  (laws_eqStringS v11 v7).bind fun v24 =>
  bif (!v24) then
  some false
  else
  (laws_markStringS v11 1).bind fun v27 =>
  (laws_heldStringS v27.2 1).bind fun v29 =>
  bif (decide (v29 < 0)) then
  some false
  else
  bif (v29 != v27.1) then
  some false
  else
  (laws_toNetwork a0).bind fun v33 =>
  (impl_ReachedBy v33 a1 a2 a3).bind fun v35 =>
  (laws_eqStringS v35 v7).bind fun v37 =>
  bif (!v37) then
  some false
  else
  (laws_heldStringS v27.2 1).bind fun v40 =>
  bif (decide (v40 < 0)) then
  some false
  else
  bif (v40 != v27.1) then
  some false
  else
  some true
theorem laws_FnExactReachedBy_ok (a0 : Network) (a1 : ByteArray) (a2 : Int) (a3 : Int) (r : Bool) (hM : laws_FnExactReachedBy a0 a1 a2 a3 = some r) :
    Con Try.prog 11 [.agg [.rs 6 (a0.Legs.map Leg.enc), .rs 1 (a0.Off.map encI), .v (.int .i64 a0.Change)], .c (.v (.string a1)), .c (.v (.int .i64 a2)), .c (.v (.int .i64 a3))] [] (.o (.c (.v (.bool r)))) [] [] := by
  unfold laws_FnExactReachedBy at hM
  refine cn (N := 87) (pids := []) Try_mixed Try.func11 (by kernel_rfl) (by kernel_rfl) (by kernel_rfl) rfl fun ρ g w R => ?_
  rcases cond_cases hM with ⟨h1, hM⟩ | ⟨h1, hM⟩
  · have hE : some true = some r := hM
    have hE := Option.some.inj hE
    subst hE
    exact pr R 9999 [.new 0, .as 19 true] [] [] [] (And.intro h1 True.intro) (by kernel_rfl)
  · obtain ⟨v2, h3, hM⟩ := bind_some hM
    rcases cond_cases hM with ⟨h4, hM⟩ | ⟨h4, hM⟩
    · have hE : some true = some r := hM
      have hE := Option.some.inj hE
      subst hE
      exact pr R 9999 [.new 0, .as 19 false, .call false [] (.o (.c (.v (.int .i64 v2)))) [] [], .as 24 true] [] [] [] (And.intro h1 (And.intro (laws_szNetwork_ok a0 1048576 v2 h3) (And.intro h4 True.intro))) (by kernel_rfl)
    · obtain ⟨v5, h6, hM⟩ := bind_some hM
      obtain ⟨v7, h8, hM⟩ := bind_some hM
      obtain ⟨v9, h10, hM⟩ := bind_some hM
      obtain ⟨v11, h12, hM⟩ := bind_some hM
      obtain ⟨v13, h14, hM⟩ := bind_some hM
      rcases cond_cases hM with ⟨h15, hM⟩ | ⟨h15, hM⟩
      · have hE : some false = some r := hM
        have hE := Option.some.inj hE
        subst hE
        exact pr R 9999 [.new 0, .as 19 false, .call false [] (.o (.c (.v (.int .i64 v2)))) [] [], .as 24 false, .call false [] (.o (.agg [.sl 1, .sl 2, .v (.int .i64 v5.Change)])) [] [(1, .row 77 6 (v5.Legs.map Leg.enc)), (2, .row 3 1 (v5.Off.map encI))], .call false [] (.o (.c (.sl 3))) [] [(3, .row 9 1 (v7.map encS))], .call false [] (.o (.agg [.sl 4, .sl 5, .v (.int .i64 v9.Change)])) [] [(4, .row 77 6 (v9.Legs.map Leg.enc)), (5, .row 3 1 (v9.Off.map encI))], .new 6, .call false [] (.o (.c (.sl 7))) [] [(7, .row 9 1 (v11.map encS))], .call false [] (.o (.c (.v (.bool v13)))) [] [], .as 41 true] [] [] [] (And.intro h1 (And.intro (laws_szNetwork_ok a0 1048576 v2 h3) (And.intro h4 (And.intro (And.intro (con_sw 1001 2 (con_sw 1000 1 (laws_toNetwork_ok a0 v5 h6))) (rfl : ([] : List Nat) = [])) (And.intro (And.intro (con_sw 1000 3 (spec_ReachedBy_ok v5 a1 a2 a3 v7 h8)) (rfl : ([] : List Nat) = [])) (And.intro (And.intro (con_sw 1001 5 (con_sw 1000 4 (laws_toNetwork_ok a0 v9 h10))) (rfl : ([] : List Nat) = [])) (And.intro (And.intro (con_sw 1000 7 (impl_ReachedBy_ok v9 a1 a2 a3 v11 h12)) (rfl : ([] : List Nat) = [])) (And.intro (laws_eqStringS_ok v11 v7 v13 h14) (And.intro h15 True.intro))))))))) (by kernel_rfl)
      · obtain ⟨v16, h17, hM⟩ := bind_some hM
        obtain ⟨v18, h19, hM⟩ := bind_some hM
        rcases cond_cases hM with ⟨h20, hM⟩ | ⟨h20, hM⟩
        · have hE : some false = some r := hM
          have hE := Option.some.inj hE
          subst hE
          exact pr R 9999 [.new 0, .as 19 false, .call false [] (.o (.c (.v (.int .i64 v2)))) [] [], .as 24 false, .call false [] (.o (.agg [.sl 1, .sl 2, .v (.int .i64 v5.Change)])) [] [(1, .row 77 6 (v5.Legs.map Leg.enc)), (2, .row 3 1 (v5.Off.map encI))], .call false [] (.o (.c (.sl 3))) [] [(3, .row 9 1 (v7.map encS))], .call false [] (.o (.agg [.sl 4, .sl 5, .v (.int .i64 v9.Change)])) [] [(4, .row 77 6 (v9.Legs.map Leg.enc)), (5, .row 3 1 (v9.Off.map encI))], .new 6, .call false [] (.o (.c (.sl 7))) [] [(7, .row 9 1 (v11.map encS))], .call false [] (.o (.c (.v (.bool v13)))) [] [], .as 41 false, .xo [[], [], [.call false [] (.o (.agg [.sl 8, .sl 9, .v (.int .i64 v16.Change)])) [] [(8, .row 77 6 (v16.Legs.map Leg.enc)), (9, .row 3 1 (v16.Off.map encI))]], [.call false [] (.o (.c (.v (.bool v18)))) [] []], []] [.keep [1, 2, 3, 4, 10, 11, 12, 46] [0, 3, 6, 4, 5, 7]] (laws_FnExactReachedBy_x1 a0 a1 a2 a3 v7 v9 v11 v18), .as 46 true] [] [] [] (And.intro h1 (And.intro (laws_szNetwork_ok a0 1048576 v2 h3) (And.intro h4 (And.intro (And.intro (con_sw 1001 2 (con_sw 1000 1 (laws_toNetwork_ok a0 v5 h6))) (rfl : ([] : List Nat) = [])) (And.intro (And.intro (con_sw 1000 3 (spec_ReachedBy_ok v5 a1 a2 a3 v7 h8)) (rfl : ([] : List Nat) = [])) (And.intro (And.intro (con_sw 1001 5 (con_sw 1000 4 (laws_toNetwork_ok a0 v9 h10))) (rfl : ([] : List Nat) = [])) (And.intro (And.intro (con_sw 1000 7 (impl_ReachedBy_ok v9 a1 a2 a3 v11 h12)) (rfl : ([] : List Nat) = [])) (And.intro (laws_eqStringS_ok v11 v7 v13 h14) (And.intro h15 (And.intro (And.intro (con_sw 1001 9 (con_sw 1000 8 (laws_toNetwork_ok a0 v16 h17))) (rfl : ([] : List Nat) = [])) (And.intro (laws_eqNetwork_ok v9 v16 v18 h19) (And.intro (rfl : (laws_FnExactReachedBy_x1 a0 a1 a2 a3 v7 v9 v11 v18) = (laws_FnExactReachedBy_x1 a0 a1 a2 a3 v7 v9 v11 v18)) (And.intro (And.intro (con_sw 1001 9 (con_sw 1000 8 (laws_toNetwork_ok a0 v16 h17))) (rfl : ([] : List Nat) = [])) (And.intro (laws_eqNetwork_ok v9 v16 v18 h19) (And.intro (rfl : (laws_FnExactReachedBy_x1 a0 a1 a2 a3 v7 v9 v11 v18) = (laws_FnExactReachedBy_x1 a0 a1 a2 a3 v7 v9 v11 v18)) (And.intro (And.intro (con_sw 1001 9 (con_sw 1000 8 (laws_toNetwork_ok a0 v16 h17))) (rfl : ([] : List Nat) = [])) (And.intro (laws_eqNetwork_ok v9 v16 v18 h19) (And.intro (rfl : (laws_FnExactReachedBy_x1 a0 a1 a2 a3 v7 v9 v11 v18) = (laws_FnExactReachedBy_x1 a0 a1 a2 a3 v7 v9 v11 v18)) (And.intro h20 True.intro))))))))))))))))))) (by kernel_rfl)
        · obtain ⟨v21, h22, hM⟩ := bind_some hM
          rcases cond_cases hM with ⟨h23, hM⟩ | ⟨h23, hM⟩
          · have hE : some false = some r := hM
            have hE := Option.some.inj hE
            subst hE
            exact pr R 9999 [.new 0, .as 19 false, .call false [] (.o (.c (.v (.int .i64 v2)))) [] [], .as 24 false, .call false [] (.o (.agg [.sl 1, .sl 2, .v (.int .i64 v5.Change)])) [] [(1, .row 77 6 (v5.Legs.map Leg.enc)), (2, .row 3 1 (v5.Off.map encI))], .call false [] (.o (.c (.sl 3))) [] [(3, .row 9 1 (v7.map encS))], .call false [] (.o (.agg [.sl 4, .sl 5, .v (.int .i64 v9.Change)])) [] [(4, .row 77 6 (v9.Legs.map Leg.enc)), (5, .row 3 1 (v9.Off.map encI))], .new 6, .call false [] (.o (.c (.sl 7))) [] [(7, .row 9 1 (v11.map encS))], .call false [] (.o (.c (.v (.bool v13)))) [] [], .as 41 false, .xo [[], [], [.call false [] (.o (.agg [.sl 8, .sl 9, .v (.int .i64 v16.Change)])) [] [(8, .row 77 6 (v16.Legs.map Leg.enc)), (9, .row 3 1 (v16.Off.map encI))]], [.call false [] (.o (.c (.v (.bool v18)))) [] []], []] [.keep [1, 2, 3, 4, 10, 11, 12, 46] [0, 3, 6, 4, 5, 7]] (laws_FnExactReachedBy_x1 a0 a1 a2 a3 v7 v9 v11 v18), .as 46 false, .ad (.keep [1, 2, 3, 4, 10, 11, 12, 13, 46, 47, 48] [4, 5, 0, 3, 6, 7]), .call false [4, 5] (.o (.c (.v (.int .i64 v21.1)))) [(4, .row 77 6 (v21.2.Legs.map Leg.enc)), (5, .row 3 1 (v21.2.Off.map encI))] [], .as 52 true] [] [] [] (And.intro h1 (And.intro (laws_szNetwork_ok a0 1048576 v2 h3) (And.intro h4 (And.intro (And.intro (con_sw 1001 2 (con_sw 1000 1 (laws_toNetwork_ok a0 v5 h6))) (rfl : ([] : List Nat) = [])) (And.intro (And.intro (con_sw 1000 3 (spec_ReachedBy_ok v5 a1 a2 a3 v7 h8)) (rfl : ([] : List Nat) = [])) (And.intro (And.intro (con_sw 1001 5 (con_sw 1000 4 (laws_toNetwork_ok a0 v9 h10))) (rfl : ([] : List Nat) = [])) (And.intro (And.intro (con_sw 1000 7 (impl_ReachedBy_ok v9 a1 a2 a3 v11 h12)) (rfl : ([] : List Nat) = [])) (And.intro (laws_eqStringS_ok v11 v7 v13 h14) (And.intro h15 (And.intro (And.intro (con_sw 1001 9 (con_sw 1000 8 (laws_toNetwork_ok a0 v16 h17))) (rfl : ([] : List Nat) = [])) (And.intro (laws_eqNetwork_ok v9 v16 v18 h19) (And.intro (rfl : (laws_FnExactReachedBy_x1 a0 a1 a2 a3 v7 v9 v11 v18) = (laws_FnExactReachedBy_x1 a0 a1 a2 a3 v7 v9 v11 v18)) (And.intro (And.intro (con_sw 1001 9 (con_sw 1000 8 (laws_toNetwork_ok a0 v16 h17))) (rfl : ([] : List Nat) = [])) (And.intro (laws_eqNetwork_ok v9 v16 v18 h19) (And.intro (rfl : (laws_FnExactReachedBy_x1 a0 a1 a2 a3 v7 v9 v11 v18) = (laws_FnExactReachedBy_x1 a0 a1 a2 a3 v7 v9 v11 v18)) (And.intro (And.intro (con_sw 1001 9 (con_sw 1000 8 (laws_toNetwork_ok a0 v16 h17))) (rfl : ([] : List Nat) = [])) (And.intro (laws_eqNetwork_ok v9 v16 v18 h19) (And.intro (rfl : (laws_FnExactReachedBy_x1 a0 a1 a2 a3 v7 v9 v11 v18) = (laws_FnExactReachedBy_x1 a0 a1 a2 a3 v7 v9 v11 v18)) (And.intro h20 (And.intro (And.intro (con_sw 920 5 (con_sw 900 4 (laws_markNetwork_ok v9 1 v21 h22))) (rfl : ([4, 5] : List Nat) = [4, 5])) (And.intro h23 True.intro))))))))))))))))))))) (by kernel_rfl)
          · obtain ⟨v24, h25, hM⟩ := bind_some hM
            rcases cond_cases hM with ⟨h26, hM⟩ | ⟨h26, hM⟩
            · have hE : some false = some r := hM
              have hE := Option.some.inj hE
              subst hE
              exact pr R 9999 [.new 0, .as 19 false, .call false [] (.o (.c (.v (.int .i64 v2)))) [] [], .as 24 false, .call false [] (.o (.agg [.sl 1, .sl 2, .v (.int .i64 v5.Change)])) [] [(1, .row 77 6 (v5.Legs.map Leg.enc)), (2, .row 3 1 (v5.Off.map encI))], .call false [] (.o (.c (.sl 3))) [] [(3, .row 9 1 (v7.map encS))], .call false [] (.o (.agg [.sl 4, .sl 5, .v (.int .i64 v9.Change)])) [] [(4, .row 77 6 (v9.Legs.map Leg.enc)), (5, .row 3 1 (v9.Off.map encI))], .new 6, .call false [] (.o (.c (.sl 7))) [] [(7, .row 9 1 (v11.map encS))], .call false [] (.o (.c (.v (.bool v13)))) [] [], .as 41 false, .xo [[], [], [.call false [] (.o (.agg [.sl 8, .sl 9, .v (.int .i64 v16.Change)])) [] [(8, .row 77 6 (v16.Legs.map Leg.enc)), (9, .row 3 1 (v16.Off.map encI))]], [.call false [] (.o (.c (.v (.bool v18)))) [] []], []] [.keep [1, 2, 3, 4, 10, 11, 12, 46] [0, 3, 6, 4, 5, 7]] (laws_FnExactReachedBy_x1 a0 a1 a2 a3 v7 v9 v11 v18), .as 46 false, .ad (.keep [1, 2, 3, 4, 10, 11, 12, 13, 46, 47, 48] [4, 5, 0, 3, 6, 7]), .call false [4, 5] (.o (.c (.v (.int .i64 v21.1)))) [(4, .row 77 6 (v21.2.Legs.map Leg.enc)), (5, .row 3 1 (v21.2.Off.map encI))] [], .as 52 false, .call false [] (.o (.c (.v (.bool v24)))) [] [], .as 57 true] [] [] [] (And.intro h1 (And.intro (laws_szNetwork_ok a0 1048576 v2 h3) (And.intro h4 (And.intro (And.intro (con_sw 1001 2 (con_sw 1000 1 (laws_toNetwork_ok a0 v5 h6))) (rfl : ([] : List Nat) = [])) (And.intro (And.intro (con_sw 1000 3 (spec_ReachedBy_ok v5 a1 a2 a3 v7 h8)) (rfl : ([] : List Nat) = [])) (And.intro (And.intro (con_sw 1001 5 (con_sw 1000 4 (laws_toNetwork_ok a0 v9 h10))) (rfl : ([] : List Nat) = [])) (And.intro (And.intro (con_sw 1000 7 (impl_ReachedBy_ok v9 a1 a2 a3 v11 h12)) (rfl : ([] : List Nat) = [])) (And.intro (laws_eqStringS_ok v11 v7 v13 h14) (And.intro h15 (And.intro (And.intro (con_sw 1001 9 (con_sw 1000 8 (laws_toNetwork_ok a0 v16 h17))) (rfl : ([] : List Nat) = [])) (And.intro (laws_eqNetwork_ok v9 v16 v18 h19) (And.intro (rfl : (laws_FnExactReachedBy_x1 a0 a1 a2 a3 v7 v9 v11 v18) = (laws_FnExactReachedBy_x1 a0 a1 a2 a3 v7 v9 v11 v18)) (And.intro (And.intro (con_sw 1001 9 (con_sw 1000 8 (laws_toNetwork_ok a0 v16 h17))) (rfl : ([] : List Nat) = [])) (And.intro (laws_eqNetwork_ok v9 v16 v18 h19) (And.intro (rfl : (laws_FnExactReachedBy_x1 a0 a1 a2 a3 v7 v9 v11 v18) = (laws_FnExactReachedBy_x1 a0 a1 a2 a3 v7 v9 v11 v18)) (And.intro (And.intro (con_sw 1001 9 (con_sw 1000 8 (laws_toNetwork_ok a0 v16 h17))) (rfl : ([] : List Nat) = [])) (And.intro (laws_eqNetwork_ok v9 v16 v18 h19) (And.intro (rfl : (laws_FnExactReachedBy_x1 a0 a1 a2 a3 v7 v9 v11 v18) = (laws_FnExactReachedBy_x1 a0 a1 a2 a3 v7 v9 v11 v18)) (And.intro h20 (And.intro (And.intro (con_sw 920 5 (con_sw 900 4 (laws_markNetwork_ok v9 1 v21 h22))) (rfl : ([4, 5] : List Nat) = [4, 5])) (And.intro h23 (And.intro (laws_eqStringS_ok v11 v7 v24 h25) (And.intro h26 True.intro))))))))))))))))))))))) (by kernel_rfl)
            · obtain ⟨v27, h28, hM⟩ := bind_some hM
              obtain ⟨v29, h30, hM⟩ := bind_some hM
              rcases cond_cases hM with ⟨h31, hM⟩ | ⟨h31, hM⟩
              · have hE : some false = some r := hM
                have hE := Option.some.inj hE
                subst hE
                exact pr R 9999 [.new 0, .as 19 false, .call false [] (.o (.c (.v (.int .i64 v2)))) [] [], .as 24 false, .call false [] (.o (.agg [.sl 1, .sl 2, .v (.int .i64 v5.Change)])) [] [(1, .row 77 6 (v5.Legs.map Leg.enc)), (2, .row 3 1 (v5.Off.map encI))], .call false [] (.o (.c (.sl 3))) [] [(3, .row 9 1 (v7.map encS))], .call false [] (.o (.agg [.sl 4, .sl 5, .v (.int .i64 v9.Change)])) [] [(4, .row 77 6 (v9.Legs.map Leg.enc)), (5, .row 3 1 (v9.Off.map encI))], .new 6, .call false [] (.o (.c (.sl 7))) [] [(7, .row 9 1 (v11.map encS))], .call false [] (.o (.c (.v (.bool v13)))) [] [], .as 41 false, .xo [[], [], [.call false [] (.o (.agg [.sl 8, .sl 9, .v (.int .i64 v16.Change)])) [] [(8, .row 77 6 (v16.Legs.map Leg.enc)), (9, .row 3 1 (v16.Off.map encI))]], [.call false [] (.o (.c (.v (.bool v18)))) [] []], []] [.keep [1, 2, 3, 4, 10, 11, 12, 46] [0, 3, 6, 4, 5, 7]] (laws_FnExactReachedBy_x1 a0 a1 a2 a3 v7 v9 v11 v18), .as 46 false, .ad (.keep [1, 2, 3, 4, 10, 11, 12, 13, 46, 47, 48] [4, 5, 0, 3, 6, 7]), .call false [4, 5] (.o (.c (.v (.int .i64 v21.1)))) [(4, .row 77 6 (v21.2.Legs.map Leg.enc)), (5, .row 3 1 (v21.2.Off.map encI))] [], .as 52 false, .call false [] (.o (.c (.v (.bool v24)))) [] [], .as 57 false, .call false [7] (.o (.c (.v (.int .i64 v27.1)))) [(7, .row 9 1 (v27.2.map encS))] [], .call false [] (.o (.c (.v (.int .i64 v29)))) [] [], .as 65 true] [] [] [] (And.intro h1 (And.intro (laws_szNetwork_ok a0 1048576 v2 h3) (And.intro h4 (And.intro (And.intro (con_sw 1001 2 (con_sw 1000 1 (laws_toNetwork_ok a0 v5 h6))) (rfl : ([] : List Nat) = [])) (And.intro (And.intro (con_sw 1000 3 (spec_ReachedBy_ok v5 a1 a2 a3 v7 h8)) (rfl : ([] : List Nat) = [])) (And.intro (And.intro (con_sw 1001 5 (con_sw 1000 4 (laws_toNetwork_ok a0 v9 h10))) (rfl : ([] : List Nat) = [])) (And.intro (And.intro (con_sw 1000 7 (impl_ReachedBy_ok v9 a1 a2 a3 v11 h12)) (rfl : ([] : List Nat) = [])) (And.intro (laws_eqStringS_ok v11 v7 v13 h14) (And.intro h15 (And.intro (And.intro (con_sw 1001 9 (con_sw 1000 8 (laws_toNetwork_ok a0 v16 h17))) (rfl : ([] : List Nat) = [])) (And.intro (laws_eqNetwork_ok v9 v16 v18 h19) (And.intro (rfl : (laws_FnExactReachedBy_x1 a0 a1 a2 a3 v7 v9 v11 v18) = (laws_FnExactReachedBy_x1 a0 a1 a2 a3 v7 v9 v11 v18)) (And.intro (And.intro (con_sw 1001 9 (con_sw 1000 8 (laws_toNetwork_ok a0 v16 h17))) (rfl : ([] : List Nat) = [])) (And.intro (laws_eqNetwork_ok v9 v16 v18 h19) (And.intro (rfl : (laws_FnExactReachedBy_x1 a0 a1 a2 a3 v7 v9 v11 v18) = (laws_FnExactReachedBy_x1 a0 a1 a2 a3 v7 v9 v11 v18)) (And.intro (And.intro (con_sw 1001 9 (con_sw 1000 8 (laws_toNetwork_ok a0 v16 h17))) (rfl : ([] : List Nat) = [])) (And.intro (laws_eqNetwork_ok v9 v16 v18 h19) (And.intro (rfl : (laws_FnExactReachedBy_x1 a0 a1 a2 a3 v7 v9 v11 v18) = (laws_FnExactReachedBy_x1 a0 a1 a2 a3 v7 v9 v11 v18)) (And.intro h20 (And.intro (And.intro (con_sw 920 5 (con_sw 900 4 (laws_markNetwork_ok v9 1 v21 h22))) (rfl : ([4, 5] : List Nat) = [4, 5])) (And.intro h23 (And.intro (laws_eqStringS_ok v11 v7 v24 h25) (And.intro h26 (And.intro (And.intro (con_sw 900 7 (laws_markStringS_ok v11 1 v27 h28)) (rfl : ([7] : List Nat) = [7])) (And.intro (laws_heldStringS_ok v27.2 1 v29 h30) (And.intro h31 True.intro)))))))))))))))))))))))))) (by kernel_rfl)
              · rcases cond_cases hM with ⟨h32, hM⟩ | ⟨h32, hM⟩
                · have hE : some false = some r := hM
                  have hE := Option.some.inj hE
                  subst hE
                  exact pr R 9999 [.new 0, .as 19 false, .call false [] (.o (.c (.v (.int .i64 v2)))) [] [], .as 24 false, .call false [] (.o (.agg [.sl 1, .sl 2, .v (.int .i64 v5.Change)])) [] [(1, .row 77 6 (v5.Legs.map Leg.enc)), (2, .row 3 1 (v5.Off.map encI))], .call false [] (.o (.c (.sl 3))) [] [(3, .row 9 1 (v7.map encS))], .call false [] (.o (.agg [.sl 4, .sl 5, .v (.int .i64 v9.Change)])) [] [(4, .row 77 6 (v9.Legs.map Leg.enc)), (5, .row 3 1 (v9.Off.map encI))], .new 6, .call false [] (.o (.c (.sl 7))) [] [(7, .row 9 1 (v11.map encS))], .call false [] (.o (.c (.v (.bool v13)))) [] [], .as 41 false, .xo [[], [], [.call false [] (.o (.agg [.sl 8, .sl 9, .v (.int .i64 v16.Change)])) [] [(8, .row 77 6 (v16.Legs.map Leg.enc)), (9, .row 3 1 (v16.Off.map encI))]], [.call false [] (.o (.c (.v (.bool v18)))) [] []], []] [.keep [1, 2, 3, 4, 10, 11, 12, 46] [0, 3, 6, 4, 5, 7]] (laws_FnExactReachedBy_x1 a0 a1 a2 a3 v7 v9 v11 v18), .as 46 false, .ad (.keep [1, 2, 3, 4, 10, 11, 12, 13, 46, 47, 48] [4, 5, 0, 3, 6, 7]), .call false [4, 5] (.o (.c (.v (.int .i64 v21.1)))) [(4, .row 77 6 (v21.2.Legs.map Leg.enc)), (5, .row 3 1 (v21.2.Off.map encI))] [], .as 52 false, .call false [] (.o (.c (.v (.bool v24)))) [] [], .as 57 false, .call false [7] (.o (.c (.v (.int .i64 v27.1)))) [(7, .row 9 1 (v27.2.map encS))] [], .call false [] (.o (.c (.v (.int .i64 v29)))) [] [], .as 65 false, .as 68 true] [] [] [] (And.intro h1 (And.intro (laws_szNetwork_ok a0 1048576 v2 h3) (And.intro h4 (And.intro (And.intro (con_sw 1001 2 (con_sw 1000 1 (laws_toNetwork_ok a0 v5 h6))) (rfl : ([] : List Nat) = [])) (And.intro (And.intro (con_sw 1000 3 (spec_ReachedBy_ok v5 a1 a2 a3 v7 h8)) (rfl : ([] : List Nat) = [])) (And.intro (And.intro (con_sw 1001 5 (con_sw 1000 4 (laws_toNetwork_ok a0 v9 h10))) (rfl : ([] : List Nat) = [])) (And.intro (And.intro (con_sw 1000 7 (impl_ReachedBy_ok v9 a1 a2 a3 v11 h12)) (rfl : ([] : List Nat) = [])) (And.intro (laws_eqStringS_ok v11 v7 v13 h14) (And.intro h15 (And.intro (And.intro (con_sw 1001 9 (con_sw 1000 8 (laws_toNetwork_ok a0 v16 h17))) (rfl : ([] : List Nat) = [])) (And.intro (laws_eqNetwork_ok v9 v16 v18 h19) (And.intro (rfl : (laws_FnExactReachedBy_x1 a0 a1 a2 a3 v7 v9 v11 v18) = (laws_FnExactReachedBy_x1 a0 a1 a2 a3 v7 v9 v11 v18)) (And.intro (And.intro (con_sw 1001 9 (con_sw 1000 8 (laws_toNetwork_ok a0 v16 h17))) (rfl : ([] : List Nat) = [])) (And.intro (laws_eqNetwork_ok v9 v16 v18 h19) (And.intro (rfl : (laws_FnExactReachedBy_x1 a0 a1 a2 a3 v7 v9 v11 v18) = (laws_FnExactReachedBy_x1 a0 a1 a2 a3 v7 v9 v11 v18)) (And.intro (And.intro (con_sw 1001 9 (con_sw 1000 8 (laws_toNetwork_ok a0 v16 h17))) (rfl : ([] : List Nat) = [])) (And.intro (laws_eqNetwork_ok v9 v16 v18 h19) (And.intro (rfl : (laws_FnExactReachedBy_x1 a0 a1 a2 a3 v7 v9 v11 v18) = (laws_FnExactReachedBy_x1 a0 a1 a2 a3 v7 v9 v11 v18)) (And.intro h20 (And.intro (And.intro (con_sw 920 5 (con_sw 900 4 (laws_markNetwork_ok v9 1 v21 h22))) (rfl : ([4, 5] : List Nat) = [4, 5])) (And.intro h23 (And.intro (laws_eqStringS_ok v11 v7 v24 h25) (And.intro h26 (And.intro (And.intro (con_sw 900 7 (laws_markStringS_ok v11 1 v27 h28)) (rfl : ([7] : List Nat) = [7])) (And.intro (laws_heldStringS_ok v27.2 1 v29 h30) (And.intro h31 (And.intro h32 True.intro))))))))))))))))))))))))))) (by kernel_rfl)
                · obtain ⟨v33, h34, hM⟩ := bind_some hM
                  obtain ⟨v35, h36, hM⟩ := bind_some hM
                  obtain ⟨v37, h38, hM⟩ := bind_some hM
                  rcases cond_cases hM with ⟨h39, hM⟩ | ⟨h39, hM⟩
                  · have hE : some false = some r := hM
                    have hE := Option.some.inj hE
                    subst hE
                    exact pr R 9999 [.new 0, .as 19 false, .call false [] (.o (.c (.v (.int .i64 v2)))) [] [], .as 24 false, .call false [] (.o (.agg [.sl 1, .sl 2, .v (.int .i64 v5.Change)])) [] [(1, .row 77 6 (v5.Legs.map Leg.enc)), (2, .row 3 1 (v5.Off.map encI))], .call false [] (.o (.c (.sl 3))) [] [(3, .row 9 1 (v7.map encS))], .call false [] (.o (.agg [.sl 4, .sl 5, .v (.int .i64 v9.Change)])) [] [(4, .row 77 6 (v9.Legs.map Leg.enc)), (5, .row 3 1 (v9.Off.map encI))], .new 6, .call false [] (.o (.c (.sl 7))) [] [(7, .row 9 1 (v11.map encS))], .call false [] (.o (.c (.v (.bool v13)))) [] [], .as 41 false, .xo [[], [], [.call false [] (.o (.agg [.sl 8, .sl 9, .v (.int .i64 v16.Change)])) [] [(8, .row 77 6 (v16.Legs.map Leg.enc)), (9, .row 3 1 (v16.Off.map encI))]], [.call false [] (.o (.c (.v (.bool v18)))) [] []], []] [.keep [1, 2, 3, 4, 10, 11, 12, 46] [0, 3, 6, 4, 5, 7]] (laws_FnExactReachedBy_x1 a0 a1 a2 a3 v7 v9 v11 v18), .as 46 false, .ad (.keep [1, 2, 3, 4, 10, 11, 12, 13, 46, 47, 48] [4, 5, 0, 3, 6, 7]), .call false [4, 5] (.o (.c (.v (.int .i64 v21.1)))) [(4, .row 77 6 (v21.2.Legs.map Leg.enc)), (5, .row 3 1 (v21.2.Off.map encI))] [], .as 52 false, .call false [] (.o (.c (.v (.bool v24)))) [] [], .as 57 false, .call false [7] (.o (.c (.v (.int .i64 v27.1)))) [(7, .row 9 1 (v27.2.map encS))] [], .call false [] (.o (.c (.v (.int .i64 v29)))) [] [], .as 65 false, .as 68 false, .call false [] (.o (.agg [.sl 10, .sl 11, .v (.int .i64 v33.Change)])) [] [(10, .row 77 6 (v33.Legs.map Leg.enc)), (11, .row 3 1 (v33.Off.map encI))], .call false [] (.o (.c (.sl 12))) [] [(12, .row 9 1 (v35.map encS))], .call false [] (.o (.c (.v (.bool v37)))) [] [], .as 78 true] [] [] [] (And.intro h1 (And.intro (laws_szNetwork_ok a0 1048576 v2 h3) (And.intro h4 (And.intro (And.intro (con_sw 1001 2 (con_sw 1000 1 (laws_toNetwork_ok a0 v5 h6))) (rfl : ([] : List Nat) = [])) (And.intro (And.intro (con_sw 1000 3 (spec_ReachedBy_ok v5 a1 a2 a3 v7 h8)) (rfl : ([] : List Nat) = [])) (And.intro (And.intro (con_sw 1001 5 (con_sw 1000 4 (laws_toNetwork_ok a0 v9 h10))) (rfl : ([] : List Nat) = [])) (And.intro (And.intro (con_sw 1000 7 (impl_ReachedBy_ok v9 a1 a2 a3 v11 h12)) (rfl : ([] : List Nat) = [])) (And.intro (laws_eqStringS_ok v11 v7 v13 h14) (And.intro h15 (And.intro (And.intro (con_sw 1001 9 (con_sw 1000 8 (laws_toNetwork_ok a0 v16 h17))) (rfl : ([] : List Nat) = [])) (And.intro (laws_eqNetwork_ok v9 v16 v18 h19) (And.intro (rfl : (laws_FnExactReachedBy_x1 a0 a1 a2 a3 v7 v9 v11 v18) = (laws_FnExactReachedBy_x1 a0 a1 a2 a3 v7 v9 v11 v18)) (And.intro (And.intro (con_sw 1001 9 (con_sw 1000 8 (laws_toNetwork_ok a0 v16 h17))) (rfl : ([] : List Nat) = [])) (And.intro (laws_eqNetwork_ok v9 v16 v18 h19) (And.intro (rfl : (laws_FnExactReachedBy_x1 a0 a1 a2 a3 v7 v9 v11 v18) = (laws_FnExactReachedBy_x1 a0 a1 a2 a3 v7 v9 v11 v18)) (And.intro (And.intro (con_sw 1001 9 (con_sw 1000 8 (laws_toNetwork_ok a0 v16 h17))) (rfl : ([] : List Nat) = [])) (And.intro (laws_eqNetwork_ok v9 v16 v18 h19) (And.intro (rfl : (laws_FnExactReachedBy_x1 a0 a1 a2 a3 v7 v9 v11 v18) = (laws_FnExactReachedBy_x1 a0 a1 a2 a3 v7 v9 v11 v18)) (And.intro h20 (And.intro (And.intro (con_sw 920 5 (con_sw 900 4 (laws_markNetwork_ok v9 1 v21 h22))) (rfl : ([4, 5] : List Nat) = [4, 5])) (And.intro h23 (And.intro (laws_eqStringS_ok v11 v7 v24 h25) (And.intro h26 (And.intro (And.intro (con_sw 900 7 (laws_markStringS_ok v11 1 v27 h28)) (rfl : ([7] : List Nat) = [7])) (And.intro (laws_heldStringS_ok v27.2 1 v29 h30) (And.intro h31 (And.intro h32 (And.intro (And.intro (con_sw 1001 11 (con_sw 1000 10 (laws_toNetwork_ok a0 v33 h34))) (rfl : ([] : List Nat) = [])) (And.intro (And.intro (con_sw 1000 12 (impl_ReachedBy_ok v33 a1 a2 a3 v35 h36)) (rfl : ([] : List Nat) = [])) (And.intro (laws_eqStringS_ok v35 v7 v37 h38) (And.intro h39 True.intro))))))))))))))))))))))))))))))) (by kernel_rfl)
                  · obtain ⟨v40, h41, hM⟩ := bind_some hM
                    rcases cond_cases hM with ⟨h42, hM⟩ | ⟨h42, hM⟩
                    · have hE : some false = some r := hM
                      have hE := Option.some.inj hE
                      subst hE
                      exact pr R 9999 [.new 0, .as 19 false, .call false [] (.o (.c (.v (.int .i64 v2)))) [] [], .as 24 false, .call false [] (.o (.agg [.sl 1, .sl 2, .v (.int .i64 v5.Change)])) [] [(1, .row 77 6 (v5.Legs.map Leg.enc)), (2, .row 3 1 (v5.Off.map encI))], .call false [] (.o (.c (.sl 3))) [] [(3, .row 9 1 (v7.map encS))], .call false [] (.o (.agg [.sl 4, .sl 5, .v (.int .i64 v9.Change)])) [] [(4, .row 77 6 (v9.Legs.map Leg.enc)), (5, .row 3 1 (v9.Off.map encI))], .new 6, .call false [] (.o (.c (.sl 7))) [] [(7, .row 9 1 (v11.map encS))], .call false [] (.o (.c (.v (.bool v13)))) [] [], .as 41 false, .xo [[], [], [.call false [] (.o (.agg [.sl 8, .sl 9, .v (.int .i64 v16.Change)])) [] [(8, .row 77 6 (v16.Legs.map Leg.enc)), (9, .row 3 1 (v16.Off.map encI))]], [.call false [] (.o (.c (.v (.bool v18)))) [] []], []] [.keep [1, 2, 3, 4, 10, 11, 12, 46] [0, 3, 6, 4, 5, 7]] (laws_FnExactReachedBy_x1 a0 a1 a2 a3 v7 v9 v11 v18), .as 46 false, .ad (.keep [1, 2, 3, 4, 10, 11, 12, 13, 46, 47, 48] [4, 5, 0, 3, 6, 7]), .call false [4, 5] (.o (.c (.v (.int .i64 v21.1)))) [(4, .row 77 6 (v21.2.Legs.map Leg.enc)), (5, .row 3 1 (v21.2.Off.map encI))] [], .as 52 false, .call false [] (.o (.c (.v (.bool v24)))) [] [], .as 57 false, .call false [7] (.o (.c (.v (.int .i64 v27.1)))) [(7, .row 9 1 (v27.2.map encS))] [], .call false [] (.o (.c (.v (.int .i64 v29)))) [] [], .as 65 false, .as 68 false, .call false [] (.o (.agg [.sl 10, .sl 11, .v (.int .i64 v33.Change)])) [] [(10, .row 77 6 (v33.Legs.map Leg.enc)), (11, .row 3 1 (v33.Off.map encI))], .call false [] (.o (.c (.sl 12))) [] [(12, .row 9 1 (v35.map encS))], .call false [] (.o (.c (.v (.bool v37)))) [] [], .as 78 false, .call false [] (.o (.c (.v (.int .i64 v40)))) [] [], .as 83 true] [] [] [] (And.intro h1 (And.intro (laws_szNetwork_ok a0 1048576 v2 h3) (And.intro h4 (And.intro (And.intro (con_sw 1001 2 (con_sw 1000 1 (laws_toNetwork_ok a0 v5 h6))) (rfl : ([] : List Nat) = [])) (And.intro (And.intro (con_sw 1000 3 (spec_ReachedBy_ok v5 a1 a2 a3 v7 h8)) (rfl : ([] : List Nat) = [])) (And.intro (And.intro (con_sw 1001 5 (con_sw 1000 4 (laws_toNetwork_ok a0 v9 h10))) (rfl : ([] : List Nat) = [])) (And.intro (And.intro (con_sw 1000 7 (impl_ReachedBy_ok v9 a1 a2 a3 v11 h12)) (rfl : ([] : List Nat) = [])) (And.intro (laws_eqStringS_ok v11 v7 v13 h14) (And.intro h15 (And.intro (And.intro (con_sw 1001 9 (con_sw 1000 8 (laws_toNetwork_ok a0 v16 h17))) (rfl : ([] : List Nat) = [])) (And.intro (laws_eqNetwork_ok v9 v16 v18 h19) (And.intro (rfl : (laws_FnExactReachedBy_x1 a0 a1 a2 a3 v7 v9 v11 v18) = (laws_FnExactReachedBy_x1 a0 a1 a2 a3 v7 v9 v11 v18)) (And.intro (And.intro (con_sw 1001 9 (con_sw 1000 8 (laws_toNetwork_ok a0 v16 h17))) (rfl : ([] : List Nat) = [])) (And.intro (laws_eqNetwork_ok v9 v16 v18 h19) (And.intro (rfl : (laws_FnExactReachedBy_x1 a0 a1 a2 a3 v7 v9 v11 v18) = (laws_FnExactReachedBy_x1 a0 a1 a2 a3 v7 v9 v11 v18)) (And.intro (And.intro (con_sw 1001 9 (con_sw 1000 8 (laws_toNetwork_ok a0 v16 h17))) (rfl : ([] : List Nat) = [])) (And.intro (laws_eqNetwork_ok v9 v16 v18 h19) (And.intro (rfl : (laws_FnExactReachedBy_x1 a0 a1 a2 a3 v7 v9 v11 v18) = (laws_FnExactReachedBy_x1 a0 a1 a2 a3 v7 v9 v11 v18)) (And.intro h20 (And.intro (And.intro (con_sw 920 5 (con_sw 900 4 (laws_markNetwork_ok v9 1 v21 h22))) (rfl : ([4, 5] : List Nat) = [4, 5])) (And.intro h23 (And.intro (laws_eqStringS_ok v11 v7 v24 h25) (And.intro h26 (And.intro (And.intro (con_sw 900 7 (laws_markStringS_ok v11 1 v27 h28)) (rfl : ([7] : List Nat) = [7])) (And.intro (laws_heldStringS_ok v27.2 1 v29 h30) (And.intro h31 (And.intro h32 (And.intro (And.intro (con_sw 1001 11 (con_sw 1000 10 (laws_toNetwork_ok a0 v33 h34))) (rfl : ([] : List Nat) = [])) (And.intro (And.intro (con_sw 1000 12 (impl_ReachedBy_ok v33 a1 a2 a3 v35 h36)) (rfl : ([] : List Nat) = [])) (And.intro (laws_eqStringS_ok v35 v7 v37 h38) (And.intro h39 (And.intro (laws_heldStringS_ok v27.2 1 v40 h41) (And.intro h42 True.intro))))))))))))))))))))))))))))))))) (by kernel_rfl)
                    · rcases cond_cases hM with ⟨h43, hM⟩ | ⟨h43, hM⟩
                      · have hE : some false = some r := hM
                        have hE := Option.some.inj hE
                        subst hE
                        exact pr R 9999 [.new 0, .as 19 false, .call false [] (.o (.c (.v (.int .i64 v2)))) [] [], .as 24 false, .call false [] (.o (.agg [.sl 1, .sl 2, .v (.int .i64 v5.Change)])) [] [(1, .row 77 6 (v5.Legs.map Leg.enc)), (2, .row 3 1 (v5.Off.map encI))], .call false [] (.o (.c (.sl 3))) [] [(3, .row 9 1 (v7.map encS))], .call false [] (.o (.agg [.sl 4, .sl 5, .v (.int .i64 v9.Change)])) [] [(4, .row 77 6 (v9.Legs.map Leg.enc)), (5, .row 3 1 (v9.Off.map encI))], .new 6, .call false [] (.o (.c (.sl 7))) [] [(7, .row 9 1 (v11.map encS))], .call false [] (.o (.c (.v (.bool v13)))) [] [], .as 41 false, .xo [[], [], [.call false [] (.o (.agg [.sl 8, .sl 9, .v (.int .i64 v16.Change)])) [] [(8, .row 77 6 (v16.Legs.map Leg.enc)), (9, .row 3 1 (v16.Off.map encI))]], [.call false [] (.o (.c (.v (.bool v18)))) [] []], []] [.keep [1, 2, 3, 4, 10, 11, 12, 46] [0, 3, 6, 4, 5, 7]] (laws_FnExactReachedBy_x1 a0 a1 a2 a3 v7 v9 v11 v18), .as 46 false, .ad (.keep [1, 2, 3, 4, 10, 11, 12, 13, 46, 47, 48] [4, 5, 0, 3, 6, 7]), .call false [4, 5] (.o (.c (.v (.int .i64 v21.1)))) [(4, .row 77 6 (v21.2.Legs.map Leg.enc)), (5, .row 3 1 (v21.2.Off.map encI))] [], .as 52 false, .call false [] (.o (.c (.v (.bool v24)))) [] [], .as 57 false, .call false [7] (.o (.c (.v (.int .i64 v27.1)))) [(7, .row 9 1 (v27.2.map encS))] [], .call false [] (.o (.c (.v (.int .i64 v29)))) [] [], .as 65 false, .as 68 false, .call false [] (.o (.agg [.sl 10, .sl 11, .v (.int .i64 v33.Change)])) [] [(10, .row 77 6 (v33.Legs.map Leg.enc)), (11, .row 3 1 (v33.Off.map encI))], .call false [] (.o (.c (.sl 12))) [] [(12, .row 9 1 (v35.map encS))], .call false [] (.o (.c (.v (.bool v37)))) [] [], .as 78 false, .call false [] (.o (.c (.v (.int .i64 v40)))) [] [], .as 83 false, .as 86 true] [] [] [] (And.intro h1 (And.intro (laws_szNetwork_ok a0 1048576 v2 h3) (And.intro h4 (And.intro (And.intro (con_sw 1001 2 (con_sw 1000 1 (laws_toNetwork_ok a0 v5 h6))) (rfl : ([] : List Nat) = [])) (And.intro (And.intro (con_sw 1000 3 (spec_ReachedBy_ok v5 a1 a2 a3 v7 h8)) (rfl : ([] : List Nat) = [])) (And.intro (And.intro (con_sw 1001 5 (con_sw 1000 4 (laws_toNetwork_ok a0 v9 h10))) (rfl : ([] : List Nat) = [])) (And.intro (And.intro (con_sw 1000 7 (impl_ReachedBy_ok v9 a1 a2 a3 v11 h12)) (rfl : ([] : List Nat) = [])) (And.intro (laws_eqStringS_ok v11 v7 v13 h14) (And.intro h15 (And.intro (And.intro (con_sw 1001 9 (con_sw 1000 8 (laws_toNetwork_ok a0 v16 h17))) (rfl : ([] : List Nat) = [])) (And.intro (laws_eqNetwork_ok v9 v16 v18 h19) (And.intro (rfl : (laws_FnExactReachedBy_x1 a0 a1 a2 a3 v7 v9 v11 v18) = (laws_FnExactReachedBy_x1 a0 a1 a2 a3 v7 v9 v11 v18)) (And.intro (And.intro (con_sw 1001 9 (con_sw 1000 8 (laws_toNetwork_ok a0 v16 h17))) (rfl : ([] : List Nat) = [])) (And.intro (laws_eqNetwork_ok v9 v16 v18 h19) (And.intro (rfl : (laws_FnExactReachedBy_x1 a0 a1 a2 a3 v7 v9 v11 v18) = (laws_FnExactReachedBy_x1 a0 a1 a2 a3 v7 v9 v11 v18)) (And.intro (And.intro (con_sw 1001 9 (con_sw 1000 8 (laws_toNetwork_ok a0 v16 h17))) (rfl : ([] : List Nat) = [])) (And.intro (laws_eqNetwork_ok v9 v16 v18 h19) (And.intro (rfl : (laws_FnExactReachedBy_x1 a0 a1 a2 a3 v7 v9 v11 v18) = (laws_FnExactReachedBy_x1 a0 a1 a2 a3 v7 v9 v11 v18)) (And.intro h20 (And.intro (And.intro (con_sw 920 5 (con_sw 900 4 (laws_markNetwork_ok v9 1 v21 h22))) (rfl : ([4, 5] : List Nat) = [4, 5])) (And.intro h23 (And.intro (laws_eqStringS_ok v11 v7 v24 h25) (And.intro h26 (And.intro (And.intro (con_sw 900 7 (laws_markStringS_ok v11 1 v27 h28)) (rfl : ([7] : List Nat) = [7])) (And.intro (laws_heldStringS_ok v27.2 1 v29 h30) (And.intro h31 (And.intro h32 (And.intro (And.intro (con_sw 1001 11 (con_sw 1000 10 (laws_toNetwork_ok a0 v33 h34))) (rfl : ([] : List Nat) = [])) (And.intro (And.intro (con_sw 1000 12 (impl_ReachedBy_ok v33 a1 a2 a3 v35 h36)) (rfl : ([] : List Nat) = [])) (And.intro (laws_eqStringS_ok v35 v7 v37 h38) (And.intro h39 (And.intro (laws_heldStringS_ok v27.2 1 v40 h41) (And.intro h42 (And.intro h43 True.intro)))))))))))))))))))))))))))))))))) (by kernel_rfl)
                      · have hE : some true = some r := hM
                        have hE := Option.some.inj hE
                        subst hE
                        exact pr R 9999 [.new 0, .as 19 false, .call false [] (.o (.c (.v (.int .i64 v2)))) [] [], .as 24 false, .call false [] (.o (.agg [.sl 1, .sl 2, .v (.int .i64 v5.Change)])) [] [(1, .row 77 6 (v5.Legs.map Leg.enc)), (2, .row 3 1 (v5.Off.map encI))], .call false [] (.o (.c (.sl 3))) [] [(3, .row 9 1 (v7.map encS))], .call false [] (.o (.agg [.sl 4, .sl 5, .v (.int .i64 v9.Change)])) [] [(4, .row 77 6 (v9.Legs.map Leg.enc)), (5, .row 3 1 (v9.Off.map encI))], .new 6, .call false [] (.o (.c (.sl 7))) [] [(7, .row 9 1 (v11.map encS))], .call false [] (.o (.c (.v (.bool v13)))) [] [], .as 41 false, .xo [[], [], [.call false [] (.o (.agg [.sl 8, .sl 9, .v (.int .i64 v16.Change)])) [] [(8, .row 77 6 (v16.Legs.map Leg.enc)), (9, .row 3 1 (v16.Off.map encI))]], [.call false [] (.o (.c (.v (.bool v18)))) [] []], []] [.keep [1, 2, 3, 4, 10, 11, 12, 46] [0, 3, 6, 4, 5, 7]] (laws_FnExactReachedBy_x1 a0 a1 a2 a3 v7 v9 v11 v18), .as 46 false, .ad (.keep [1, 2, 3, 4, 10, 11, 12, 13, 46, 47, 48] [4, 5, 0, 3, 6, 7]), .call false [4, 5] (.o (.c (.v (.int .i64 v21.1)))) [(4, .row 77 6 (v21.2.Legs.map Leg.enc)), (5, .row 3 1 (v21.2.Off.map encI))] [], .as 52 false, .call false [] (.o (.c (.v (.bool v24)))) [] [], .as 57 false, .call false [7] (.o (.c (.v (.int .i64 v27.1)))) [(7, .row 9 1 (v27.2.map encS))] [], .call false [] (.o (.c (.v (.int .i64 v29)))) [] [], .as 65 false, .as 68 false, .call false [] (.o (.agg [.sl 10, .sl 11, .v (.int .i64 v33.Change)])) [] [(10, .row 77 6 (v33.Legs.map Leg.enc)), (11, .row 3 1 (v33.Off.map encI))], .call false [] (.o (.c (.sl 12))) [] [(12, .row 9 1 (v35.map encS))], .call false [] (.o (.c (.v (.bool v37)))) [] [], .as 78 false, .call false [] (.o (.c (.v (.int .i64 v40)))) [] [], .as 83 false, .as 86 false] [] [] [] (And.intro h1 (And.intro (laws_szNetwork_ok a0 1048576 v2 h3) (And.intro h4 (And.intro (And.intro (con_sw 1001 2 (con_sw 1000 1 (laws_toNetwork_ok a0 v5 h6))) (rfl : ([] : List Nat) = [])) (And.intro (And.intro (con_sw 1000 3 (spec_ReachedBy_ok v5 a1 a2 a3 v7 h8)) (rfl : ([] : List Nat) = [])) (And.intro (And.intro (con_sw 1001 5 (con_sw 1000 4 (laws_toNetwork_ok a0 v9 h10))) (rfl : ([] : List Nat) = [])) (And.intro (And.intro (con_sw 1000 7 (impl_ReachedBy_ok v9 a1 a2 a3 v11 h12)) (rfl : ([] : List Nat) = [])) (And.intro (laws_eqStringS_ok v11 v7 v13 h14) (And.intro h15 (And.intro (And.intro (con_sw 1001 9 (con_sw 1000 8 (laws_toNetwork_ok a0 v16 h17))) (rfl : ([] : List Nat) = [])) (And.intro (laws_eqNetwork_ok v9 v16 v18 h19) (And.intro (rfl : (laws_FnExactReachedBy_x1 a0 a1 a2 a3 v7 v9 v11 v18) = (laws_FnExactReachedBy_x1 a0 a1 a2 a3 v7 v9 v11 v18)) (And.intro (And.intro (con_sw 1001 9 (con_sw 1000 8 (laws_toNetwork_ok a0 v16 h17))) (rfl : ([] : List Nat) = [])) (And.intro (laws_eqNetwork_ok v9 v16 v18 h19) (And.intro (rfl : (laws_FnExactReachedBy_x1 a0 a1 a2 a3 v7 v9 v11 v18) = (laws_FnExactReachedBy_x1 a0 a1 a2 a3 v7 v9 v11 v18)) (And.intro (And.intro (con_sw 1001 9 (con_sw 1000 8 (laws_toNetwork_ok a0 v16 h17))) (rfl : ([] : List Nat) = [])) (And.intro (laws_eqNetwork_ok v9 v16 v18 h19) (And.intro (rfl : (laws_FnExactReachedBy_x1 a0 a1 a2 a3 v7 v9 v11 v18) = (laws_FnExactReachedBy_x1 a0 a1 a2 a3 v7 v9 v11 v18)) (And.intro h20 (And.intro (And.intro (con_sw 920 5 (con_sw 900 4 (laws_markNetwork_ok v9 1 v21 h22))) (rfl : ([4, 5] : List Nat) = [4, 5])) (And.intro h23 (And.intro (laws_eqStringS_ok v11 v7 v24 h25) (And.intro h26 (And.intro (And.intro (con_sw 900 7 (laws_markStringS_ok v11 1 v27 h28)) (rfl : ([7] : List Nat) = [7])) (And.intro (laws_heldStringS_ok v27.2 1 v29 h30) (And.intro h31 (And.intro h32 (And.intro (And.intro (con_sw 1001 11 (con_sw 1000 10 (laws_toNetwork_ok a0 v33 h34))) (rfl : ([] : List Nat) = [])) (And.intro (And.intro (con_sw 1000 12 (impl_ReachedBy_ok v33 a1 a2 a3 v35 h36)) (rfl : ([] : List Nat) = [])) (And.intro (laws_eqStringS_ok v35 v7 v37 h38) (And.intro h39 (And.intro (laws_heldStringS_ok v27.2 1 v40 h41) (And.intro h42 (And.intro h43 True.intro)))))))))))))))))))))))))))))))))) (by kernel_rfl)

-- loop.example/g03014/spec.ChoicesOf
def spec_ChoicesOf_L1_b (a0 : Network) (a1 : ByteArray) (a3 : Int) (v1 : (List ByteArray)) (v3 : Int) (s5 : (List Choice)) (s6 : Int) : Option (Ctl ((List Choice) × Int) (List Choice) (List Choice)) :=
  bif (decide (s6 ≤ (v1.length : Int))) then
  bif (decide (v3 ≥ 0)) then
  (spec_BestArrivals a0 a1 a3 s6).bind fun v10 =>
  bif (decide ((v10.length : Int) > 0)) then
  (gi v10 v3).bind fun v13 =>
  bif (decide (v13 ≥ 0)) then
  bif ((s5.length : Int) == 0) then
  (gi v10 v3).bind fun v17 =>
  (ap 16 s5 ([(Choice.mk s6 v17)] : List Choice)).bind fun v19 =>
  some (.next (v19, w64 (s6 + 1)))
  else
  (gi v10 v3).bind fun v21 =>
  (gi s5 (w64 ((s5.length : Int) - 1))).bind fun v23 =>
  bif (decide (v21 < v23.Ends)) then
  (gi v10 v3).bind fun v26 =>
  (ap 16 s5 ([(Choice.mk s6 v26)] : List Choice)).bind fun v28 =>
  some (.next (v28, w64 (s6 + 1)))
  else
  some (.next (s5, w64 (s6 + 1)))
  else
  some (.next (s5, w64 (s6 + 1)))
  else
  some (.next (s5, w64 (s6 + 1)))
  else
  some (.brk s5)
  else
  some (.brk s5)
def spec_ChoicesOf_L1 (a0 : Network) (a1 : ByteArray) (a3 : Int) (v1 : (List ByteArray)) (v3 : Int) (s : (List Choice) × Int) : Option (Ctl ((List Choice) × Int) (List Choice) (List Choice)) := spec_ChoicesOf_L1_b a0 a1 a3 v1 v3 s.1 s.2
def spec_ChoicesOf_L1_s (a0 : Network) (a1 : ByteArray) (a3 : Int) (v1 : (List ByteArray)) (v3 : Int) (s5 : (List Choice)) (s6 : Int) : St := ⟨[(1, .o (.c (.v (.string a1)))), (3, .o (.c (.v (.int .i64 a3)))), (4, .o (.c (.ptr 0 0))), (9, .o (.c (.sl 1))), (10, .o (.c (.v (.int .i64 v3)))), (11, .o (.c (.sl 2))), (12, .o (.c (.v (.int .i64 s6))))], [(0, .box 32 [.rs 6 (a0.Legs.map Leg.enc), .rs 1 (a0.Off.map encI), .v (.int .i64 a0.Change)]), (1, .row 9 1 (v1.map encS)), (2, .row 114 2 (s5.map Choice.enc))]⟩
def spec_ChoicesOf_L1_S (a0 : Network) (a1 : ByteArray) (a3 : Int) (v1 : (List ByteArray)) (v3 : Int) (s : (List Choice) × Int) : St := spec_ChoicesOf_L1_s a0 a1 a3 v1 v3 s.1 s.2
def spec_ChoicesOf_L1_a (s7 : (List Choice)) : Option (List Choice) :=
  some s7
def spec_ChoicesOf_L1_k (x : ((List Choice)) ⊕ ((List Choice))) : Option (List Choice) := match x with
  | .inl t => spec_ChoicesOf_L1_a t
  | .inr y => some y
def spec_ChoicesOf (a0 : Network) (a1 : ByteArray) (a2 : ByteArray) (a3 : Int) : Option (List Choice) :=
  (spec_PlacesOf a0).bind fun v1 =>
  (spec_l4Index v1 a2).bind fun v3 =>
  (loopM (spec_ChoicesOf_L1 a0 a1 a3 v1 v3) big (([] : List Choice), 0)).bind (spec_ChoicesOf_L1_k)
theorem spec_ChoicesOf_ok (a0 : Network) (a1 : ByteArray) (a2 : ByteArray) (a3 : Int) (r : (List Choice)) (hM : spec_ChoicesOf a0 a1 a2 a3 = some r) :
    Con Try.prog 51 [.agg [.rs 6 (a0.Legs.map Leg.enc), .rs 1 (a0.Off.map encI), .v (.int .i64 a0.Change)], .c (.v (.string a1)), .c (.v (.string a2)), .c (.v (.int .i64 a3))] [] (.o (.c (.sl 1000))) [] [(1000, .row 114 2 (r.map Choice.enc))] := by
  unfold spec_ChoicesOf at hM
  refine cn (N := 75) (pids := []) Try_mixed Try.func51 (by kernel_rfl) (by kernel_rfl) (by kernel_rfl) rfl fun ρ g w R => ?_
  obtain ⟨v1, h2, hM⟩ := bind_some hM
  obtain ⟨v3, h4, hM⟩ := bind_some hM
  have K1 : ∀ (s7 : (List Choice)), spec_ChoicesOf_L1_a s7 = some r → Gr R [.code (cAt Try.f51 [1, 1, 1, 1, 1])] (⟨[(11, .o (.c (.sl 2)))], [(2, .row 114 2 (s7.map Choice.enc))]⟩) := by
    intro s7 hM
    unfold spec_ChoicesOf_L1_a at hM
    have hE : some s7 = some r := hM
    have hE := Option.some.inj hE
    subst hE
    exact pr R 9999 [] [.sw 2 1000] [] [1000] True.intro (by kernel_rfl)
  refine pc R 9999 [.new 0, .call false [] (.o (.c (.sl 1))) [] [(1, .row 9 1 (v1.map encS))], .call false [] (.o (.c (.v (.int .i64 v3)))) [] [], .new 2] [.keep [1, 3, 4, 9, 10, 11, 12] [0, 1, 2]] (k' := [.code (.loop (cAt Try.f51 [1, 1, 1, 1, 0, 1, 0, 0])), .blk 0, .code (cAt Try.f51 [1, 1, 1, 1, 1])]) (S' := spec_ChoicesOf_L1_S a0 a1 a3 v1 v3 (([] : List Choice), 0)) (And.intro (And.intro (con_sw 1000 1 (spec_PlacesOf_ok a0 v1 h2)) (rfl : ([] : List Nat) = [])) (And.intro (spec_l4Index_ok v1 a2 v3 h4) True.intro)) (by kernel_rfl) ?_
  refine lq (spec_ChoicesOf_L1_S a0 a1 a3 v1 v3) (body := spec_ChoicesOf_L1 a0 a1 a3 v1 v3) (k := spec_ChoicesOf_L1_k) hM fun m1 s c1 hM hK1 => ?_
  obtain ⟨s5, s6⟩ := s
  have hM : spec_ChoicesOf_L1_b a0 a1 a3 v1 v3 s5 s6 = some c1 := hM
  unfold spec_ChoicesOf_L1_b at hM
  rcases cond_cases hM with ⟨h8, hM⟩ | ⟨h8, hM⟩
  · rcases cond_cases hM with ⟨h9, hM⟩ | ⟨h9, hM⟩
    · obtain ⟨v10, h11, hM⟩ := bind_some hM
      rcases cond_cases hM with ⟨h12, hM⟩ | ⟨h12, hM⟩
      · obtain ⟨v13, h14, hM⟩ := bind_some hM
        rcases cond_cases hM with ⟨h15, hM⟩ | ⟨h15, hM⟩
        · rcases cond_cases hM with ⟨h16, hM⟩ | ⟨h16, hM⟩
          · obtain ⟨v17, h18, hM⟩ := bind_some hM
            obtain ⟨v19, h20, hM⟩ := bind_some hM
            have hE : some (Ctl.next (v19, w64 (s6 + 1))) = some c1 := hM
            have hE := Option.some.inj hE
            subst hE
            exact pc R 9999 [.ln (v1.length), .as 25 true, .as 28 true, .call false [] (.o (.c (.sl 3))) [] [(3, .row 3 1 (v10.map encI))], .ln (s5.length), .ln (v10.length), .as 41 true, .ix (encI v13), .as 48 true, .as 51 true, .ix (encI v17), .new 4, .new 5, .nm (v19.map Choice.enc)] [.sw 5 2, .keep [1, 3, 4, 9, 10, 11, 12] [0, 1, 2]] (And.intro (lenm encS v1) (And.intro h8 (And.intro h9 (And.intro (And.intro (con_sw 1000 3 (spec_BestArrivals_ok a0 a1 a3 s6 v10 h11)) (rfl : ([] : List Nat) = [])) (And.intro (lenm Choice.enc s5) (And.intro (lenm encI v10) (And.intro h12 (And.intro (gi_lt encI h14) (And.intro ((gi_map encI h14).2) (And.intro h15 (And.intro h16 (And.intro (gi_lt encI h18) (And.intro ((gi_map encI h18).2) (And.intro (ap_ok Choice.enc h20) True.intro)))))))))))))) (by kernel_rfl) (li (Sf := spec_ChoicesOf_L1_S a0 a1 a3 v1 v3) (M := Mk (spec_ChoicesOf_L1 a0 a1 a3 v1 v3) (spec_ChoicesOf_L1_k) r) (k := [.blk 0, .code (cAt Try.f51 [1, 1, 1, 1, 1])]) (Nat.lt_succ_self m1) hK1)
          · obtain ⟨v21, h22, hM⟩ := bind_some hM
            obtain ⟨v23, h24, hM⟩ := bind_some hM
            rcases cond_cases hM with ⟨h25, hM⟩ | ⟨h25, hM⟩
            · obtain ⟨v26, h27, hM⟩ := bind_some hM
              obtain ⟨v28, h29, hM⟩ := bind_some hM
              have hE : some (Ctl.next (v28, w64 (s6 + 1))) = some c1 := hM
              have hE := Option.some.inj hE
              subst hE
              exact pc R 9999 [.ln (v1.length), .as 25 true, .as 28 true, .call false [] (.o (.c (.sl 3))) [] [(3, .row 3 1 (v10.map encI))], .ln (s5.length), .ln (v10.length), .as 41 true, .ix (encI v13), .as 48 true, .as 51 false, .ix (encI v21), .ix (Choice.enc v23), .as 64 true, .ix (encI v26), .new 6, .new 7, .nm (v28.map Choice.enc)] [.sw 7 2, .keep [1, 3, 4, 9, 10, 11, 12] [0, 1, 2]] (And.intro (lenm encS v1) (And.intro h8 (And.intro h9 (And.intro (And.intro (con_sw 1000 3 (spec_BestArrivals_ok a0 a1 a3 s6 v10 h11)) (rfl : ([] : List Nat) = [])) (And.intro (lenm Choice.enc s5) (And.intro (lenm encI v10) (And.intro h12 (And.intro (gi_lt encI h14) (And.intro ((gi_map encI h14).2) (And.intro h15 (And.intro h16 (And.intro (gi_lt encI h22) (And.intro ((gi_map encI h22).2) (And.intro (gi_lt Choice.enc h24) (And.intro ((gi_map Choice.enc h24).2) (And.intro h25 (And.intro (gi_lt encI h27) (And.intro ((gi_map encI h27).2) (And.intro (ap_ok Choice.enc h29) True.intro))))))))))))))))))) (by kernel_rfl) (li (Sf := spec_ChoicesOf_L1_S a0 a1 a3 v1 v3) (M := Mk (spec_ChoicesOf_L1 a0 a1 a3 v1 v3) (spec_ChoicesOf_L1_k) r) (k := [.blk 0, .code (cAt Try.f51 [1, 1, 1, 1, 1])]) (Nat.lt_succ_self m1) hK1)
            · have hE : some (Ctl.next (s5, w64 (s6 + 1))) = some c1 := hM
              have hE := Option.some.inj hE
              subst hE
              exact pc R 9999 [.ln (v1.length), .as 25 true, .as 28 true, .call false [] (.o (.c (.sl 3))) [] [(3, .row 3 1 (v10.map encI))], .ln (s5.length), .ln (v10.length), .as 41 true, .ix (encI v13), .as 48 true, .as 51 false, .ix (encI v21), .ix (Choice.enc v23), .as 64 false] [.keep [1, 3, 4, 9, 10, 11, 12] [0, 1, 2]] (And.intro (lenm encS v1) (And.intro h8 (And.intro h9 (And.intro (And.intro (con_sw 1000 3 (spec_BestArrivals_ok a0 a1 a3 s6 v10 h11)) (rfl : ([] : List Nat) = [])) (And.intro (lenm Choice.enc s5) (And.intro (lenm encI v10) (And.intro h12 (And.intro (gi_lt encI h14) (And.intro ((gi_map encI h14).2) (And.intro h15 (And.intro h16 (And.intro (gi_lt encI h22) (And.intro ((gi_map encI h22).2) (And.intro (gi_lt Choice.enc h24) (And.intro ((gi_map Choice.enc h24).2) (And.intro h25 True.intro)))))))))))))))) (by kernel_rfl) (li (Sf := spec_ChoicesOf_L1_S a0 a1 a3 v1 v3) (M := Mk (spec_ChoicesOf_L1 a0 a1 a3 v1 v3) (spec_ChoicesOf_L1_k) r) (k := [.blk 0, .code (cAt Try.f51 [1, 1, 1, 1, 1])]) (Nat.lt_succ_self m1) hK1)
        · have hE : some (Ctl.next (s5, w64 (s6 + 1))) = some c1 := hM
          have hE := Option.some.inj hE
          subst hE
          exact pc R 9999 [.ln (v1.length), .as 25 true, .as 28 true, .call false [] (.o (.c (.sl 3))) [] [(3, .row 3 1 (v10.map encI))], .ln (s5.length), .ln (v10.length), .as 41 true, .ix (encI v13), .as 48 false] [.keep [1, 3, 4, 9, 10, 11, 12] [0, 1, 2]] (And.intro (lenm encS v1) (And.intro h8 (And.intro h9 (And.intro (And.intro (con_sw 1000 3 (spec_BestArrivals_ok a0 a1 a3 s6 v10 h11)) (rfl : ([] : List Nat) = [])) (And.intro (lenm Choice.enc s5) (And.intro (lenm encI v10) (And.intro h12 (And.intro (gi_lt encI h14) (And.intro ((gi_map encI h14).2) (And.intro h15 True.intro)))))))))) (by kernel_rfl) (li (Sf := spec_ChoicesOf_L1_S a0 a1 a3 v1 v3) (M := Mk (spec_ChoicesOf_L1 a0 a1 a3 v1 v3) (spec_ChoicesOf_L1_k) r) (k := [.blk 0, .code (cAt Try.f51 [1, 1, 1, 1, 1])]) (Nat.lt_succ_self m1) hK1)
      · have hE : some (Ctl.next (s5, w64 (s6 + 1))) = some c1 := hM
        have hE := Option.some.inj hE
        subst hE
        exact pc R 9999 [.ln (v1.length), .as 25 true, .as 28 true, .call false [] (.o (.c (.sl 3))) [] [(3, .row 3 1 (v10.map encI))], .ln (s5.length), .ln (v10.length), .as 41 false] [.keep [1, 3, 4, 9, 10, 11, 12] [0, 1, 2]] (And.intro (lenm encS v1) (And.intro h8 (And.intro h9 (And.intro (And.intro (con_sw 1000 3 (spec_BestArrivals_ok a0 a1 a3 s6 v10 h11)) (rfl : ([] : List Nat) = [])) (And.intro (lenm Choice.enc s5) (And.intro (lenm encI v10) (And.intro h12 True.intro))))))) (by kernel_rfl) (li (Sf := spec_ChoicesOf_L1_S a0 a1 a3 v1 v3) (M := Mk (spec_ChoicesOf_L1 a0 a1 a3 v1 v3) (spec_ChoicesOf_L1_k) r) (k := [.blk 0, .code (cAt Try.f51 [1, 1, 1, 1, 1])]) (Nat.lt_succ_self m1) hK1)
    · have hE : some (Ctl.brk s5) = some c1 := hM
      have hE := Option.some.inj hE
      subst hE
      exact pc R 5 [.ln (v1.length), .as 25 true, .as 28 false] [.keep [11] [2]] (And.intro (lenm encS v1) (And.intro h8 (And.intro h9 True.intro))) (by kernel_rfl) (K1 s5 hK1)
  · have hE : some (Ctl.brk s5) = some c1 := hM
    have hE := Option.some.inj hE
    subst hE
    exact pc R 5 [.ln (v1.length), .as 25 false] [.keep [11] [2]] (And.intro (lenm encS v1) (And.intro h8 True.intro)) (by kernel_rfl) (K1 s5 hK1)

-- loop.example/g03014/impl.ChoicesOf
def impl_ChoicesOf_L1_b (a0 : Network) (a1 : ByteArray) (a3 : Int) (v1 : (List ByteArray)) (v3 : Int) (s5 : (List Choice)) (s6 : Int) : Option (Ctl ((List Choice) × Int) (List Choice) (List Choice)) :=
  bif (decide (s6 ≤ (v1.length : Int))) then
  bif (decide (v3 ≥ 0)) then
  (impl_BestArrivals a0 a1 a3 s6).bind fun v10 =>
  bif ((v10.length : Int) == 0) then
  some (.next (s5, w64 (s6 + 1)))
  else
  (gi v10 v3).bind fun v13 =>
  bif (v13 == (-1)) then
  some (.next (s5, w64 (s6 + 1)))
  else
  bif ((s5.length : Int) == 0) then
  (gi v10 v3).bind fun v17 =>
  (ap 16 s5 ([(Choice.mk s6 v17)] : List Choice)).bind fun v19 =>
  some (.next (v19, w64 (s6 + 1)))
  else
  (gi v10 v3).bind fun v21 =>
  (gi s5 (w64 ((s5.length : Int) - 1))).bind fun v23 =>
  bif (decide (v21 < v23.Ends)) then
  (gi v10 v3).bind fun v26 =>
  (ap 16 s5 ([(Choice.mk s6 v26)] : List Choice)).bind fun v28 =>
  some (.next (v28, w64 (s6 + 1)))
  else
  some (.next (s5, w64 (s6 + 1)))
  else
  some (.brk s5)
  else
  some (.brk s5)
def impl_ChoicesOf_L1 (a0 : Network) (a1 : ByteArray) (a3 : Int) (v1 : (List ByteArray)) (v3 : Int) (s : (List Choice) × Int) : Option (Ctl ((List Choice) × Int) (List Choice) (List Choice)) := impl_ChoicesOf_L1_b a0 a1 a3 v1 v3 s.1 s.2
def impl_ChoicesOf_L1_s (a0 : Network) (a1 : ByteArray) (a3 : Int) (v1 : (List ByteArray)) (v3 : Int) (s5 : (List Choice)) (s6 : Int) : St := ⟨[(1, .o (.c (.v (.string a1)))), (3, .o (.c (.v (.int .i64 a3)))), (4, .o (.c (.ptr 0 0))), (9, .o (.c (.sl 1))), (10, .o (.c (.v (.int .i64 v3)))), (11, .o (.c (.sl 2))), (12, .o (.c (.v (.int .i64 s6))))], [(0, .box 32 [.rs 6 (a0.Legs.map Leg.enc), .rs 1 (a0.Off.map encI), .v (.int .i64 a0.Change)]), (1, .row 9 1 (v1.map encS)), (2, .row 114 2 (s5.map Choice.enc))]⟩
def impl_ChoicesOf_L1_S (a0 : Network) (a1 : ByteArray) (a3 : Int) (v1 : (List ByteArray)) (v3 : Int) (s : (List Choice) × Int) : St := impl_ChoicesOf_L1_s a0 a1 a3 v1 v3 s.1 s.2
def impl_ChoicesOf_L1_a (s7 : (List Choice)) : Option (List Choice) :=
  some s7
def impl_ChoicesOf_L1_k (x : ((List Choice)) ⊕ ((List Choice))) : Option (List Choice) := match x with
  | .inl t => impl_ChoicesOf_L1_a t
  | .inr y => some y
def impl_ChoicesOf (a0 : Network) (a1 : ByteArray) (a2 : ByteArray) (a3 : Int) : Option (List Choice) :=
  (impl_PlacesOf a0).bind fun v1 =>
  (impl_placeAt v1 a2).bind fun v3 =>
  (loopM (impl_ChoicesOf_L1 a0 a1 a3 v1 v3) big (([] : List Choice), 0)).bind (impl_ChoicesOf_L1_k)
theorem impl_ChoicesOf_ok (a0 : Network) (a1 : ByteArray) (a2 : ByteArray) (a3 : Int) (r : (List Choice)) (hM : impl_ChoicesOf a0 a1 a2 a3 = some r) :
    Con Try.prog 52 [.agg [.rs 6 (a0.Legs.map Leg.enc), .rs 1 (a0.Off.map encI), .v (.int .i64 a0.Change)], .c (.v (.string a1)), .c (.v (.string a2)), .c (.v (.int .i64 a3))] [] (.o (.c (.sl 1000))) [] [(1000, .row 114 2 (r.map Choice.enc))] := by
  unfold impl_ChoicesOf at hM
  refine cn (N := 72) (pids := []) Try_mixed Try.func52 (by kernel_rfl) (by kernel_rfl) (by kernel_rfl) rfl fun ρ g w R => ?_
  obtain ⟨v1, h2, hM⟩ := bind_some hM
  obtain ⟨v3, h4, hM⟩ := bind_some hM
  have K1 : ∀ (s7 : (List Choice)), impl_ChoicesOf_L1_a s7 = some r → Gr R [.code (cAt Try.f52 [1, 1, 1, 1, 1])] (⟨[(11, .o (.c (.sl 2)))], [(2, .row 114 2 (s7.map Choice.enc))]⟩) := by
    intro s7 hM
    unfold impl_ChoicesOf_L1_a at hM
    have hE : some s7 = some r := hM
    have hE := Option.some.inj hE
    subst hE
    exact pr R 9999 [] [.sw 2 1000] [] [1000] True.intro (by kernel_rfl)
  refine pc R 9999 [.new 0, .call false [] (.o (.c (.sl 1))) [] [(1, .row 9 1 (v1.map encS))], .call false [] (.o (.c (.v (.int .i64 v3)))) [] [], .new 2] [.keep [1, 3, 4, 9, 10, 11, 12] [0, 1, 2]] (k' := [.code (.loop (cAt Try.f52 [1, 1, 1, 1, 0, 1, 0, 0])), .blk 0, .code (cAt Try.f52 [1, 1, 1, 1, 1])]) (S' := impl_ChoicesOf_L1_S a0 a1 a3 v1 v3 (([] : List Choice), 0)) (And.intro (And.intro (con_sw 1000 1 (impl_PlacesOf_ok a0 v1 h2)) (rfl : ([] : List Nat) = [])) (And.intro (impl_placeAt_ok v1 a2 v3 h4) True.intro)) (by kernel_rfl) ?_
  refine lq (impl_ChoicesOf_L1_S a0 a1 a3 v1 v3) (body := impl_ChoicesOf_L1 a0 a1 a3 v1 v3) (k := impl_ChoicesOf_L1_k) hM fun m1 s c1 hM hK1 => ?_
  obtain ⟨s5, s6⟩ := s
  have hM : impl_ChoicesOf_L1_b a0 a1 a3 v1 v3 s5 s6 = some c1 := hM
  unfold impl_ChoicesOf_L1_b at hM
  rcases cond_cases hM with ⟨h8, hM⟩ | ⟨h8, hM⟩
  · rcases cond_cases hM with ⟨h9, hM⟩ | ⟨h9, hM⟩
    · obtain ⟨v10, h11, hM⟩ := bind_some hM
      rcases cond_cases hM with ⟨h12, hM⟩ | ⟨h12, hM⟩
      · have hE : some (Ctl.next (s5, w64 (s6 + 1))) = some c1 := hM
        have hE := Option.some.inj hE
        subst hE
        exact pc R 9999 [.ln (v1.length), .as 24 true, .as 27 true, .call false [] (.o (.c (.sl 3))) [] [(3, .row 3 1 (v10.map encI))], .ln (v10.length), .as 38 true] [.keep [1, 3, 4, 9, 10, 11, 12] [0, 1, 2]] (And.intro (lenm encS v1) (And.intro h8 (And.intro h9 (And.intro (And.intro (con_sw 1000 3 (impl_BestArrivals_ok a0 a1 a3 s6 v10 h11)) (rfl : ([] : List Nat) = [])) (And.intro (lenm encI v10) (And.intro h12 True.intro)))))) (by kernel_rfl) (li (Sf := impl_ChoicesOf_L1_S a0 a1 a3 v1 v3) (M := Mk (impl_ChoicesOf_L1 a0 a1 a3 v1 v3) (impl_ChoicesOf_L1_k) r) (k := [.blk 0, .code (cAt Try.f52 [1, 1, 1, 1, 1])]) (Nat.lt_succ_self m1) hK1)
      · obtain ⟨v13, h14, hM⟩ := bind_some hM
        rcases cond_cases hM with ⟨h15, hM⟩ | ⟨h15, hM⟩
        · have hE : some (Ctl.next (s5, w64 (s6 + 1))) = some c1 := hM
          have hE := Option.some.inj hE
          subst hE
          exact pc R 9999 [.ln (v1.length), .as 24 true, .as 27 true, .call false [] (.o (.c (.sl 3))) [] [(3, .row 3 1 (v10.map encI))], .ln (v10.length), .as 38 false, .ix (encI v13), .as 44 true] [.keep [1, 3, 4, 9, 10, 11, 12] [0, 1, 2]] (And.intro (lenm encS v1) (And.intro h8 (And.intro h9 (And.intro (And.intro (con_sw 1000 3 (impl_BestArrivals_ok a0 a1 a3 s6 v10 h11)) (rfl : ([] : List Nat) = [])) (And.intro (lenm encI v10) (And.intro h12 (And.intro (gi_lt encI h14) (And.intro ((gi_map encI h14).2) (And.intro h15 True.intro))))))))) (by kernel_rfl) (li (Sf := impl_ChoicesOf_L1_S a0 a1 a3 v1 v3) (M := Mk (impl_ChoicesOf_L1 a0 a1 a3 v1 v3) (impl_ChoicesOf_L1_k) r) (k := [.blk 0, .code (cAt Try.f52 [1, 1, 1, 1, 1])]) (Nat.lt_succ_self m1) hK1)
        · rcases cond_cases hM with ⟨h16, hM⟩ | ⟨h16, hM⟩
          · obtain ⟨v17, h18, hM⟩ := bind_some hM
            obtain ⟨v19, h20, hM⟩ := bind_some hM
            have hE : some (Ctl.next (v19, w64 (s6 + 1))) = some c1 := hM
            have hE := Option.some.inj hE
            subst hE
            exact pc R 9999 [.ln (v1.length), .as 24 true, .as 27 true, .call false [] (.o (.c (.sl 3))) [] [(3, .row 3 1 (v10.map encI))], .ln (v10.length), .as 38 false, .ix (encI v13), .as 44 false, .ln (s5.length), .as 48 true, .ix (encI v17), .new 4, .new 5, .nm (v19.map Choice.enc)] [.sw 5 2, .keep [1, 3, 4, 9, 10, 11, 12] [0, 1, 2]] (And.intro (lenm encS v1) (And.intro h8 (And.intro h9 (And.intro (And.intro (con_sw 1000 3 (impl_BestArrivals_ok a0 a1 a3 s6 v10 h11)) (rfl : ([] : List Nat) = [])) (And.intro (lenm encI v10) (And.intro h12 (And.intro (gi_lt encI h14) (And.intro ((gi_map encI h14).2) (And.intro h15 (And.intro (lenm Choice.enc s5) (And.intro h16 (And.intro (gi_lt encI h18) (And.intro ((gi_map encI h18).2) (And.intro (ap_ok Choice.enc h20) True.intro)))))))))))))) (by kernel_rfl) (li (Sf := impl_ChoicesOf_L1_S a0 a1 a3 v1 v3) (M := Mk (impl_ChoicesOf_L1 a0 a1 a3 v1 v3) (impl_ChoicesOf_L1_k) r) (k := [.blk 0, .code (cAt Try.f52 [1, 1, 1, 1, 1])]) (Nat.lt_succ_self m1) hK1)
          · obtain ⟨v21, h22, hM⟩ := bind_some hM
            obtain ⟨v23, h24, hM⟩ := bind_some hM
            rcases cond_cases hM with ⟨h25, hM⟩ | ⟨h25, hM⟩
            · obtain ⟨v26, h27, hM⟩ := bind_some hM
              obtain ⟨v28, h29, hM⟩ := bind_some hM
              have hE : some (Ctl.next (v28, w64 (s6 + 1))) = some c1 := hM
              have hE := Option.some.inj hE
              subst hE
              exact pc R 9999 [.ln (v1.length), .as 24 true, .as 27 true, .call false [] (.o (.c (.sl 3))) [] [(3, .row 3 1 (v10.map encI))], .ln (v10.length), .as 38 false, .ix (encI v13), .as 44 false, .ln (s5.length), .as 48 false, .ix (encI v21), .ln (s5.length), .ix (Choice.enc v23), .as 61 true, .ix (encI v26), .new 6, .new 7, .nm (v28.map Choice.enc)] [.sw 7 2, .keep [1, 3, 4, 9, 10, 11, 12] [0, 1, 2]] (And.intro (lenm encS v1) (And.intro h8 (And.intro h9 (And.intro (And.intro (con_sw 1000 3 (impl_BestArrivals_ok a0 a1 a3 s6 v10 h11)) (rfl : ([] : List Nat) = [])) (And.intro (lenm encI v10) (And.intro h12 (And.intro (gi_lt encI h14) (And.intro ((gi_map encI h14).2) (And.intro h15 (And.intro (lenm Choice.enc s5) (And.intro h16 (And.intro (gi_lt encI h22) (And.intro ((gi_map encI h22).2) (And.intro (lenm Choice.enc s5) (And.intro (gi_lt Choice.enc h24) (And.intro ((gi_map Choice.enc h24).2) (And.intro h25 (And.intro (gi_lt encI h27) (And.intro ((gi_map encI h27).2) (And.intro (ap_ok Choice.enc h29) True.intro)))))))))))))))))))) (by kernel_rfl) (li (Sf := impl_ChoicesOf_L1_S a0 a1 a3 v1 v3) (M := Mk (impl_ChoicesOf_L1 a0 a1 a3 v1 v3) (impl_ChoicesOf_L1_k) r) (k := [.blk 0, .code (cAt Try.f52 [1, 1, 1, 1, 1])]) (Nat.lt_succ_self m1) hK1)
            · have hE : some (Ctl.next (s5, w64 (s6 + 1))) = some c1 := hM
              have hE := Option.some.inj hE
              subst hE
              exact pc R 9999 [.ln (v1.length), .as 24 true, .as 27 true, .call false [] (.o (.c (.sl 3))) [] [(3, .row 3 1 (v10.map encI))], .ln (v10.length), .as 38 false, .ix (encI v13), .as 44 false, .ln (s5.length), .as 48 false, .ix (encI v21), .ln (s5.length), .ix (Choice.enc v23), .as 61 false] [.keep [1, 3, 4, 9, 10, 11, 12] [0, 1, 2]] (And.intro (lenm encS v1) (And.intro h8 (And.intro h9 (And.intro (And.intro (con_sw 1000 3 (impl_BestArrivals_ok a0 a1 a3 s6 v10 h11)) (rfl : ([] : List Nat) = [])) (And.intro (lenm encI v10) (And.intro h12 (And.intro (gi_lt encI h14) (And.intro ((gi_map encI h14).2) (And.intro h15 (And.intro (lenm Choice.enc s5) (And.intro h16 (And.intro (gi_lt encI h22) (And.intro ((gi_map encI h22).2) (And.intro (lenm Choice.enc s5) (And.intro (gi_lt Choice.enc h24) (And.intro ((gi_map Choice.enc h24).2) (And.intro h25 True.intro))))))))))))))))) (by kernel_rfl) (li (Sf := impl_ChoicesOf_L1_S a0 a1 a3 v1 v3) (M := Mk (impl_ChoicesOf_L1 a0 a1 a3 v1 v3) (impl_ChoicesOf_L1_k) r) (k := [.blk 0, .code (cAt Try.f52 [1, 1, 1, 1, 1])]) (Nat.lt_succ_self m1) hK1)
    · have hE : some (Ctl.brk s5) = some c1 := hM
      have hE := Option.some.inj hE
      subst hE
      exact pc R 5 [.ln (v1.length), .as 24 true, .as 27 false] [.keep [11] [2]] (And.intro (lenm encS v1) (And.intro h8 (And.intro h9 True.intro))) (by kernel_rfl) (K1 s5 hK1)
  · have hE : some (Ctl.brk s5) = some c1 := hM
    have hE := Option.some.inj hE
    subst hE
    exact pc R 5 [.ln (v1.length), .as 24 false] [.keep [11] [2]] (And.intro (lenm encS v1) (And.intro h8 True.intro)) (by kernel_rfl) (K1 s5 hK1)

-- loop.example/g03014/laws.eqChoice
def laws_eqChoice (a0 : Choice) (a1 : Choice) : Option Bool :=
  bif (a0.Legs != a1.Legs) then
  some false
  else
  bif (a0.Ends != a1.Ends) then
  some false
  else
  some true
theorem laws_eqChoice_ok (a0 : Choice) (a1 : Choice) (r : Bool) (hM : laws_eqChoice a0 a1 = some r) :
    Con Try.prog 98 [.c (.v (.agg (Choice.enc a0).toArray)), .c (.v (.agg (Choice.enc a1).toArray))] [] (.o (.c (.v (.bool r)))) [] [] := by
  unfold laws_eqChoice at hM
  refine cn (N := 15) (pids := []) Try_mixed Try.func98 (by kernel_rfl) (by kernel_rfl) (by kernel_rfl) rfl fun ρ g w R => ?_
  rcases cond_cases hM with ⟨h1, hM⟩ | ⟨h1, hM⟩
  · have hE : some false = some r := hM
    have hE := Option.some.inj hE
    subst hE
    exact pr R 9999 [.new 0, .new 1, .as 9 true] [] [] [] (And.intro h1 True.intro) (by kernel_rfl)
  · rcases cond_cases hM with ⟨h2, hM⟩ | ⟨h2, hM⟩
    · have hE : some false = some r := hM
      have hE := Option.some.inj hE
      subst hE
      exact pr R 9999 [.new 0, .new 1, .as 9 false, .as 14 true] [] [] [] (And.intro h1 (And.intro h2 True.intro)) (by kernel_rfl)
    · have hE : some true = some r := hM
      have hE := Option.some.inj hE
      subst hE
      exact pr R 9999 [.new 0, .new 1, .as 9 false, .as 14 false] [] [] [] (And.intro h1 (And.intro h2 True.intro)) (by kernel_rfl)

-- loop.example/g03014/laws.eqChoiceS
def laws_eqChoiceS_L1_b (a0 : (List Choice)) (a1 : (List Choice)) (s2 : Int) : Option (Ctl Int Unit Bool) :=
  bif (decide (s2 < (a0.length : Int))) then
  (gi a0 s2).bind fun v4 =>
  (gi a1 s2).bind fun v6 =>
  (laws_eqChoice v4 v6).bind fun v8 =>
  bif (!v8) then
  some (.ret false)
  else
  some (.next (w64 (s2 + 1)))
  else
  some (.brk ())
def laws_eqChoiceS_L1 (a0 : (List Choice)) (a1 : (List Choice)) (s : Int) : Option (Ctl Int Unit Bool) := laws_eqChoiceS_L1_b a0 a1 s
def laws_eqChoiceS_L1_s (a0 : (List Choice)) (a1 : (List Choice)) (s2 : Int) : St := ⟨[(0, .o (.c (.rs 2 (a0.map Choice.enc)))), (1, .o (.c (.rs 2 (a1.map Choice.enc)))), (5, .o (.c (.v (.int .i64 s2))))], []⟩
def laws_eqChoiceS_L1_S (a0 : (List Choice)) (a1 : (List Choice)) (s : Int) : St := laws_eqChoiceS_L1_s a0 a1 s
def laws_eqChoiceS_L1_a : Option Bool :=
  some true
def laws_eqChoiceS_L1_k (x : (Unit) ⊕ (Bool)) : Option Bool := match x with
  | .inl t => laws_eqChoiceS_L1_a
  | .inr y => some y
def laws_eqChoiceS (a0 : (List Choice)) (a1 : (List Choice)) : Option Bool :=
  bif ((a0.length : Int) != (a1.length : Int)) then
  some false
  else
  (loopM (laws_eqChoiceS_L1 a0 a1) big 0).bind (laws_eqChoiceS_L1_k)
theorem laws_eqChoiceS_ok (a0 : (List Choice)) (a1 : (List Choice)) (r : Bool) (hM : laws_eqChoiceS a0 a1 = some r) :
    Con Try.prog 53 [.c (.rs 2 (a0.map Choice.enc)), .c (.rs 2 (a1.map Choice.enc))] [] (.o (.c (.v (.bool r)))) [] [] := by
  unfold laws_eqChoiceS at hM
  refine cn (N := 27) (pids := []) Try_mixed Try.func53 (by kernel_rfl) (by kernel_rfl) (by kernel_rfl) rfl fun ρ g w R => ?_
  rcases cond_cases hM with ⟨h1, hM⟩ | ⟨h1, hM⟩
  · have hE : some false = some r := hM
    have hE := Option.some.inj hE
    subst hE
    exact pr R 9999 [.ln (a0.length), .ln (a1.length), .as 10 true] [] [] [] (And.intro (lenm Choice.enc a0) (And.intro (lenm Choice.enc a1) (And.intro h1 True.intro))) (by kernel_rfl)
  · have K1 : ∀ (_ : Unit), laws_eqChoiceS_L1_a = some r → Gr R [.code (cAt Try.f53 [1, 1, 1])] (⟨[], []⟩) := by
      intro _ hM
      unfold laws_eqChoiceS_L1_a at hM
      have hE : some true = some r := hM
      have hE := Option.some.inj hE
      subst hE
      exact pr R 9999 [] [] [] [] True.intro (by kernel_rfl)
    refine pc R 9999 [.ln (a0.length), .ln (a1.length), .as 10 false] [.keep [0, 1, 5] []] (k' := [.code (.loop (cAt Try.f53 [1, 1, 0, 1, 0, 0])), .blk 0, .code (cAt Try.f53 [1, 1, 1])]) (S' := laws_eqChoiceS_L1_S a0 a1 0) (And.intro (lenm Choice.enc a0) (And.intro (lenm Choice.enc a1) (And.intro h1 True.intro))) (by kernel_rfl) ?_
    refine lq (laws_eqChoiceS_L1_S a0 a1) (body := laws_eqChoiceS_L1 a0 a1) (k := laws_eqChoiceS_L1_k) hM fun m1 s c1 hM hK1 => ?_
    obtain ⟨s2, hs⟩ : ∃ z, z = s := ⟨_, rfl⟩
    subst hs
    have hM : laws_eqChoiceS_L1_b a0 a1 s2 = some c1 := hM
    unfold laws_eqChoiceS_L1_b at hM
    rcases cond_cases hM with ⟨h3, hM⟩ | ⟨h3, hM⟩
    · obtain ⟨v4, h5, hM⟩ := bind_some hM
      obtain ⟨v6, h7, hM⟩ := bind_some hM
      obtain ⟨v8, h9, hM⟩ := bind_some hM
      rcases cond_cases hM with ⟨h10, hM⟩ | ⟨h10, hM⟩
      · have hE : some (Ctl.ret false) = some c1 := hM
        have hE := Option.some.inj hE
        subst hE
        have hE : some false = some r := hK1
        have hE := Option.some.inj hE
        subst hE
        exact pr R 9999 [.ln (a0.length), .as 14 true, .ix (Choice.enc v4), .ix (Choice.enc v6), .call false [] (.o (.c (.v (.bool v8)))) [] [], .as 26 true] [] [] [] (And.intro (lenm Choice.enc a0) (And.intro h3 (And.intro (gi_map Choice.enc h5) (And.intro (gi_map Choice.enc h7) (And.intro (laws_eqChoice_ok v4 v6 v8 h9) (And.intro h10 True.intro)))))) (by kernel_rfl)
      · have hE : some (Ctl.next (w64 (s2 + 1))) = some c1 := hM
        have hE := Option.some.inj hE
        subst hE
        exact pc R 9999 [.ln (a0.length), .as 14 true, .ix (Choice.enc v4), .ix (Choice.enc v6), .call false [] (.o (.c (.v (.bool v8)))) [] [], .as 26 false] [.keep [0, 1, 5] []] (And.intro (lenm Choice.enc a0) (And.intro h3 (And.intro (gi_map Choice.enc h5) (And.intro (gi_map Choice.enc h7) (And.intro (laws_eqChoice_ok v4 v6 v8 h9) (And.intro h10 True.intro)))))) (by kernel_rfl) (li (Sf := laws_eqChoiceS_L1_S a0 a1) (M := Mk (laws_eqChoiceS_L1 a0 a1) (laws_eqChoiceS_L1_k) r) (k := [.blk 0, .code (cAt Try.f53 [1, 1, 1])]) (Nat.lt_succ_self m1) hK1)
    · have hE : some (Ctl.brk ()) = some c1 := hM
      have hE := Option.some.inj hE
      subst hE
      exact pc R 5 [.ln (a0.length), .as 14 false] [.keep [] []] (And.intro (lenm Choice.enc a0) (And.intro h3 True.intro)) (by kernel_rfl) (K1 () hK1)

-- loop.example/g03014/laws.markChoiceS
def laws_markChoiceS_L1_b (s1 : (List Choice)) (s2 : Int) (s3 : Int) : Option (Ctl ((List Choice) × Int × Int) ((List Choice) × Int) (Int × (List Choice))) :=
  bif (decide (s3 < (s1.length : Int))) then
  (gi s1 s3).bind fun v7 =>
  (gi (List.set s1 (Int.toNat s3) (Choice.mk s2 v7.Ends)) s3).bind fun v9 =>
  some (.next (List.set (List.set s1 (Int.toNat s3) (Choice.mk s2 v7.Ends)) (Int.toNat s3) (Choice.mk v9.Legs (w64 (s2 + 1))), w64 ((w64 (s2 + 1)) + 1), w64 (s3 + 1)))
  else
  some (.brk (s1, s2))
def laws_markChoiceS_L1 (s : (List Choice) × Int × Int) : Option (Ctl ((List Choice) × Int × Int) ((List Choice) × Int) (Int × (List Choice))) := laws_markChoiceS_L1_b s.1 s.2.1 s.2.2
def laws_markChoiceS_L1_s (s1 : (List Choice)) (s2 : Int) (s3 : Int) : St := ⟨[(0, .o (.c (.sl 900))), (1, .o (.c (.v (.int .i64 s2)))), (5, .o (.c (.v (.int .i64 s3))))], [(900, .row 114 2 (s1.map Choice.enc))]⟩
def laws_markChoiceS_L1_S (s : (List Choice) × Int × Int) : St := laws_markChoiceS_L1_s s.1 s.2.1 s.2.2
def laws_markChoiceS_L1_a (s4 : (List Choice)) (s5 : Int) : Option (Int × (List Choice)) :=
  some (s5, s4)
def laws_markChoiceS_L1_k (x : ((List Choice) × Int) ⊕ (Int × (List Choice))) : Option (Int × (List Choice)) := match x with
  | .inl t => laws_markChoiceS_L1_a t.1 t.2
  | .inr y => some y
def laws_markChoiceS (a0 : (List Choice)) (a1 : Int) : Option (Int × (List Choice)) :=
  (loopM (laws_markChoiceS_L1) big (a0, a1, 0)).bind (laws_markChoiceS_L1_k)
theorem laws_markChoiceS_ok (a0 : (List Choice)) (a1 : Int) (r : Int × (List Choice)) (hM : laws_markChoiceS a0 a1 = some r) :
    Con Try.prog 54 [.c (.sl 900), .c (.v (.int .i64 a1))] [(900, .row 114 2 (a0.map Choice.enc))] (.o (.c (.v (.int .i64 r.1)))) [(900, .row 114 2 (r.2.map Choice.enc))] [] := by
  unfold laws_markChoiceS at hM
  refine cn (N := 27) (pids := [900]) Try_mixed Try.func54 (by kernel_rfl) (by kernel_rfl) (by kernel_rfl) rfl fun ρ g w R => ?_
  have K1 : ∀ (s4 : (List Choice)) (s5 : Int), laws_markChoiceS_L1_a s4 s5 = some r → Gr R [.code (cAt Try.f54 [1, 1])] (⟨[(0, .o (.c (.sl 900))), (1, .o (.c (.v (.int .i64 s5))))], [(900, .row 114 2 (s4.map Choice.enc))]⟩) := by
    intro s4 s5 hM
    unfold laws_markChoiceS_L1_a at hM
    have hE : some (s5, s4) = some r := hM
    have hE := Option.some.inj hE
    subst hE
    exact pr R 9999 [] [] [900] [] True.intro (by kernel_rfl)
  refine pc R 9999 [] [.keep [0, 1, 5] [900]] (k' := [.code (.loop (cAt Try.f54 [1, 0, 1, 0, 0])), .blk 0, .code (cAt Try.f54 [1, 1])]) (S' := laws_markChoiceS_L1_S (a0, a1, 0)) True.intro (by kernel_rfl) ?_
  refine lq (laws_markChoiceS_L1_S) (body := laws_markChoiceS_L1) (k := laws_markChoiceS_L1_k) hM fun m1 s c1 hM hK1 => ?_
  obtain ⟨s1, s2, s3⟩ := s
  have hM : laws_markChoiceS_L1_b s1 s2 s3 = some c1 := hM
  unfold laws_markChoiceS_L1_b at hM
  rcases cond_cases hM with ⟨h6, hM⟩ | ⟨h6, hM⟩
  · obtain ⟨v7, h8, hM⟩ := bind_some hM
    obtain ⟨v9, h10, hM⟩ := bind_some hM
    have hE : some (Ctl.next (List.set (List.set s1 (Int.toNat s3) (Choice.mk s2 v7.Ends)) (Int.toNat s3) (Choice.mk v9.Legs (w64 (s2 + 1))), w64 ((w64 (s2 + 1)) + 1), w64 (s3 + 1))) = some c1 := hM
    have hE := Option.some.inj hE
    subst hE
    exact pc R 9999 [.ln (s1.length), .as 9 true, .ix (Choice.enc v7), .nm ((List.set s1 (Int.toNat s3) (Choice.mk s2 v7.Ends)).map Choice.enc), .ix (Choice.enc v9), .nm ((List.set (List.set s1 (Int.toNat s3) (Choice.mk s2 v7.Ends)) (Int.toNat s3) (Choice.mk v9.Legs (w64 (s2 + 1)))).map Choice.enc)] [.keep [0, 1, 5] [900]] (And.intro (lenm Choice.enc s1) (And.intro h6 (And.intro (gi_lt Choice.enc h8) (And.intro (And.intro (gi_map Choice.enc h8).2 (set_map Choice.enc s1 (Int.toNat s3) (Choice.mk s2 v7.Ends))) (And.intro (gi_lt Choice.enc h10) (And.intro (And.intro (gi_map Choice.enc h10).2 (set_map Choice.enc (List.set s1 (Int.toNat s3) (Choice.mk s2 v7.Ends)) (Int.toNat s3) (Choice.mk v9.Legs (w64 (s2 + 1))))) True.intro)))))) (by kernel_rfl) (li (Sf := laws_markChoiceS_L1_S) (M := Mk (laws_markChoiceS_L1) (laws_markChoiceS_L1_k) r) (k := [.blk 0, .code (cAt Try.f54 [1, 1])]) (Nat.lt_succ_self m1) hK1)
  · have hE : some (Ctl.brk (s1, s2)) = some c1 := hM
    have hE := Option.some.inj hE
    subst hE
    exact pc R 5 [.ln (s1.length), .as 9 false] [.keep [0, 1] [900]] (And.intro (lenm Choice.enc s1) (And.intro h6 True.intro)) (by kernel_rfl) (K1 s1 s2 hK1)

-- loop.example/g03014/laws.heldChoiceS
def laws_heldChoiceS_L1_b (a0 : (List Choice)) (s1 : Int) (s2 : Int) : Option (Ctl (Int × Int) Int Int) :=
  bif (decide (s2 < (a0.length : Int))) then
  (gi a0 s2).bind fun v5 =>
  bif (v5.Legs != s1) then
  some (.ret (-1))
  else
  (gi a0 s2).bind fun v8 =>
  bif (v8.Ends != (w64 (s1 + 1))) then
  some (.ret (-1))
  else
  some (.next (w64 ((w64 (s1 + 1)) + 1), w64 (s2 + 1)))
  else
  some (.brk s1)
def laws_heldChoiceS_L1 (a0 : (List Choice)) (s : Int × Int) : Option (Ctl (Int × Int) Int Int) := laws_heldChoiceS_L1_b a0 s.1 s.2
def laws_heldChoiceS_L1_s (a0 : (List Choice)) (s1 : Int) (s2 : Int) : St := ⟨[(0, .o (.c (.rs 2 (a0.map Choice.enc)))), (1, .o (.c (.v (.int .i64 s1)))), (5, .o (.c (.v (.int .i64 s2))))], []⟩
def laws_heldChoiceS_L1_S (a0 : (List Choice)) (s : Int × Int) : St := laws_heldChoiceS_L1_s a0 s.1 s.2
def laws_heldChoiceS_L1_a (s3 : Int) : Option Int :=
  some s3
def laws_heldChoiceS_L1_k (x : (Int) ⊕ (Int)) : Option Int := match x with
  | .inl t => laws_heldChoiceS_L1_a t
  | .inr y => some y
def laws_heldChoiceS (a0 : (List Choice)) (a1 : Int) : Option Int :=
  (loopM (laws_heldChoiceS_L1 a0) big (a1, 0)).bind (laws_heldChoiceS_L1_k)
theorem laws_heldChoiceS_ok (a0 : (List Choice)) (a1 : Int) (r : Int) (hM : laws_heldChoiceS a0 a1 = some r) :
    Con Try.prog 55 [.c (.rs 2 (a0.map Choice.enc)), .c (.v (.int .i64 a1))] [] (.o (.c (.v (.int .i64 r)))) [] [] := by
  unfold laws_heldChoiceS at hM
  refine cn (N := 31) (pids := []) Try_mixed Try.func55 (by kernel_rfl) (by kernel_rfl) (by kernel_rfl) rfl fun ρ g w R => ?_
  have K1 : ∀ (s3 : Int), laws_heldChoiceS_L1_a s3 = some r → Gr R [.code (cAt Try.f55 [1, 1])] (⟨[(1, .o (.c (.v (.int .i64 s3))))], []⟩) := by
    intro s3 hM
    unfold laws_heldChoiceS_L1_a at hM
    have hE : some s3 = some r := hM
    have hE := Option.some.inj hE
    subst hE
    exact pr R 9999 [] [] [] [] True.intro (by kernel_rfl)
  refine pc R 9999 [] [.keep [0, 1, 5] []] (k' := [.code (.loop (cAt Try.f55 [1, 0, 1, 0, 0])), .blk 0, .code (cAt Try.f55 [1, 1])]) (S' := laws_heldChoiceS_L1_S a0 (a1, 0)) True.intro (by kernel_rfl) ?_
  refine lq (laws_heldChoiceS_L1_S a0) (body := laws_heldChoiceS_L1 a0) (k := laws_heldChoiceS_L1_k) hM fun m1 s c1 hM hK1 => ?_
  obtain ⟨s1, s2⟩ := s
  have hM : laws_heldChoiceS_L1_b a0 s1 s2 = some c1 := hM
  unfold laws_heldChoiceS_L1_b at hM
  rcases cond_cases hM with ⟨h4, hM⟩ | ⟨h4, hM⟩
  · obtain ⟨v5, h6, hM⟩ := bind_some hM
    rcases cond_cases hM with ⟨h7, hM⟩ | ⟨h7, hM⟩
    · have hE : some (Ctl.ret (-1)) = some c1 := hM
      have hE := Option.some.inj hE
      subst hE
      have hE : some (-1) = some r := hK1
      have hE := Option.some.inj hE
      subst hE
      exact pr R 9999 [.ln (a0.length), .as 9 true, .ix (Choice.enc v5), .as 18 true] [] [] [] (And.intro (lenm Choice.enc a0) (And.intro h4 (And.intro (gi_map Choice.enc h6) (And.intro h7 True.intro)))) (by kernel_rfl)
    · obtain ⟨v8, h9, hM⟩ := bind_some hM
      rcases cond_cases hM with ⟨h10, hM⟩ | ⟨h10, hM⟩
      · have hE : some (Ctl.ret (-1)) = some c1 := hM
        have hE := Option.some.inj hE
        subst hE
        have hE : some (-1) = some r := hK1
        have hE := Option.some.inj hE
        subst hE
        exact pr R 9999 [.ln (a0.length), .as 9 true, .ix (Choice.enc v5), .as 18 false, .ix (Choice.enc v8), .as 27 true] [] [] [] (And.intro (lenm Choice.enc a0) (And.intro h4 (And.intro (gi_map Choice.enc h6) (And.intro h7 (And.intro (gi_map Choice.enc h9) (And.intro h10 True.intro)))))) (by kernel_rfl)
      · have hE : some (Ctl.next (w64 ((w64 (s1 + 1)) + 1), w64 (s2 + 1))) = some c1 := hM
        have hE := Option.some.inj hE
        subst hE
        exact pc R 9999 [.ln (a0.length), .as 9 true, .ix (Choice.enc v5), .as 18 false, .ix (Choice.enc v8), .as 27 false] [.keep [0, 1, 5] []] (And.intro (lenm Choice.enc a0) (And.intro h4 (And.intro (gi_map Choice.enc h6) (And.intro h7 (And.intro (gi_map Choice.enc h9) (And.intro h10 True.intro)))))) (by kernel_rfl) (li (Sf := laws_heldChoiceS_L1_S a0) (M := Mk (laws_heldChoiceS_L1 a0) (laws_heldChoiceS_L1_k) r) (k := [.blk 0, .code (cAt Try.f55 [1, 1])]) (Nat.lt_succ_self m1) hK1)
  · have hE : some (Ctl.brk s1) = some c1 := hM
    have hE := Option.some.inj hE
    subst hE
    exact pc R 5 [.ln (a0.length), .as 9 false] [.keep [1] []] (And.intro (lenm Choice.enc a0) (And.intro h4 True.intro)) (by kernel_rfl) (K1 s1 hK1)
end Go.Sx
