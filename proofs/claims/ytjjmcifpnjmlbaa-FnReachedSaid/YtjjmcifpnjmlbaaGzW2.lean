/- The functions of the program as plain Lean, and that each runs so (printed by wip/gen). -/
import Derived.Test.YtjjmcifpnjmlbaaGzW1
namespace Go.Sx
open Go.Proofs
set_option linter.unusedVariables false

-- loop.example/g03014/impl.ChoicesOf
def impl_ChoicesOf_L1_b (a0 : Network) (a1 : ByteArray) (a3 : Int) (v1 : (List ByteArray)) (v3 : Int) (s5 : (List Choice)) (s6 : Int) : Option (Ctl ((List Choice) × Int) (List Choice) (List Choice)) :=
  bif (decide (s6 ≤ (v1.length : Int))) then
  bif (decide (v3 ≥ 0)) then
  (impl_BestArrivals a0 a1 a3 s6).bind fun v10 =>
  bif ((v10.length : Int) == 0) then
  some (.next (s5, w64 (s6 + 1)))
  else
  (gi v10 v3).bind fun v13 =>
  bif (v13 == (-1)) then
  some (.next (s5, w64 (s6 + 1)))
  else
  bif ((s5.length : Int) == 0) then
  (gi v10 v3).bind fun v17 =>
  (ap 16 s5 ([(Choice.mk s6 v17)] : List Choice)).bind fun v19 =>
  some (.next (v19, w64 (s6 + 1)))
  else
  (gi v10 v3).bind fun v21 =>
  (gi s5 (w64 ((s5.length : Int) - 1))).bind fun v23 =>
  bif (decide (v21 < v23.Ends)) then
  (gi v10 v3).bind fun v26 =>
  (ap 16 s5 ([(Choice.mk s6 v26)] : List Choice)).bind fun v28 =>
  some (.next (v28, w64 (s6 + 1)))
  else
  some (.next (s5, w64 (s6 + 1)))
  else
  some (.brk s5)
  else
  some (.brk s5)
def impl_ChoicesOf_L1 (a0 : Network) (a1 : ByteArray) (a3 : Int) (v1 : (List ByteArray)) (v3 : Int) (s : (List Choice) × Int) : Option (Ctl ((List Choice) × Int) (List Choice) (List Choice)) := impl_ChoicesOf_L1_b a0 a1 a3 v1 v3 s.1 s.2
def impl_ChoicesOf_L1_s (a0 : Network) (a1 : ByteArray) (a3 : Int) (v1 : (List ByteArray)) (v3 : Int) (s5 : (List Choice)) (s6 : Int) : St := ⟨[(1, .o (.c (.v (.string a1)))), (3, .o (.c (.v (.int .i64 a3)))), (4, .o (.c (.ptr 0 0))), (9, .o (.c (.sl 1))), (10, .o (.c (.v (.int .i64 v3)))), (11, .o (.c (.sl 2))), (12, .o (.c (.v (.int .i64 s6))))], [(0, .box 27 [.rs 6 (a0.Legs.map Leg.enc), .rs 1 (a0.Off.map encI), .v (.int .i64 a0.Change)]), (1, .row 9 1 (v1.map encS)), (2, .row 55 2 (s5.map Choice.enc))]⟩
def impl_ChoicesOf_L1_S (a0 : Network) (a1 : ByteArray) (a3 : Int) (v1 : (List ByteArray)) (v3 : Int) (s : (List Choice) × Int) : St := impl_ChoicesOf_L1_s a0 a1 a3 v1 v3 s.1 s.2
def impl_ChoicesOf_L1_a (s7 : (List Choice)) : Option (List Choice) :=
  some s7
def impl_ChoicesOf_L1_k (x : ((List Choice)) ⊕ ((List Choice))) : Option (List Choice) := match x with
  | .inl t => impl_ChoicesOf_L1_a t
  | .inr y => some y
def impl_ChoicesOf (a0 : Network) (a1 : ByteArray) (a2 : ByteArray) (a3 : Int) : Option (List Choice) :=
  (impl_PlacesOf a0).bind fun v1 =>
  (impl_placeAt v1 a2).bind fun v3 =>
  (loopM (impl_ChoicesOf_L1 a0 a1 a3 v1 v3) big (([] : List Choice), 0)).bind (impl_ChoicesOf_L1_k)
theorem impl_ChoicesOf_ok (a0 : Network) (a1 : ByteArray) (a2 : ByteArray) (a3 : Int) (r : (List Choice)) (hM : impl_ChoicesOf a0 a1 a2 a3 = some r) :
    Con Try.prog 27 [.agg [.rs 6 (a0.Legs.map Leg.enc), .rs 1 (a0.Off.map encI), .v (.int .i64 a0.Change)], .c (.v (.string a1)), .c (.v (.string a2)), .c (.v (.int .i64 a3))] [] (.o (.c (.sl 1000))) [] [(1000, .row 55 2 (r.map Choice.enc))] := by
  unfold impl_ChoicesOf at hM
  refine cn (N := 72) (pids := []) Try_mixed Try.func27 (by kernel_rfl) (by kernel_rfl) (by kernel_rfl) rfl fun ρ g w R => ?_
  obtain ⟨v1, h2, hM⟩ := bind_some hM
  obtain ⟨v3, h4, hM⟩ := bind_some hM
  have K1 : ∀ (s7 : (List Choice)), impl_ChoicesOf_L1_a s7 = some r → Gr R [.code (cAt Try.f27 [1, 1, 1, 1, 1])] (⟨[(11, .o (.c (.sl 2)))], [(2, .row 55 2 (s7.map Choice.enc))]⟩) := by
    intro s7 hM
    unfold impl_ChoicesOf_L1_a at hM
    have hE : some s7 = some r := hM
    have hE := Option.some.inj hE
    subst hE
    exact pr R 9999 [] [.sw 2 1000] [] [1000] True.intro (by kernel_rfl)
  refine pc R 9999 [.new 0, .call false [] (.o (.c (.sl 1))) [] [(1, .row 9 1 (v1.map encS))], .call false [] (.o (.c (.v (.int .i64 v3)))) [] [], .new 2] [.keep [1, 3, 4, 9, 10, 11, 12] [0, 1, 2]] (k' := [.code (.loop (cAt Try.f27 [1, 1, 1, 1, 0, 1, 0, 0])), .blk 0, .code (cAt Try.f27 [1, 1, 1, 1, 1])]) (S' := impl_ChoicesOf_L1_S a0 a1 a3 v1 v3 (([] : List Choice), 0)) (And.intro (And.intro (con_sw 1000 1 (impl_PlacesOf_ok a0 v1 h2)) (rfl : ([] : List Nat) = [])) (And.intro (impl_placeAt_ok v1 a2 v3 h4) True.intro)) (by kernel_rfl) ?_
  refine lq (impl_ChoicesOf_L1_S a0 a1 a3 v1 v3) (body := impl_ChoicesOf_L1 a0 a1 a3 v1 v3) (k := impl_ChoicesOf_L1_k) hM fun m1 s c1 hM hK1 => ?_
  obtain ⟨s5, s6⟩ := s
  have hM : impl_ChoicesOf_L1_b a0 a1 a3 v1 v3 s5 s6 = some c1 := hM
  unfold impl_ChoicesOf_L1_b at hM
  rcases cond_cases hM with ⟨h8, hM⟩ | ⟨h8, hM⟩
  · rcases cond_cases hM with ⟨h9, hM⟩ | ⟨h9, hM⟩
    · obtain ⟨v10, h11, hM⟩ := bind_some hM
      rcases cond_cases hM with ⟨h12, hM⟩ | ⟨h12, hM⟩
      · have hE : some (Ctl.next (s5, w64 (s6 + 1))) = some c1 := hM
        have hE := Option.some.inj hE
        subst hE
        exact pc R 9999 [.ln (v1.length), .as 24 true, .as 27 true, .call false [] (.o (.c (.sl 3))) [] [(3, .row 3 1 (v10.map encI))], .ln (v10.length), .as 38 true] [.keep [1, 3, 4, 9, 10, 11, 12] [0, 1, 2]] (And.intro (lenm encS v1) (And.intro h8 (And.intro h9 (And.intro (And.intro (con_sw 1000 3 (impl_BestArrivals_ok a0 a1 a3 s6 v10 h11)) (rfl : ([] : List Nat) = [])) (And.intro (lenm encI v10) (And.intro h12 True.intro)))))) (by kernel_rfl) (li (Sf := impl_ChoicesOf_L1_S a0 a1 a3 v1 v3) (M := Mk (impl_ChoicesOf_L1 a0 a1 a3 v1 v3) (impl_ChoicesOf_L1_k) r) (k := [.blk 0, .code (cAt Try.f27 [1, 1, 1, 1, 1])]) (Nat.lt_succ_self m1) hK1)
      · obtain ⟨v13, h14, hM⟩ := bind_some hM
        rcases cond_cases hM with ⟨h15, hM⟩ | ⟨h15, hM⟩
        · have hE : some (Ctl.next (s5, w64 (s6 + 1))) = some c1 := hM
          have hE := Option.some.inj hE
          subst hE
          exact pc R 9999 [.ln (v1.length), .as 24 true, .as 27 true, .call false [] (.o (.c (.sl 3))) [] [(3, .row 3 1 (v10.map encI))], .ln (v10.length), .as 38 false, .ix (encI v13), .as 44 true] [.keep [1, 3, 4, 9, 10, 11, 12] [0, 1, 2]] (And.intro (lenm encS v1) (And.intro h8 (And.intro h9 (And.intro (And.intro (con_sw 1000 3 (impl_BestArrivals_ok a0 a1 a3 s6 v10 h11)) (rfl : ([] : List Nat) = [])) (And.intro (lenm encI v10) (And.intro h12 (And.intro (gi_lt encI h14) (And.intro ((gi_map encI h14).2) (And.intro h15 True.intro))))))))) (by kernel_rfl) (li (Sf := impl_ChoicesOf_L1_S a0 a1 a3 v1 v3) (M := Mk (impl_ChoicesOf_L1 a0 a1 a3 v1 v3) (impl_ChoicesOf_L1_k) r) (k := [.blk 0, .code (cAt Try.f27 [1, 1, 1, 1, 1])]) (Nat.lt_succ_self m1) hK1)
        · rcases cond_cases hM with ⟨h16, hM⟩ | ⟨h16, hM⟩
          · obtain ⟨v17, h18, hM⟩ := bind_some hM
            obtain ⟨v19, h20, hM⟩ := bind_some hM
            have hE : some (Ctl.next (v19, w64 (s6 + 1))) = some c1 := hM
            have hE := Option.some.inj hE
            subst hE
            exact pc R 9999 [.ln (v1.length), .as 24 true, .as 27 true, .call false [] (.o (.c (.sl 3))) [] [(3, .row 3 1 (v10.map encI))], .ln (v10.length), .as 38 false, .ix (encI v13), .as 44 false, .ln (s5.length), .as 48 true, .ix (encI v17), .new 4, .new 5, .nm (v19.map Choice.enc)] [.sw 5 2, .keep [1, 3, 4, 9, 10, 11, 12] [0, 1, 2]] (And.intro (lenm encS v1) (And.intro h8 (And.intro h9 (And.intro (And.intro (con_sw 1000 3 (impl_BestArrivals_ok a0 a1 a3 s6 v10 h11)) (rfl : ([] : List Nat) = [])) (And.intro (lenm encI v10) (And.intro h12 (And.intro (gi_lt encI h14) (And.intro ((gi_map encI h14).2) (And.intro h15 (And.intro (lenm Choice.enc s5) (And.intro h16 (And.intro (gi_lt encI h18) (And.intro ((gi_map encI h18).2) (And.intro (ap_ok Choice.enc h20) True.intro)))))))))))))) (by kernel_rfl) (li (Sf := impl_ChoicesOf_L1_S a0 a1 a3 v1 v3) (M := Mk (impl_ChoicesOf_L1 a0 a1 a3 v1 v3) (impl_ChoicesOf_L1_k) r) (k := [.blk 0, .code (cAt Try.f27 [1, 1, 1, 1, 1])]) (Nat.lt_succ_self m1) hK1)
          · obtain ⟨v21, h22, hM⟩ := bind_some hM
            obtain ⟨v23, h24, hM⟩ := bind_some hM
            rcases cond_cases hM with ⟨h25, hM⟩ | ⟨h25, hM⟩
            · obtain ⟨v26, h27, hM⟩ := bind_some hM
              obtain ⟨v28, h29, hM⟩ := bind_some hM
              have hE : some (Ctl.next (v28, w64 (s6 + 1))) = some c1 := hM
              have hE := Option.some.inj hE
              subst hE
              exact pc R 9999 [.ln (v1.length), .as 24 true, .as 27 true, .call false [] (.o (.c (.sl 3))) [] [(3, .row 3 1 (v10.map encI))], .ln (v10.length), .as 38 false, .ix (encI v13), .as 44 false, .ln (s5.length), .as 48 false, .ix (encI v21), .ln (s5.length), .ix (Choice.enc v23), .as 61 true, .ix (encI v26), .new 6, .new 7, .nm (v28.map Choice.enc)] [.sw 7 2, .keep [1, 3, 4, 9, 10, 11, 12] [0, 1, 2]] (And.intro (lenm encS v1) (And.intro h8 (And.intro h9 (And.intro (And.intro (con_sw 1000 3 (impl_BestArrivals_ok a0 a1 a3 s6 v10 h11)) (rfl : ([] : List Nat) = [])) (And.intro (lenm encI v10) (And.intro h12 (And.intro (gi_lt encI h14) (And.intro ((gi_map encI h14).2) (And.intro h15 (And.intro (lenm Choice.enc s5) (And.intro h16 (And.intro (gi_lt encI h22) (And.intro ((gi_map encI h22).2) (And.intro (lenm Choice.enc s5) (And.intro (gi_lt Choice.enc h24) (And.intro ((gi_map Choice.enc h24).2) (And.intro h25 (And.intro (gi_lt encI h27) (And.intro ((gi_map encI h27).2) (And.intro (ap_ok Choice.enc h29) True.intro)))))))))))))))))))) (by kernel_rfl) (li (Sf := impl_ChoicesOf_L1_S a0 a1 a3 v1 v3) (M := Mk (impl_ChoicesOf_L1 a0 a1 a3 v1 v3) (impl_ChoicesOf_L1_k) r) (k := [.blk 0, .code (cAt Try.f27 [1, 1, 1, 1, 1])]) (Nat.lt_succ_self m1) hK1)
            · have hE : some (Ctl.next (s5, w64 (s6 + 1))) = some c1 := hM
              have hE := Option.some.inj hE
              subst hE
              exact pc R 9999 [.ln (v1.length), .as 24 true, .as 27 true, .call false [] (.o (.c (.sl 3))) [] [(3, .row 3 1 (v10.map encI))], .ln (v10.length), .as 38 false, .ix (encI v13), .as 44 false, .ln (s5.length), .as 48 false, .ix (encI v21), .ln (s5.length), .ix (Choice.enc v23), .as 61 false] [.keep [1, 3, 4, 9, 10, 11, 12] [0, 1, 2]] (And.intro (lenm encS v1) (And.intro h8 (And.intro h9 (And.intro (And.intro (con_sw 1000 3 (impl_BestArrivals_ok a0 a1 a3 s6 v10 h11)) (rfl : ([] : List Nat) = [])) (And.intro (lenm encI v10) (And.intro h12 (And.intro (gi_lt encI h14) (And.intro ((gi_map encI h14).2) (And.intro h15 (And.intro (lenm Choice.enc s5) (And.intro h16 (And.intro (gi_lt encI h22) (And.intro ((gi_map encI h22).2) (And.intro (lenm Choice.enc s5) (And.intro (gi_lt Choice.enc h24) (And.intro ((gi_map Choice.enc h24).2) (And.intro h25 True.intro))))))))))))))))) (by kernel_rfl) (li (Sf := impl_ChoicesOf_L1_S a0 a1 a3 v1 v3) (M := Mk (impl_ChoicesOf_L1 a0 a1 a3 v1 v3) (impl_ChoicesOf_L1_k) r) (k := [.blk 0, .code (cAt Try.f27 [1, 1, 1, 1, 1])]) (Nat.lt_succ_self m1) hK1)
    · have hE : some (Ctl.brk s5) = some c1 := hM
      have hE := Option.some.inj hE
      subst hE
      exact pc R 5 [.ln (v1.length), .as 24 true, .as 27 false] [.keep [11] [2]] (And.intro (lenm encS v1) (And.intro h8 (And.intro h9 True.intro))) (by kernel_rfl) (K1 s5 hK1)
  · have hE : some (Ctl.brk s5) = some c1 := hM
    have hE := Option.some.inj hE
    subst hE
    exact pc R 5 [.ln (v1.length), .as 24 false] [.keep [11] [2]] (And.intro (lenm encS v1) (And.intro h8 True.intro)) (by kernel_rfl) (K1 s5 hK1)

-- loop.example/g03014/laws.index
def laws_index_L1_b (a0 : (List ByteArray)) (a1 : ByteArray) (s1 : Int) : Option (Ctl Int Unit Int) :=
  bif (decide (s1 < (a0.length : Int))) then
  (gi a0 s1).bind fun v3 =>
  bif (v3.toList == a1.toList) then
  some (.ret s1)
  else
  some (.next (w64 (s1 + 1)))
  else
  some (.brk ())
def laws_index_L1 (a0 : (List ByteArray)) (a1 : ByteArray) (s : Int) : Option (Ctl Int Unit Int) := laws_index_L1_b a0 a1 s
def laws_index_L1_s (a0 : (List ByteArray)) (a1 : ByteArray) (s1 : Int) : St := ⟨[(0, .o (.c (.rs 1 (a0.map encS)))), (1, .o (.c (.v (.string a1)))), (5, .o (.c (.v (.int .i64 s1))))], []⟩
def laws_index_L1_S (a0 : (List ByteArray)) (a1 : ByteArray) (s : Int) : St := laws_index_L1_s a0 a1 s
def laws_index_L1_a : Option Int :=
  some (-1)
def laws_index_L1_k (x : (Unit) ⊕ (Int)) : Option Int := match x with
  | .inl t => laws_index_L1_a
  | .inr y => some y
def laws_index (a0 : (List ByteArray)) (a1 : ByteArray) : Option Int :=
  (loopM (laws_index_L1 a0 a1) big 0).bind (laws_index_L1_k)
theorem laws_index_ok (a0 : (List ByteArray)) (a1 : ByteArray) (r : Int) (hM : laws_index a0 a1 = some r) :
    Con Try.prog 28 [.c (.rs 1 (a0.map encS)), .c (.v (.string a1))] [] (.o (.c (.v (.int .i64 r)))) [] [] := by
  unfold laws_index at hM
  refine cn (N := 19) (pids := []) Try_mixed Try.func28 (by kernel_rfl) (by kernel_rfl) (by kernel_rfl) rfl fun ρ g w R => ?_
  have K1 : ∀ (_ : Unit), laws_index_L1_a = some r → Gr R [.code (cAt Try.f28 [1, 1])] (⟨[], []⟩) := by
    intro _ hM
    unfold laws_index_L1_a at hM
    have hE : some (-1) = some r := hM
    have hE := Option.some.inj hE
    subst hE
    exact pr R 9999 [] [] [] [] True.intro (by kernel_rfl)
  refine pc R 9999 [] [.keep [0, 1, 5] []] (k' := [.code (.loop (cAt Try.f28 [1, 0, 1, 0, 0])), .blk 0, .code (cAt Try.f28 [1, 1])]) (S' := laws_index_L1_S a0 a1 0) True.intro (by kernel_rfl) ?_
  refine lq (laws_index_L1_S a0 a1) (body := laws_index_L1 a0 a1) (k := laws_index_L1_k) hM fun m1 s c1 hM hK1 => ?_
  obtain ⟨s1, hs⟩ : ∃ z, z = s := ⟨_, rfl⟩
  subst hs
  have hM : laws_index_L1_b a0 a1 s1 = some c1 := hM
  unfold laws_index_L1_b at hM
  rcases cond_cases hM with ⟨h2, hM⟩ | ⟨h2, hM⟩
  · obtain ⟨v3, h4, hM⟩ := bind_some hM
    rcases cond_cases hM with ⟨h5, hM⟩ | ⟨h5, hM⟩
    · have hE : some (Ctl.ret s1) = some c1 := hM
      have hE := Option.some.inj hE
      subst hE
      have hE : some s1 = some r := hK1
      have hE := Option.some.inj hE
      subst hE
      exact pr R 9999 [.ln (a0.length), .as 9 true, .ix (encS v3), .as 17 true] [] [] [] (And.intro (lenm encS a0) (And.intro h2 (And.intro (gi_map encS h4) (And.intro h5 True.intro)))) (by kernel_rfl)
    · have hE : some (Ctl.next (w64 (s1 + 1))) = some c1 := hM
      have hE := Option.some.inj hE
      subst hE
      exact pc R 9999 [.ln (a0.length), .as 9 true, .ix (encS v3), .as 17 false] [.keep [0, 1, 5] []] (And.intro (lenm encS a0) (And.intro h2 (And.intro (gi_map encS h4) (And.intro h5 True.intro)))) (by kernel_rfl) (li (Sf := laws_index_L1_S a0 a1) (M := Mk (laws_index_L1 a0 a1) (laws_index_L1_k) r) (k := [.blk 0, .code (cAt Try.f28 [1, 1])]) (Nat.lt_succ_self m1) hK1)
  · have hE : some (Ctl.brk ()) = some c1 := hM
    have hE := Option.some.inj hE
    subst hE
    exact pc R 5 [.ln (a0.length), .as 9 false] [.keep [] []] (And.intro (lenm encS a0) (And.intro h2 True.intro)) (by kernel_rfl) (K1 () hK1)

-- loop.example/g03014/impl.EarliestAt
def impl_EarliestAt (a0 : Network) (a1 : ByteArray) (a2 : ByteArray) (a3 : Int) : Option Int :=
  (impl_PlacesOf a0).bind fun v1 =>
  (impl_BestArrivals a0 a1 a3 (v1.length : Int)).bind fun v3 =>
  (impl_placeAt v1 a2).bind fun v5 =>
  bif (decide (v5 < 0)) then
  some (-1)
  else
  bif ((v3.length : Int) == 0) then
  some (-1)
  else
  (gi v3 v5).bind fun v9 =>
  some v9
theorem impl_EarliestAt_ok (a0 : Network) (a1 : ByteArray) (a2 : ByteArray) (a3 : Int) (r : Int) (hM : impl_EarliestAt a0 a1 a2 a3 = some r) :
    Con Try.prog 24 [.agg [.rs 6 (a0.Legs.map Leg.enc), .rs 1 (a0.Off.map encI), .v (.int .i64 a0.Change)], .c (.v (.string a1)), .c (.v (.string a2)), .c (.v (.int .i64 a3))] [] (.o (.c (.v (.int .i64 r)))) [] [] := by
  unfold impl_EarliestAt at hM
  refine cn (N := 34) (pids := []) Try_mixed Try.func24 (by kernel_rfl) (by kernel_rfl) (by kernel_rfl) rfl fun ρ g w R => ?_
  obtain ⟨v1, h2, hM⟩ := bind_some hM
  obtain ⟨v3, h4, hM⟩ := bind_some hM
  obtain ⟨v5, h6, hM⟩ := bind_some hM
  rcases cond_cases hM with ⟨h7, hM⟩ | ⟨h7, hM⟩
  · have hE : some (-1) = some r := hM
    have hE := Option.some.inj hE
    subst hE
    exact pr R 9999 [.new 0, .call false [] (.o (.c (.sl 1))) [] [(1, .row 9 1 (v1.map encS))], .ln (v1.length), .call false [] (.o (.c (.sl 2))) [] [(2, .row 3 1 (v3.map encI))], .call false [] (.o (.c (.v (.int .i64 v5)))) [] [], .as 25 true] [] [] [] (And.intro (And.intro (con_sw 1000 1 (impl_PlacesOf_ok a0 v1 h2)) (rfl : ([] : List Nat) = [])) (And.intro (lenm encS v1) (And.intro (And.intro (con_sw 1000 2 (impl_BestArrivals_ok a0 a1 a3 (v1.length : Int) v3 h4)) (rfl : ([] : List Nat) = [])) (And.intro (impl_placeAt_ok v1 a2 v5 h6) (And.intro h7 True.intro))))) (by kernel_rfl)
  · rcases cond_cases hM with ⟨h8, hM⟩ | ⟨h8, hM⟩
    · have hE : some (-1) = some r := hM
      have hE := Option.some.inj hE
      subst hE
      exact pr R 9999 [.new 0, .call false [] (.o (.c (.sl 1))) [] [(1, .row 9 1 (v1.map encS))], .ln (v1.length), .call false [] (.o (.c (.sl 2))) [] [(2, .row 3 1 (v3.map encI))], .call false [] (.o (.c (.v (.int .i64 v5)))) [] [], .as 25 false, .ln (v3.length), .as 29 true] [] [] [] (And.intro (And.intro (con_sw 1000 1 (impl_PlacesOf_ok a0 v1 h2)) (rfl : ([] : List Nat) = [])) (And.intro (lenm encS v1) (And.intro (And.intro (con_sw 1000 2 (impl_BestArrivals_ok a0 a1 a3 (v1.length : Int) v3 h4)) (rfl : ([] : List Nat) = [])) (And.intro (impl_placeAt_ok v1 a2 v5 h6) (And.intro h7 (And.intro (lenm encI v3) (And.intro h8 True.intro))))))) (by kernel_rfl)
    · obtain ⟨v9, h10, hM⟩ := bind_some hM
      have hE : some v9 = some r := hM
      have hE := Option.some.inj hE
      subst hE
      exact pr R 9999 [.new 0, .call false [] (.o (.c (.sl 1))) [] [(1, .row 9 1 (v1.map encS))], .ln (v1.length), .call false [] (.o (.c (.sl 2))) [] [(2, .row 3 1 (v3.map encI))], .call false [] (.o (.c (.v (.int .i64 v5)))) [] [], .as 25 false, .ln (v3.length), .as 29 false, .ix (encI v9)] [] [] [] (And.intro (And.intro (con_sw 1000 1 (impl_PlacesOf_ok a0 v1 h2)) (rfl : ([] : List Nat) = [])) (And.intro (lenm encS v1) (And.intro (And.intro (con_sw 1000 2 (impl_BestArrivals_ok a0 a1 a3 (v1.length : Int) v3 h4)) (rfl : ([] : List Nat) = [])) (And.intro (impl_placeAt_ok v1 a2 v5 h6) (And.intro h7 (And.intro (lenm encI v3) (And.intro h8 (And.intro (gi_lt encI h10) (And.intro ((gi_map encI h10).2) True.intro))))))))) (by kernel_rfl)

-- loop.example/g03014/laws.FnChoices
def laws_FnChoices_L1_b (v4 : (Network × ByteArray × ByteArray × Int)) (v6 : (List Choice)) (v10 : Int) (s12 : Int) : Option (Ctl Int Unit Bool) :=
  bif (decide (s12 < (v6.length : Int))) then
  bif (decide (s12 > 0)) then
  (gi v6 s12).bind fun v17 =>
  (gi v6 (w64 (s12 - 1))).bind fun v19 =>
  bif (decide (v17.Legs ≤ v19.Legs)) then
  some (.ret false)
  else
  (gi v6 s12).bind fun v22 =>
  (gi v6 (w64 (s12 - 1))).bind fun v24 =>
  bif (decide (v22.Ends ≥ v24.Ends)) then
  some (.ret false)
  else
  (gi v6 s12).bind fun v27 =>
  (impl_BestArrivals v4.1 v4.2.1 v4.2.2.2 v27.Legs).bind fun v29 =>
  bif (decide (v10 < 0)) then
  some (.ret false)
  else
  bif (decide ((v29.length : Int) ≤ v10)) then
  some (.ret false)
  else
  (gi v29 v10).bind fun v33 =>
  (gi v6 s12).bind fun v35 =>
  bif (v33 != v35.Ends) then
  some (.ret false)
  else
  some (.next (w64 (s12 + 1)))
  else
  (gi v6 s12).bind fun v38 =>
  (impl_BestArrivals v4.1 v4.2.1 v4.2.2.2 v38.Legs).bind fun v40 =>
  bif (decide (v10 < 0)) then
  some (.ret false)
  else
  bif (decide ((v40.length : Int) ≤ v10)) then
  some (.ret false)
  else
  (gi v40 v10).bind fun v44 =>
  (gi v6 s12).bind fun v46 =>
  bif (v44 != v46.Ends) then
  some (.ret false)
  else
  some (.next (w64 (s12 + 1)))
  else
  some (.brk ())
def laws_FnChoices_L1 (v4 : (Network × ByteArray × ByteArray × Int)) (v6 : (List Choice)) (v10 : Int) (s : Int) : Option (Ctl Int Unit Bool) := laws_FnChoices_L1_b v4 v6 v10 s
def laws_FnChoices_L1_s (v4 : (Network × ByteArray × ByteArray × Int)) (v6 : (List Choice)) (v10 : Int) (s12 : Int) : St := ⟨[(3, .o (.c (.ptr 0 0))), (4, .o (.c (.v (.string v4.2.1)))), (5, .o (.c (.v (.string v4.2.2.1)))), (6, .o (.c (.v (.int .i64 v4.2.2.2)))), (7, .o (.c (.sl 1))), (8, .o (.c (.v (.int .i64 v10)))), (9, .o (.c (.v (.int .i64 s12))))], [(0, .box 27 [.rs 6 (v4.1.Legs.map Leg.enc), .rs 1 (v4.1.Off.map encI), .v (.int .i64 v4.1.Change)]), (1, .row 55 2 (v6.map Choice.enc))]⟩
def laws_FnChoices_L1_S (v4 : (Network × ByteArray × ByteArray × Int)) (v6 : (List Choice)) (v10 : Int) (s : Int) : St := laws_FnChoices_L1_s v4 v6 v10 s
def laws_FnChoices_L1_a (v4 : (Network × ByteArray × ByteArray × Int)) (v6 : (List Choice)) : Option Bool :=
  (impl_EarliestAt v4.1 v4.2.1 v4.2.2.1 v4.2.2.2).bind fun v13 =>
  some (((v6.length : Int) == 0) == (v13 == (-1)))
def laws_FnChoices_L1_k (v4 : (Network × ByteArray × ByteArray × Int)) (v6 : (List Choice)) (x : (Unit) ⊕ (Bool)) : Option Bool := match x with
  | .inl t => laws_FnChoices_L1_a v4 v6
  | .inr y => some y
def laws_FnChoices (a0 : (List Int)) : Option Bool :=
  (laws_big a0).bind fun v1 =>
  bif v1 then
  some true
  else
  (spec_DrawChoicesOf a0).bind fun v4 =>
  (impl_ChoicesOf v4.1 v4.2.1 v4.2.2.1 v4.2.2.2).bind fun v6 =>
  (spec_PlacesOf v4.1).bind fun v8 =>
  (laws_index v8 v4.2.2.1).bind fun v10 =>
  (loopM (laws_FnChoices_L1 v4 v6 v10) big 0).bind (laws_FnChoices_L1_k v4 v6)
theorem laws_FnChoices_ok (a0 : (List Int)) (r : Bool) (hM : laws_FnChoices a0 = some r) :
    Con Try.prog 5 [.c (.rs 1 (a0.map encU8))] [] (.o (.c (.v (.bool r)))) [] [] := by
  unfold laws_FnChoices at hM
  refine cn (N := 104) (pids := []) Try_mixed Try.func5 (by kernel_rfl) (by kernel_rfl) (by kernel_rfl) rfl fun ρ g w R => ?_
  obtain ⟨v1, h2, hM⟩ := bind_some hM
  rcases cond_cases hM with ⟨h3, hM⟩ | ⟨h3, hM⟩
  · have hE : some true = some r := hM
    have hE := Option.some.inj hE
    subst hE
    exact pr R 9999 [.call false [] (.o (.c (.v (.bool v1)))) [] [], .as 12 true] [] [] [] (And.intro (laws_big_ok a0 v1 h2) (And.intro h3 True.intro)) (by kernel_rfl)
  · obtain ⟨v4, h5, hM⟩ := bind_some hM
    obtain ⟨v6, h7, hM⟩ := bind_some hM
    obtain ⟨v8, h9, hM⟩ := bind_some hM
    obtain ⟨v10, h11, hM⟩ := bind_some hM
    have K1 : ∀ (_ : Unit), laws_FnChoices_L1_a v4 v6 = some r → Gr R [.code (cAt Try.f5 [1, 1, 1, 1, 1, 1])] (⟨[(3, .o (.c (.ptr 0 0))), (4, .o (.c (.v (.string v4.2.1)))), (5, .o (.c (.v (.string v4.2.2.1)))), (6, .o (.c (.v (.int .i64 v4.2.2.2)))), (7, .o (.c (.sl 1)))], [(0, .box 27 [.rs 6 (v4.1.Legs.map Leg.enc), .rs 1 (v4.1.Off.map encI), .v (.int .i64 v4.1.Change)]), (1, .row 55 2 (v6.map Choice.enc))]⟩) := by
      intro _ hM
      unfold laws_FnChoices_L1_a at hM
      obtain ⟨v13, h14, hM⟩ := bind_some hM
      have hE : some (((v6.length : Int) == 0) == (v13 == (-1))) = some r := hM
      have hE := Option.some.inj hE
      subst hE
      exact pr R 9999 [.ln (v6.length), .call false [] (.o (.c (.v (.int .i64 v13)))) [] []] [] [] [] (And.intro (lenm Choice.enc v6) (And.intro (impl_EarliestAt_ok v4.1 v4.2.1 v4.2.2.1 v4.2.2.2 v13 h14) True.intro)) (by kernel_rfl)
    refine pc R 9999 [.call false [] (.o (.c (.v (.bool v1)))) [] [], .as 12 false, .call true [] (.tup [.agg [.rs 6 (v4.1.Legs.map Leg.enc), .rs 1 (v4.1.Off.map encI), .v (.int .i64 v4.1.Change)], .c (.v (.string v4.2.1)), .c (.v (.string v4.2.2.1)), .c (.v (.int .i64 v4.2.2.2))]) [] [], .new 0, .call false [] (.o (.c (.sl 1))) [] [(1, .row 55 2 (v6.map Choice.enc))], .call false [] (.o (.c (.sl 2))) [] [(2, .row 9 1 (v8.map encS))], .call false [] (.o (.c (.v (.int .i64 v10)))) [] []] [.keep [3, 4, 5, 6, 7, 8, 9] [0, 1]] (k' := [.code (.loop (cAt Try.f5 [1, 1, 1, 1, 1, 0, 1, 0, 0])), .blk 0, .code (cAt Try.f5 [1, 1, 1, 1, 1, 1])]) (S' := laws_FnChoices_L1_S v4 v6 v10 0) (And.intro (laws_big_ok a0 v1 h2) (And.intro h3 (And.intro (And.intro (spec_DrawChoicesOf_ok a0 v4 h5) (rfl : ([] : List Nat) = [])) (And.intro (And.intro (con_sw 1000 1 (impl_ChoicesOf_ok v4.1 v4.2.1 v4.2.2.1 v4.2.2.2 v6 h7)) (rfl : ([] : List Nat) = [])) (And.intro (And.intro (con_sw 1000 2 (spec_PlacesOf_ok v4.1 v8 h9)) (rfl : ([] : List Nat) = [])) (And.intro (laws_index_ok v8 v4.2.2.1 v10 h11) True.intro)))))) (by kernel_rfl) ?_
    refine lq (laws_FnChoices_L1_S v4 v6 v10) (body := laws_FnChoices_L1 v4 v6 v10) (k := laws_FnChoices_L1_k v4 v6) hM fun m1 s c1 hM hK1 => ?_
    obtain ⟨s12, hs⟩ : ∃ z, z = s := ⟨_, rfl⟩
    subst hs
    have hM : laws_FnChoices_L1_b v4 v6 v10 s12 = some c1 := hM
    unfold laws_FnChoices_L1_b at hM
    rcases cond_cases hM with ⟨h15, hM⟩ | ⟨h15, hM⟩
    · rcases cond_cases hM with ⟨h16, hM⟩ | ⟨h16, hM⟩
      · obtain ⟨v17, h18, hM⟩ := bind_some hM
        obtain ⟨v19, h20, hM⟩ := bind_some hM
        rcases cond_cases hM with ⟨h21, hM⟩ | ⟨h21, hM⟩
        · have hE : some (Ctl.ret false) = some c1 := hM
          have hE := Option.some.inj hE
          subst hE
          have hE : some false = some r := hK1
          have hE := Option.some.inj hE
          subst hE
          exact pr R 9999 [.ln (v6.length), .as 32 true, .as 37 true, .ix (Choice.enc v17), .ix (Choice.enc v19), .as 50 true] [] [] [] (And.intro (lenm Choice.enc v6) (And.intro h15 (And.intro h16 (And.intro (gi_lt Choice.enc h18) (And.intro ((gi_map Choice.enc h18).2) (And.intro (gi_lt Choice.enc h20) (And.intro ((gi_map Choice.enc h20).2) (And.intro h21 True.intro)))))))) (by kernel_rfl)
        · obtain ⟨v22, h23, hM⟩ := bind_some hM
          obtain ⟨v24, h25, hM⟩ := bind_some hM
          rcases cond_cases hM with ⟨h26, hM⟩ | ⟨h26, hM⟩
          · have hE : some (Ctl.ret false) = some c1 := hM
            have hE := Option.some.inj hE
            subst hE
            have hE : some false = some r := hK1
            have hE := Option.some.inj hE
            subst hE
            exact pr R 9999 [.ln (v6.length), .as 32 true, .as 37 true, .ix (Choice.enc v17), .ix (Choice.enc v19), .as 50 false, .ix (Choice.enc v22), .ix (Choice.enc v24), .as 64 true] [] [] [] (And.intro (lenm Choice.enc v6) (And.intro h15 (And.intro h16 (And.intro (gi_lt Choice.enc h18) (And.intro ((gi_map Choice.enc h18).2) (And.intro (gi_lt Choice.enc h20) (And.intro ((gi_map Choice.enc h20).2) (And.intro h21 (And.intro (gi_lt Choice.enc h23) (And.intro ((gi_map Choice.enc h23).2) (And.intro (gi_lt Choice.enc h25) (And.intro ((gi_map Choice.enc h25).2) (And.intro h26 True.intro))))))))))))) (by kernel_rfl)
          · obtain ⟨v27, h28, hM⟩ := bind_some hM
            obtain ⟨v29, h30, hM⟩ := bind_some hM
            rcases cond_cases hM with ⟨h31, hM⟩ | ⟨h31, hM⟩
            · have hE : some (Ctl.ret false) = some c1 := hM
              have hE := Option.some.inj hE
              subst hE
              have hE : some false = some r := hK1
              have hE := Option.some.inj hE
              subst hE
              exact pr R 9999 [.ln (v6.length), .as 32 true, .as 37 true, .ix (Choice.enc v17), .ix (Choice.enc v19), .as 50 false, .ix (Choice.enc v22), .ix (Choice.enc v24), .as 64 false, .ix (Choice.enc v27), .call false [] (.o (.c (.sl 3))) [] [(3, .row 3 1 (v29.map encI))], .as 76 true] [] [] [] (And.intro (lenm Choice.enc v6) (And.intro h15 (And.intro h16 (And.intro (gi_lt Choice.enc h18) (And.intro ((gi_map Choice.enc h18).2) (And.intro (gi_lt Choice.enc h20) (And.intro ((gi_map Choice.enc h20).2) (And.intro h21 (And.intro (gi_lt Choice.enc h23) (And.intro ((gi_map Choice.enc h23).2) (And.intro (gi_lt Choice.enc h25) (And.intro ((gi_map Choice.enc h25).2) (And.intro h26 (And.intro (gi_lt Choice.enc h28) (And.intro ((gi_map Choice.enc h28).2) (And.intro (And.intro (con_sw 1000 3 (impl_BestArrivals_ok v4.1 v4.2.1 v4.2.2.2 v27.Legs v29 h30)) (rfl : ([] : List Nat) = [])) (And.intro h31 True.intro))))))))))))))))) (by kernel_rfl)
            · rcases cond_cases hM with ⟨h32, hM⟩ | ⟨h32, hM⟩
              · have hE : some (Ctl.ret false) = some c1 := hM
                have hE := Option.some.inj hE
                subst hE
                have hE : some false = some r := hK1
                have hE := Option.some.inj hE
                subst hE
                exact pr R 9999 [.ln (v6.length), .as 32 true, .as 37 true, .ix (Choice.enc v17), .ix (Choice.enc v19), .as 50 false, .ix (Choice.enc v22), .ix (Choice.enc v24), .as 64 false, .ix (Choice.enc v27), .call false [] (.o (.c (.sl 3))) [] [(3, .row 3 1 (v29.map encI))], .as 76 false, .ln (v29.length), .as 82 true] [] [] [] (And.intro (lenm Choice.enc v6) (And.intro h15 (And.intro h16 (And.intro (gi_lt Choice.enc h18) (And.intro ((gi_map Choice.enc h18).2) (And.intro (gi_lt Choice.enc h20) (And.intro ((gi_map Choice.enc h20).2) (And.intro h21 (And.intro (gi_lt Choice.enc h23) (And.intro ((gi_map Choice.enc h23).2) (And.intro (gi_lt Choice.enc h25) (And.intro ((gi_map Choice.enc h25).2) (And.intro h26 (And.intro (gi_lt Choice.enc h28) (And.intro ((gi_map Choice.enc h28).2) (And.intro (And.intro (con_sw 1000 3 (impl_BestArrivals_ok v4.1 v4.2.1 v4.2.2.2 v27.Legs v29 h30)) (rfl : ([] : List Nat) = [])) (And.intro h31 (And.intro (lenm encI v29) (And.intro h32 True.intro))))))))))))))))))) (by kernel_rfl)
              · obtain ⟨v33, h34, hM⟩ := bind_some hM
                obtain ⟨v35, h36, hM⟩ := bind_some hM
                rcases cond_cases hM with ⟨h37, hM⟩ | ⟨h37, hM⟩
                · have hE : some (Ctl.ret false) = some c1 := hM
                  have hE := Option.some.inj hE
                  subst hE
                  have hE : some false = some r := hK1
                  have hE := Option.some.inj hE
                  subst hE
                  exact pr R 9999 [.ln (v6.length), .as 32 true, .as 37 true, .ix (Choice.enc v17), .ix (Choice.enc v19), .as 50 false, .ix (Choice.enc v22), .ix (Choice.enc v24), .as 64 false, .ix (Choice.enc v27), .call false [] (.o (.c (.sl 3))) [] [(3, .row 3 1 (v29.map encI))], .as 76 false, .ln (v29.length), .as 82 false, .ix (encI v33), .ix (Choice.enc v35), .as 93 true] [] [] [] (And.intro (lenm Choice.enc v6) (And.intro h15 (And.intro h16 (And.intro (gi_lt Choice.enc h18) (And.intro ((gi_map Choice.enc h18).2) (And.intro (gi_lt Choice.enc h20) (And.intro ((gi_map Choice.enc h20).2) (And.intro h21 (And.intro (gi_lt Choice.enc h23) (And.intro ((gi_map Choice.enc h23).2) (And.intro (gi_lt Choice.enc h25) (And.intro ((gi_map Choice.enc h25).2) (And.intro h26 (And.intro (gi_lt Choice.enc h28) (And.intro ((gi_map Choice.enc h28).2) (And.intro (And.intro (con_sw 1000 3 (impl_BestArrivals_ok v4.1 v4.2.1 v4.2.2.2 v27.Legs v29 h30)) (rfl : ([] : List Nat) = [])) (And.intro h31 (And.intro (lenm encI v29) (And.intro h32 (And.intro (gi_lt encI h34) (And.intro ((gi_map encI h34).2) (And.intro (gi_lt Choice.enc h36) (And.intro ((gi_map Choice.enc h36).2) (And.intro h37 True.intro)))))))))))))))))))))))) (by kernel_rfl)
                · have hE : some (Ctl.next (w64 (s12 + 1))) = some c1 := hM
                  have hE := Option.some.inj hE
                  subst hE
                  exact pc R 9999 [.ln (v6.length), .as 32 true, .as 37 true, .ix (Choice.enc v17), .ix (Choice.enc v19), .as 50 false, .ix (Choice.enc v22), .ix (Choice.enc v24), .as 64 false, .ix (Choice.enc v27), .call false [] (.o (.c (.sl 3))) [] [(3, .row 3 1 (v29.map encI))], .as 76 false, .ln (v29.length), .as 82 false, .ix (encI v33), .ix (Choice.enc v35), .as 93 false] [.keep [3, 4, 5, 6, 7, 8, 9] [0, 1]] (And.intro (lenm Choice.enc v6) (And.intro h15 (And.intro h16 (And.intro (gi_lt Choice.enc h18) (And.intro ((gi_map Choice.enc h18).2) (And.intro (gi_lt Choice.enc h20) (And.intro ((gi_map Choice.enc h20).2) (And.intro h21 (And.intro (gi_lt Choice.enc h23) (And.intro ((gi_map Choice.enc h23).2) (And.intro (gi_lt Choice.enc h25) (And.intro ((gi_map Choice.enc h25).2) (And.intro h26 (And.intro (gi_lt Choice.enc h28) (And.intro ((gi_map Choice.enc h28).2) (And.intro (And.intro (con_sw 1000 3 (impl_BestArrivals_ok v4.1 v4.2.1 v4.2.2.2 v27.Legs v29 h30)) (rfl : ([] : List Nat) = [])) (And.intro h31 (And.intro (lenm encI v29) (And.intro h32 (And.intro (gi_lt encI h34) (And.intro ((gi_map encI h34).2) (And.intro (gi_lt Choice.enc h36) (And.intro ((gi_map Choice.enc h36).2) (And.intro h37 True.intro)))))))))))))))))))))))) (by kernel_rfl) (li (Sf := laws_FnChoices_L1_S v4 v6 v10) (M := Mk (laws_FnChoices_L1 v4 v6 v10) (laws_FnChoices_L1_k v4 v6) r) (k := [.blk 0, .code (cAt Try.f5 [1, 1, 1, 1, 1, 1])]) (Nat.lt_succ_self m1) hK1)
      · obtain ⟨v38, h39, hM⟩ := bind_some hM
        obtain ⟨v40, h41, hM⟩ := bind_some hM
        rcases cond_cases hM with ⟨h42, hM⟩ | ⟨h42, hM⟩
        · have hE : some (Ctl.ret false) = some c1 := hM
          have hE := Option.some.inj hE
          subst hE
          have hE : some false = some r := hK1
          have hE := Option.some.inj hE
          subst hE
          exact pr R 9999 [.ln (v6.length), .as 32 true, .as 37 false, .ix (Choice.enc v38), .call false [] (.o (.c (.sl 4))) [] [(4, .row 3 1 (v40.map encI))], .as 76 true] [] [] [] (And.intro (lenm Choice.enc v6) (And.intro h15 (And.intro h16 (And.intro (gi_lt Choice.enc h39) (And.intro ((gi_map Choice.enc h39).2) (And.intro (And.intro (con_sw 1000 4 (impl_BestArrivals_ok v4.1 v4.2.1 v4.2.2.2 v38.Legs v40 h41)) (rfl : ([] : List Nat) = [])) (And.intro h42 True.intro))))))) (by kernel_rfl)
        · rcases cond_cases hM with ⟨h43, hM⟩ | ⟨h43, hM⟩
          · have hE : some (Ctl.ret false) = some c1 := hM
            have hE := Option.some.inj hE
            subst hE
            have hE : some false = some r := hK1
            have hE := Option.some.inj hE
            subst hE
            exact pr R 9999 [.ln (v6.length), .as 32 true, .as 37 false, .ix (Choice.enc v38), .call false [] (.o (.c (.sl 4))) [] [(4, .row 3 1 (v40.map encI))], .as 76 false, .ln (v40.length), .as 82 true] [] [] [] (And.intro (lenm Choice.enc v6) (And.intro h15 (And.intro h16 (And.intro (gi_lt Choice.enc h39) (And.intro ((gi_map Choice.enc h39).2) (And.intro (And.intro (con_sw 1000 4 (impl_BestArrivals_ok v4.1 v4.2.1 v4.2.2.2 v38.Legs v40 h41)) (rfl : ([] : List Nat) = [])) (And.intro h42 (And.intro (lenm encI v40) (And.intro h43 True.intro))))))))) (by kernel_rfl)
          · obtain ⟨v44, h45, hM⟩ := bind_some hM
            obtain ⟨v46, h47, hM⟩ := bind_some hM
            rcases cond_cases hM with ⟨h48, hM⟩ | ⟨h48, hM⟩
            · have hE : some (Ctl.ret false) = some c1 := hM
              have hE := Option.some.inj hE
              subst hE
              have hE : some false = some r := hK1
              have hE := Option.some.inj hE
              subst hE
              exact pr R 9999 [.ln (v6.length), .as 32 true, .as 37 false, .ix (Choice.enc v38), .call false [] (.o (.c (.sl 4))) [] [(4, .row 3 1 (v40.map encI))], .as 76 false, .ln (v40.length), .as 82 false, .ix (encI v44), .ix (Choice.enc v46), .as 93 true] [] [] [] (And.intro (lenm Choice.enc v6) (And.intro h15 (And.intro h16 (And.intro (gi_lt Choice.enc h39) (And.intro ((gi_map Choice.enc h39).2) (And.intro (And.intro (con_sw 1000 4 (impl_BestArrivals_ok v4.1 v4.2.1 v4.2.2.2 v38.Legs v40 h41)) (rfl : ([] : List Nat) = [])) (And.intro h42 (And.intro (lenm encI v40) (And.intro h43 (And.intro (gi_lt encI h45) (And.intro ((gi_map encI h45).2) (And.intro (gi_lt Choice.enc h47) (And.intro ((gi_map Choice.enc h47).2) (And.intro h48 True.intro)))))))))))))) (by kernel_rfl)
            · have hE : some (Ctl.next (w64 (s12 + 1))) = some c1 := hM
              have hE := Option.some.inj hE
              subst hE
              exact pc R 9999 [.ln (v6.length), .as 32 true, .as 37 false, .ix (Choice.enc v38), .call false [] (.o (.c (.sl 4))) [] [(4, .row 3 1 (v40.map encI))], .as 76 false, .ln (v40.length), .as 82 false, .ix (encI v44), .ix (Choice.enc v46), .as 93 false] [.keep [3, 4, 5, 6, 7, 8, 9] [0, 1]] (And.intro (lenm Choice.enc v6) (And.intro h15 (And.intro h16 (And.intro (gi_lt Choice.enc h39) (And.intro ((gi_map Choice.enc h39).2) (And.intro (And.intro (con_sw 1000 4 (impl_BestArrivals_ok v4.1 v4.2.1 v4.2.2.2 v38.Legs v40 h41)) (rfl : ([] : List Nat) = [])) (And.intro h42 (And.intro (lenm encI v40) (And.intro h43 (And.intro (gi_lt encI h45) (And.intro ((gi_map encI h45).2) (And.intro (gi_lt Choice.enc h47) (And.intro ((gi_map Choice.enc h47).2) (And.intro h48 True.intro)))))))))))))) (by kernel_rfl) (li (Sf := laws_FnChoices_L1_S v4 v6 v10) (M := Mk (laws_FnChoices_L1 v4 v6 v10) (laws_FnChoices_L1_k v4 v6) r) (k := [.blk 0, .code (cAt Try.f5 [1, 1, 1, 1, 1, 1])]) (Nat.lt_succ_self m1) hK1)
    · have hE : some (Ctl.brk ()) = some c1 := hM
      have hE := Option.some.inj hE
      subst hE
      exact pc R 5 [.ln (v6.length), .as 32 false] [.keep [3, 4, 5, 6, 7] [0, 1]] (And.intro (lenm Choice.enc v6) (And.intro h15 True.intro)) (by kernel_rfl) (K1 () hK1)

-- loop.example/g03014/spec.DrawReachedBy
def spec_DrawReachedBy_x1 (v3 : (Network × l1Cur)) (v5 : (Int × l1Cur)) (v7 : (ByteArray × l1Cur)) (v9 : (Int × l1Cur)) : St := ⟨[(2, .o (.c (.ptr 0 0))), (3, .o (.c (.v (.string v7.1)))), (4, .o (.c (.v (.int .i64 v5.1)))), (5, .o (.c (.v (.int .i64 (w64 (v5.1 + v9.1))))))], [(0, .box 27 [.rs 6 (v3.1.Legs.map Leg.enc), .rs 1 (v3.1.Off.map encI), .v (.int .i64 v3.1.Change)])]⟩
def spec_DrawReachedBy (a0 : (List Int)) : Option (Network × ByteArray × Int × Int) :=
  (spec_l1New a0).bind fun v1 =>
  (spec_l4Net v1).bind fun v3 =>
  (spec_l4At v3.2).bind fun v5 =>
  (spec_l4Of_at1ro v5.2 v3.1).bind fun v7 =>
  (spec_l1Int v7.2 ([0, 300, 1440, 5000, (-1)] : List Int)).bind fun v9 =>
  some ((Network.mk v3.1.Legs v3.1.Off v3.1.Change), v7.1, v5.1, w64 (v5.1 + v9.1))
theorem spec_DrawReachedBy_ok (a0 : (List Int)) (r : Network × ByteArray × Int × Int) (hM : spec_DrawReachedBy a0 = some r) :
    Con Try.prog 31 [.c (.rs 1 (a0.map encU8))] [] (.tup [.agg [.rs 6 (r.1.Legs.map Leg.enc), .rs 1 (r.1.Off.map encI), .v (.int .i64 r.1.Change)], .c (.v (.string r.2.1)), .c (.v (.int .i64 r.2.2.1)), .c (.v (.int .i64 r.2.2.2))]) [] [] := by
  unfold spec_DrawReachedBy at hM
  refine cn (N := 25) (pids := []) Try_mixed Try.func31 (by kernel_rfl) (by kernel_rfl) (by kernel_rfl) rfl fun ρ g w R => ?_
  obtain ⟨v1, h2, hM⟩ := bind_some hM
  obtain ⟨v3, h4, hM⟩ := bind_some hM
  obtain ⟨v5, h6, hM⟩ := bind_some hM
  obtain ⟨v7, h8, hM⟩ := bind_some hM
  obtain ⟨v9, h10, hM⟩ := bind_some hM
  have hE : some ((Network.mk v3.1.Legs v3.1.Off v3.1.Change), v7.1, v5.1, w64 (v5.1 + v9.1)) = some r := hM
  have hE := Option.some.inj hE
  subst hE
  exact pr R 9999 [.new 0, .call true [] (.o (.c (.ptr 1 0))) [] [(1, .box 87 [.rs 1 (v1.b.map encU8), .v (.int .i64 v1.i), .v (.int .i64 v1.h)])], .call true [1] (.o (.agg [.rs 6 (v3.1.Legs.map Leg.enc), .rs 1 (v3.1.Off.map encI), .v (.int .i64 v3.1.Change)])) [(1, .box 87 [.rs 1 (v3.2.b.map encU8), .v (.int .i64 v3.2.i), .v (.int .i64 v3.2.h)])] [], .new 2, .call true [1] (.o (.c (.v (.int .i64 v5.1)))) [(1, .box 87 [.rs 1 (v5.2.b.map encU8), .v (.int .i64 v5.2.i), .v (.int .i64 v5.2.h)])] [], .xo [[], [], [], [.call true [1] (.o (.c (.v (.string v7.1)))) [(1, .box 87 [.rs 1 (v7.2.b.map encU8), .v (.int .i64 v7.2.i), .v (.int .i64 v7.2.h)])] []], [], [], [], [.new 3], [.ad (.keep [0, 2, 3, 4, 5, 6, 7, 8, 9, 10, 11, 12, 13, 14, 15, 16, 17, 18, 19, 20, 21, 22] [1, 3, 0, 2]), .call true [1, 3] (.o (.c (.v (.int .i64 v9.1)))) [(1, .box 87 [.rs 1 (v9.2.b.map encU8), .v (.int .i64 v9.2.i), .v (.int .i64 v9.2.h)]), (3, .row 3 1 (([0, 300, 1440, 5000, (-1)] : List Int).map encI))] []], [], [], [], [], []] [.keep [2, 3, 4, 5] [0]] (spec_DrawReachedBy_x1 v3 v5 v7 v9)] [] [] [] (And.intro (And.intro (con_sw 1000 1 (spec_l1New_ok a0 v1 h2)) (rfl : ([] : List Nat) = [])) (And.intro (And.intro (con_sw 900 1 (spec_l4Net_ok v1 v3 h4)) (rfl : ([1] : List Nat) = [1])) (And.intro (And.intro (con_sw 900 1 (spec_l4At_ok v3.2 v5 h6)) (rfl : ([1] : List Nat) = [1])) (And.intro (And.intro (con_sw 900 1 (spec_l4Of_at1ro_ok v5.2 v3.1 v7 h8)) (rfl : ([1] : List Nat) = [1])) (And.intro (And.intro (con_sw 901 3 (con_sw 900 1 (spec_l1Int_ok v7.2 ([0, 300, 1440, 5000, (-1)] : List Int) v9 h10))) (rfl : ([1, 3] : List Nat) = [1, 3])) (And.intro (rfl : (spec_DrawReachedBy_x1 v3 v5 v7 v9) = (spec_DrawReachedBy_x1 v3 v5 v7 v9)) (And.intro (And.intro (con_sw 900 1 (spec_l4Of_at1ro_ok v5.2 v3.1 v7 h8)) (rfl : ([1] : List Nat) = [1])) (And.intro (And.intro (con_sw 901 3 (con_sw 900 1 (spec_l1Int_ok v7.2 ([0, 300, 1440, 5000, (-1)] : List Int) v9 h10))) (rfl : ([1, 3] : List Nat) = [1, 3])) (And.intro (rfl : (spec_DrawReachedBy_x1 v3 v5 v7 v9) = (spec_DrawReachedBy_x1 v3 v5 v7 v9)) (And.intro (And.intro (con_sw 900 1 (spec_l4Of_at1ro_ok v5.2 v3.1 v7 h8)) (rfl : ([1] : List Nat) = [1])) (And.intro (And.intro (con_sw 901 3 (con_sw 900 1 (spec_l1Int_ok v7.2 ([0, 300, 1440, 5000, (-1)] : List Int) v9 h10))) (rfl : ([1, 3] : List Nat) = [1, 3])) (And.intro (rfl : (spec_DrawReachedBy_x1 v3 v5 v7 v9) = (spec_DrawReachedBy_x1 v3 v5 v7 v9)) (And.intro (And.intro (con_sw 900 1 (spec_l4Of_at1ro_ok v5.2 v3.1 v7 h8)) (rfl : ([1] : List Nat) = [1])) (And.intro (And.intro (con_sw 901 3 (con_sw 900 1 (spec_l1Int_ok v7.2 ([0, 300, 1440, 5000, (-1)] : List Int) v9 h10))) (rfl : ([1, 3] : List Nat) = [1, 3])) (And.intro (rfl : (spec_DrawReachedBy_x1 v3 v5 v7 v9) = (spec_DrawReachedBy_x1 v3 v5 v7 v9)) (And.intro (And.intro (con_sw 900 1 (spec_l4Of_at1ro_ok v5.2 v3.1 v7 h8)) (rfl : ([1] : List Nat) = [1])) (And.intro (And.intro (con_sw 901 3 (con_sw 900 1 (spec_l1Int_ok v7.2 ([0, 300, 1440, 5000, (-1)] : List Int) v9 h10))) (rfl : ([1, 3] : List Nat) = [1, 3])) (And.intro (rfl : (spec_DrawReachedBy_x1 v3 v5 v7 v9) = (spec_DrawReachedBy_x1 v3 v5 v7 v9)) (And.intro (And.intro (con_sw 900 1 (spec_l4Of_at1ro_ok v5.2 v3.1 v7 h8)) (rfl : ([1] : List Nat) = [1])) (And.intro (And.intro (con_sw 901 3 (con_sw 900 1 (spec_l1Int_ok v7.2 ([0, 300, 1440, 5000, (-1)] : List Int) v9 h10))) (rfl : ([1, 3] : List Nat) = [1, 3])) (And.intro (rfl : (spec_DrawReachedBy_x1 v3 v5 v7 v9) = (spec_DrawReachedBy_x1 v3 v5 v7 v9)) (And.intro (And.intro (con_sw 901 3 (con_sw 900 1 (spec_l1Int_ok v7.2 ([0, 300, 1440, 5000, (-1)] : List Int) v9 h10))) (rfl : ([1, 3] : List Nat) = [1, 3])) (And.intro (rfl : (spec_DrawReachedBy_x1 v3 v5 v7 v9) = (spec_DrawReachedBy_x1 v3 v5 v7 v9)) (And.intro (And.intro (con_sw 901 3 (con_sw 900 1 (spec_l1Int_ok v7.2 ([0, 300, 1440, 5000, (-1)] : List Int) v9 h10))) (rfl : ([1, 3] : List Nat) = [1, 3])) (And.intro (rfl : (spec_DrawReachedBy_x1 v3 v5 v7 v9) = (spec_DrawReachedBy_x1 v3 v5 v7 v9)) (And.intro (And.intro (con_sw 900 1 (spec_l4Of_at1ro_ok v5.2 v3.1 v7 h8)) (rfl : ([1] : List Nat) = [1])) (And.intro (And.intro (con_sw 901 3 (con_sw 900 1 (spec_l1Int_ok v7.2 ([0, 300, 1440, 5000, (-1)] : List Int) v9 h10))) (rfl : ([1, 3] : List Nat) = [1, 3])) (And.intro (rfl : (spec_DrawReachedBy_x1 v3 v5 v7 v9) = (spec_DrawReachedBy_x1 v3 v5 v7 v9)) (And.intro (And.intro (con_sw 900 1 (spec_l4Of_at1ro_ok v5.2 v3.1 v7 h8)) (rfl : ([1] : List Nat) = [1])) (And.intro (And.intro (con_sw 901 3 (con_sw 900 1 (spec_l1Int_ok v7.2 ([0, 300, 1440, 5000, (-1)] : List Int) v9 h10))) (rfl : ([1, 3] : List Nat) = [1, 3])) (And.intro (rfl : (spec_DrawReachedBy_x1 v3 v5 v7 v9) = (spec_DrawReachedBy_x1 v3 v5 v7 v9)) (And.intro (And.intro (con_sw 901 3 (con_sw 900 1 (spec_l1Int_ok v7.2 ([0, 300, 1440, 5000, (-1)] : List Int) v9 h10))) (rfl : ([1, 3] : List Nat) = [1, 3])) (And.intro (rfl : (spec_DrawReachedBy_x1 v3 v5 v7 v9) = (spec_DrawReachedBy_x1 v3 v5 v7 v9)) (And.intro (And.intro (con_sw 900 1 (spec_l4Of_at1ro_ok v5.2 v3.1 v7 h8)) (rfl : ([1] : List Nat) = [1])) (And.intro (And.intro (con_sw 901 3 (con_sw 900 1 (spec_l1Int_ok v7.2 ([0, 300, 1440, 5000, (-1)] : List Int) v9 h10))) (rfl : ([1, 3] : List Nat) = [1, 3])) (And.intro (rfl : (spec_DrawReachedBy_x1 v3 v5 v7 v9) = (spec_DrawReachedBy_x1 v3 v5 v7 v9)) (And.intro (And.intro (con_sw 900 1 (spec_l4Of_at1ro_ok v5.2 v3.1 v7 h8)) (rfl : ([1] : List Nat) = [1])) (And.intro (And.intro (con_sw 901 3 (con_sw 900 1 (spec_l1Int_ok v7.2 ([0, 300, 1440, 5000, (-1)] : List Int) v9 h10))) (rfl : ([1, 3] : List Nat) = [1, 3])) (And.intro (rfl : (spec_DrawReachedBy_x1 v3 v5 v7 v9) = (spec_DrawReachedBy_x1 v3 v5 v7 v9)) (And.intro (And.intro (con_sw 900 1 (spec_l4Of_at1ro_ok v5.2 v3.1 v7 h8)) (rfl : ([1] : List Nat) = [1])) (And.intro (And.intro (con_sw 901 3 (con_sw 900 1 (spec_l1Int_ok v7.2 ([0, 300, 1440, 5000, (-1)] : List Int) v9 h10))) (rfl : ([1, 3] : List Nat) = [1, 3])) (And.intro (rfl : (spec_DrawReachedBy_x1 v3 v5 v7 v9) = (spec_DrawReachedBy_x1 v3 v5 v7 v9)) (And.intro (And.intro (con_sw 901 3 (con_sw 900 1 (spec_l1Int_ok v7.2 ([0, 300, 1440, 5000, (-1)] : List Int) v9 h10))) (rfl : ([1, 3] : List Nat) = [1, 3])) (And.intro (rfl : (spec_DrawReachedBy_x1 v3 v5 v7 v9) = (spec_DrawReachedBy_x1 v3 v5 v7 v9)) True.intro)))))))))))))))))))))))))))))))))))))))))))) (by kernel_rfl)

-- loop.example/g03014/impl.ReachedBy
def impl_ReachedBy_L1_b (a3 : Int) (v1 : (List ByteArray)) (v3 : (List Int)) (s5 : (List ByteArray)) (s6 : Int) : Option (Ctl ((List ByteArray) × Int) (List ByteArray) (List ByteArray)) :=
  bif (decide (s6 < (v3.length : Int))) then
  (gi v3 s6).bind fun v9 =>
  bif (v9 != (-1)) then
  bif (decide (v9 ≤ a3)) then
  (gi v1 s6).bind fun v13 =>
  (ap 16 s5 ([v13] : List ByteArray)).bind fun v15 =>
  some (.next (v15, w64 (s6 + 1)))
  else
  some (.next (s5, w64 (s6 + 1)))
  else
  some (.next (s5, w64 (s6 + 1)))
  else
  some (.brk s5)
def impl_ReachedBy_L1 (a3 : Int) (v1 : (List ByteArray)) (v3 : (List Int)) (s : (List ByteArray) × Int) : Option (Ctl ((List ByteArray) × Int) (List ByteArray) (List ByteArray)) := impl_ReachedBy_L1_b a3 v1 v3 s.1 s.2
def impl_ReachedBy_L1_s (a3 : Int) (v1 : (List ByteArray)) (v3 : (List Int)) (s5 : (List ByteArray)) (s6 : Int) : St := ⟨[(3, .o (.c (.v (.int .i64 a3)))), (9, .o (.c (.sl 1))), (10, .o (.c (.sl 2))), (21, .o (.c (.sl 3))), (22, .o (.c (.v (.int .i64 (v3.length : Int))))), (23, .o (.c (.v (.int .i64 s6))))], [(1, .row 9 1 (v1.map encS)), (2, .row 9 1 (s5.map encS)), (3, .row 3 1 (v3.map encI))]⟩
def impl_ReachedBy_L1_S (a3 : Int) (v1 : (List ByteArray)) (v3 : (List Int)) (s : (List ByteArray) × Int) : St := impl_ReachedBy_L1_s a3 v1 v3 s.1 s.2
def impl_ReachedBy_L1_a (s7 : (List ByteArray)) : Option (List ByteArray) :=
  some s7
def impl_ReachedBy_L1_k (x : ((List ByteArray)) ⊕ ((List ByteArray))) : Option (List ByteArray) := match x with
  | .inl t => impl_ReachedBy_L1_a t
  | .inr y => some y
def impl_ReachedBy (a0 : Network) (a1 : ByteArray) (a2 : Int) (a3 : Int) : Option (List ByteArray) :=
  (impl_PlacesOf a0).bind fun v1 =>
  (impl_BestArrivals a0 a1 a2 (v1.length : Int)).bind fun v3 =>
  (loopM (impl_ReachedBy_L1 a3 v1 v3) big (([] : List ByteArray), 0)).bind (impl_ReachedBy_L1_k)
theorem impl_ReachedBy_ok (a0 : Network) (a1 : ByteArray) (a2 : Int) (a3 : Int) (r : (List ByteArray)) (hM : impl_ReachedBy a0 a1 a2 a3 = some r) :
    Con Try.prog 32 [.agg [.rs 6 (a0.Legs.map Leg.enc), .rs 1 (a0.Off.map encI), .v (.int .i64 a0.Change)], .c (.v (.string a1)), .c (.v (.int .i64 a2)), .c (.v (.int .i64 a3))] [] (.o (.c (.sl 1000))) [] [(1000, .row 9 1 (r.map encS))] := by
  unfold impl_ReachedBy at hM
  refine cn (N := 44) (pids := []) Try_mixed Try.func32 (by kernel_rfl) (by kernel_rfl) (by kernel_rfl) rfl fun ρ g w R => ?_
  obtain ⟨v1, h2, hM⟩ := bind_some hM
  obtain ⟨v3, h4, hM⟩ := bind_some hM
  have K1 : ∀ (s7 : (List ByteArray)), impl_ReachedBy_L1_a s7 = some r → Gr R [.code (cAt Try.f32 [1, 1, 1, 1])] (⟨[(10, .o (.c (.sl 2)))], [(2, .row 9 1 (s7.map encS))]⟩) := by
    intro s7 hM
    unfold impl_ReachedBy_L1_a at hM
    have hE : some s7 = some r := hM
    have hE := Option.some.inj hE
    subst hE
    exact pr R 9999 [] [.sw 2 1000] [] [1000] True.intro (by kernel_rfl)
  refine pc R 9999 [.new 0, .call false [] (.o (.c (.sl 1))) [] [(1, .row 9 1 (v1.map encS))], .new 2, .ln (v1.length), .call false [] (.o (.c (.sl 3))) [] [(3, .row 3 1 (v3.map encI))], .ln (v3.length)] [.keep [3, 9, 10, 21, 22, 23] [1, 2, 3]] (k' := [.code (.loop (cAt Try.f32 [1, 1, 1, 0, 1, 0, 0])), .blk 0, .code (cAt Try.f32 [1, 1, 1, 1])]) (S' := impl_ReachedBy_L1_S a3 v1 v3 (([] : List ByteArray), 0)) (And.intro (And.intro (con_sw 1000 1 (impl_PlacesOf_ok a0 v1 h2)) (rfl : ([] : List Nat) = [])) (And.intro (lenm encS v1) (And.intro (And.intro (con_sw 1000 3 (impl_BestArrivals_ok a0 a1 a2 (v1.length : Int) v3 h4)) (rfl : ([] : List Nat) = [])) (And.intro (lenm encI v3) True.intro)))) (by kernel_rfl) ?_
  refine lq (impl_ReachedBy_L1_S a3 v1 v3) (body := impl_ReachedBy_L1 a3 v1 v3) (k := impl_ReachedBy_L1_k) hM fun m1 s c1 hM hK1 => ?_
  obtain ⟨s5, s6⟩ := s
  have hM : impl_ReachedBy_L1_b a3 v1 v3 s5 s6 = some c1 := hM
  unfold impl_ReachedBy_L1_b at hM
  rcases cond_cases hM with ⟨h8, hM⟩ | ⟨h8, hM⟩
  · obtain ⟨v9, h10, hM⟩ := bind_some hM
    rcases cond_cases hM with ⟨h11, hM⟩ | ⟨h11, hM⟩
    · rcases cond_cases hM with ⟨h12, hM⟩ | ⟨h12, hM⟩
      · obtain ⟨v13, h14, hM⟩ := bind_some hM
        obtain ⟨v15, h16, hM⟩ := bind_some hM
        have hE : some (Ctl.next (v15, w64 (s6 + 1))) = some c1 := hM
        have hE := Option.some.inj hE
        subst hE
        exact pc R 9999 [.as 24 true, .ix (encI v9), .as 30 true, .as 34 true, .ix (encS v13), .new 4, .new 5, .nm (v15.map encS)] [.sw 5 2, .keep [3, 9, 10, 21, 22, 23] [1, 2, 3]] (And.intro h8 (And.intro (gi_lt encI h10) (And.intro ((gi_map encI h10).2) (And.intro h11 (And.intro h12 (And.intro (gi_lt encS h14) (And.intro ((gi_map encS h14).2) (And.intro (ap_ok encS h16) True.intro)))))))) (by kernel_rfl) (li (Sf := impl_ReachedBy_L1_S a3 v1 v3) (M := Mk (impl_ReachedBy_L1 a3 v1 v3) (impl_ReachedBy_L1_k) r) (k := [.blk 0, .code (cAt Try.f32 [1, 1, 1, 1])]) (Nat.lt_succ_self m1) hK1)
      · have hE : some (Ctl.next (s5, w64 (s6 + 1))) = some c1 := hM
        have hE := Option.some.inj hE
        subst hE
        exact pc R 9999 [.as 24 true, .ix (encI v9), .as 30 true, .as 34 false] [.keep [3, 9, 10, 21, 22, 23] [1, 2, 3]] (And.intro h8 (And.intro (gi_lt encI h10) (And.intro ((gi_map encI h10).2) (And.intro h11 (And.intro h12 True.intro))))) (by kernel_rfl) (li (Sf := impl_ReachedBy_L1_S a3 v1 v3) (M := Mk (impl_ReachedBy_L1 a3 v1 v3) (impl_ReachedBy_L1_k) r) (k := [.blk 0, .code (cAt Try.f32 [1, 1, 1, 1])]) (Nat.lt_succ_self m1) hK1)
    · have hE : some (Ctl.next (s5, w64 (s6 + 1))) = some c1 := hM
      have hE := Option.some.inj hE
      subst hE
      exact pc R 9999 [.as 24 true, .ix (encI v9), .as 30 false] [.keep [3, 9, 10, 21, 22, 23] [1, 2, 3]] (And.intro h8 (And.intro (gi_lt encI h10) (And.intro ((gi_map encI h10).2) (And.intro h11 True.intro)))) (by kernel_rfl) (li (Sf := impl_ReachedBy_L1_S a3 v1 v3) (M := Mk (impl_ReachedBy_L1 a3 v1 v3) (impl_ReachedBy_L1_k) r) (k := [.blk 0, .code (cAt Try.f32 [1, 1, 1, 1])]) (Nat.lt_succ_self m1) hK1)
  · have hE : some (Ctl.brk s5) = some c1 := hM
    have hE := Option.some.inj hE
    subst hE
    exact pc R 5 [.as 24 false] [.keep [10] [2]] (And.intro h8 True.intro) (by kernel_rfl) (K1 s5 hK1)

-- loop.example/g03014/impl.LastTrip
def impl_LastTrip_L1_b (a0 : Network) (a1 : Int) (a2 : Int) (s4 : Int) : Option (Ctl Int Unit (Trip × Bool)) :=
  bif (decide (s4 ≥ 0)) then
  (impl_runs a0 a1 s4).bind fun v6 =>
  bif v6 then
  (impl_ends a0 (Trip.mk ((Trip.mk a1 s4).Leg) ((Trip.mk a1 s4).Day))).bind fun v9 =>
  bif (decide (v9 ≤ a2)) then
  some (.ret ((Trip.mk ((Trip.mk ((Trip.mk a1 s4).Leg) ((Trip.mk a1 s4).Day)).Leg) ((Trip.mk ((Trip.mk a1 s4).Leg) ((Trip.mk a1 s4).Day)).Day)), true))
  else
  some (.next (w64 (s4 - 1)))
  else
  some (.next (w64 (s4 - 1)))
  else
  some (.brk ())
def impl_LastTrip_L1 (a0 : Network) (a1 : Int) (a2 : Int) (s : Int) : Option (Ctl Int Unit (Trip × Bool)) := impl_LastTrip_L1_b a0 a1 a2 s
def impl_LastTrip_L1_s (a0 : Network) (a1 : Int) (a2 : Int) (s4 : Int) : St := ⟨[(1, .o (.c (.v (.int .i64 a1)))), (2, .o (.c (.v (.int .i64 a2)))), (3, .o (.c (.ptr 0 0))), (6, .o (.c (.ptr 1 0))), (8, .o (.c (.v (.int .i64 s4))))], [(0, .box 27 [.rs 6 (a0.Legs.map Leg.enc), .rs 1 (a0.Off.map encI), .v (.int .i64 a0.Change)]), (1, .box 32 [.v (.int .i64 0), .v (.int .i64 0)])]⟩
def impl_LastTrip_L1_S (a0 : Network) (a1 : Int) (a2 : Int) (s : Int) : St := impl_LastTrip_L1_s a0 a1 a2 s
def impl_LastTrip_L1_a : Option (Trip × Bool) :=
  some ((Trip.mk ((Trip.mk 0 0).Leg) ((Trip.mk 0 0).Day)), false)
def impl_LastTrip_L1_k (x : (Unit) ⊕ (Trip × Bool)) : Option (Trip × Bool) := match x with
  | .inl t => impl_LastTrip_L1_a
  | .inr y => some y
def impl_LastTrip (a0 : Network) (a1 : Int) (a2 : Int) : Option (Trip × Bool) :=
  (impl_IsNetwork a0).bind fun v1 =>
  bif (!v1) then
  some ((Trip.mk ((Trip.mk 0 0).Leg) ((Trip.mk 0 0).Day)), false)
  else
  (loopM (impl_LastTrip_L1 a0 a1 a2) big 60).bind (impl_LastTrip_L1_k)
theorem impl_LastTrip_ok (a0 : Network) (a1 : Int) (a2 : Int) (r : Trip × Bool) (hM : impl_LastTrip a0 a1 a2 = some r) :
    Con Try.prog 85 [.agg [.rs 6 (a0.Legs.map Leg.enc), .rs 1 (a0.Off.map encI), .v (.int .i64 a0.Change)], .c (.v (.int .i64 a1)), .c (.v (.int .i64 a2))] [] (.tup [.c (.v (.agg (Trip.enc r.1).toArray)), .c (.v (.bool r.2))]) [] [] := by
  unfold impl_LastTrip at hM
  refine cn (N := 34) (pids := []) Try_mixed Try.func85 (by kernel_rfl) (by kernel_rfl) (by kernel_rfl) rfl fun ρ g w R => ?_
  obtain ⟨v1, h2, hM⟩ := bind_some hM
  rcases cond_cases hM with ⟨h3, hM⟩ | ⟨h3, hM⟩
  · have hE : some ((Trip.mk ((Trip.mk 0 0).Leg) ((Trip.mk 0 0).Day)), false) = some r := hM
    have hE := Option.some.inj hE
    subst hE
    exact pr R 9999 [.new 0, .new 1, .call false [] (.o (.c (.v (.bool v1)))) [] [], .as 12 true] [] [] [] (And.intro (impl_IsNetwork_ok a0 v1 h2) (And.intro h3 True.intro)) (by kernel_rfl)
  · have K1 : ∀ (_ : Unit), impl_LastTrip_L1_a = some r → Gr R [.code (cAt Try.f85 [1, 1, 1])] (⟨[(6, .o (.c (.ptr 1 0)))], [(1, .box 32 [.v (.int .i64 0), .v (.int .i64 0)])]⟩) := by
      intro _ hM
      unfold impl_LastTrip_L1_a at hM
      have hE : some ((Trip.mk ((Trip.mk 0 0).Leg) ((Trip.mk 0 0).Day)), false) = some r := hM
      have hE := Option.some.inj hE
      subst hE
      exact pr R 9999 [] [] [] [] True.intro (by kernel_rfl)
    refine pc R 9999 [.new 0, .new 1, .call false [] (.o (.c (.v (.bool v1)))) [] [], .as 12 false] [.keep [1, 2, 3, 6, 8] [0, 1]] (k' := [.code (.loop (cAt Try.f85 [1, 1, 0, 1, 0, 0])), .blk 0, .code (cAt Try.f85 [1, 1, 1])]) (S' := impl_LastTrip_L1_S a0 a1 a2 60) (And.intro (impl_IsNetwork_ok a0 v1 h2) (And.intro h3 True.intro)) (by kernel_rfl) ?_
    refine lq (impl_LastTrip_L1_S a0 a1 a2) (body := impl_LastTrip_L1 a0 a1 a2) (k := impl_LastTrip_L1_k) hM fun m1 s c1 hM hK1 => ?_
    obtain ⟨s4, hs⟩ : ∃ z, z = s := ⟨_, rfl⟩
    subst hs
    have hM : impl_LastTrip_L1_b a0 a1 a2 s4 = some c1 := hM
    unfold impl_LastTrip_L1_b at hM
    rcases cond_cases hM with ⟨h5, hM⟩ | ⟨h5, hM⟩
    · obtain ⟨v6, h7, hM⟩ := bind_some hM
      rcases cond_cases hM with ⟨h8, hM⟩ | ⟨h8, hM⟩
      · obtain ⟨v9, h10, hM⟩ := bind_some hM
        rcases cond_cases hM with ⟨h11, hM⟩ | ⟨h11, hM⟩
        · have hE : some (Ctl.ret ((Trip.mk ((Trip.mk ((Trip.mk a1 s4).Leg) ((Trip.mk a1 s4).Day)).Leg) ((Trip.mk ((Trip.mk a1 s4).Leg) ((Trip.mk a1 s4).Day)).Day)), true)) = some c1 := hM
          have hE := Option.some.inj hE
          subst hE
          have hE : some ((Trip.mk ((Trip.mk ((Trip.mk a1 s4).Leg) ((Trip.mk a1 s4).Day)).Leg) ((Trip.mk ((Trip.mk a1 s4).Leg) ((Trip.mk a1 s4).Day)).Day)), true) = some r := hK1
          have hE := Option.some.inj hE
          subst hE
          exact pr R 9999 [.as 15 true, .new 2, .call false [] (.o (.c (.v (.bool v6)))) [] [], .as 25 true, .call false [] (.o (.c (.v (.int .i64 v9)))) [] [], .as 31 true] [] [] [] (And.intro h5 (And.intro (impl_runs_ok a0 a1 s4 v6 h7) (And.intro h8 (And.intro (impl_ends_ok a0 (Trip.mk ((Trip.mk a1 s4).Leg) ((Trip.mk a1 s4).Day)) v9 h10) (And.intro h11 True.intro))))) (by kernel_rfl)
        · have hE : some (Ctl.next (w64 (s4 - 1))) = some c1 := hM
          have hE := Option.some.inj hE
          subst hE
          exact pc R 9999 [.as 15 true, .new 2, .call false [] (.o (.c (.v (.bool v6)))) [] [], .as 25 true, .call false [] (.o (.c (.v (.int .i64 v9)))) [] [], .as 31 false] [.keep [1, 2, 3, 6, 8] [0, 1]] (And.intro h5 (And.intro (impl_runs_ok a0 a1 s4 v6 h7) (And.intro h8 (And.intro (impl_ends_ok a0 (Trip.mk ((Trip.mk a1 s4).Leg) ((Trip.mk a1 s4).Day)) v9 h10) (And.intro h11 True.intro))))) (by kernel_rfl) (li (Sf := impl_LastTrip_L1_S a0 a1 a2) (M := Mk (impl_LastTrip_L1 a0 a1 a2) (impl_LastTrip_L1_k) r) (k := [.blk 0, .code (cAt Try.f85 [1, 1, 1])]) (Nat.lt_succ_self m1) hK1)
      · have hE : some (Ctl.next (w64 (s4 - 1))) = some c1 := hM
        have hE := Option.some.inj hE
        subst hE
        exact pc R 9999 [.as 15 true, .new 2, .call false [] (.o (.c (.v (.bool v6)))) [] [], .as 25 false] [.keep [1, 2, 3, 6, 8] [0, 1]] (And.intro h5 (And.intro (impl_runs_ok a0 a1 s4 v6 h7) (And.intro h8 True.intro))) (by kernel_rfl) (li (Sf := impl_LastTrip_L1_S a0 a1 a2) (M := Mk (impl_LastTrip_L1 a0 a1 a2) (impl_LastTrip_L1_k) r) (k := [.blk 0, .code (cAt Try.f85 [1, 1, 1])]) (Nat.lt_succ_self m1) hK1)
    · have hE : some (Ctl.brk ()) = some c1 := hM
      have hE := Option.some.inj hE
      subst hE
      exact pc R 5 [.as 15 false] [.keep [6] [1]] (And.intro h5 True.intro) (by kernel_rfl) (K1 () hK1)

-- loop.example/g03014/impl.LatestStarts
def impl_LatestStarts_j1 (a0 : Network) (s19 : (List Int)) (s20 : Bool) (s21 : Int) (v27 : Int) (s37 : Int) : Option (Ctl ((List Int) × Bool × Int) ((List Int) × Bool) (List Int)) :=
  (impl_LastTrip a0 s21 s37).bind fun v38 =>
  bif v38.2 then
  (impl_starts a0 v38.1).bind fun v41 =>
  (gi s19 v27).bind fun v43 =>
  bif (decide (v41 > v43)) then
  (impl_starts a0 v38.1).bind fun v46 =>
  (gi s19 v27).bind fun v48 =>
  some (.next (List.set s19 (Int.toNat v27) v46, true, w64 (s21 + 1)))
  else
  some (.next (s19, s20, w64 (s21 + 1)))
  else
  some (.next (s19, s20, w64 (s21 + 1)))
def impl_LatestStarts_L3_b (a0 : Network) (a2 : Int) (v1 : (List ByteArray)) (v3 : Int) (s19 : (List Int)) (s20 : Bool) (s21 : Int) : Option (Ctl ((List Int) × Bool × Int) ((List Int) × Bool) (List Int)) :=
  bif (decide (s21 < (a0.Legs.length : Int))) then
  (gi a0.Legs s21).bind fun v25 =>
  (impl_placeAt v1 v25.From).bind fun v27 =>
  (impl_placeAt v1 v25.To).bind fun v29 =>
  (gi s19 v29).bind fun v31 =>
  bif (decide (v31 < 0)) then
  some (.next (s19, s20, w64 (s21 + 1)))
  else
  bif (v27 == v3) then
  some (.next (s19, s20, w64 (s21 + 1)))
  else
  (gi s19 v29).bind fun v35 =>
  bif (v29 == v3) then
  impl_LatestStarts_j1 a0 s19 s20 s21 v27 a2
  else
  impl_LatestStarts_j1 a0 s19 s20 s21 v27 (w64 (v35 - a0.Change))
  else
  some (.brk (s19, s20))
def impl_LatestStarts_L3 (a0 : Network) (a2 : Int) (v1 : (List ByteArray)) (v3 : Int) (s : (List Int) × Bool × Int) : Option (Ctl ((List Int) × Bool × Int) ((List Int) × Bool) (List Int)) := impl_LatestStarts_L3_b a0 a2 v1 v3 s.1 s.2.1 s.2.2
def impl_LatestStarts_L3_s (a0 : Network) (a2 : Int) (v1 : (List ByteArray)) (v3 : Int) (s19 : (List Int)) (s20 : Bool) (s21 : Int) : St := ⟨[(2, .o (.c (.v (.int .i64 a2)))), (3, .o (.c (.ptr 0 0))), (7, .o (.c (.sl 1))), (8, .o (.c (.v (.int .i64 v3)))), (9, .o (.c (.sl 2))), (10, .o (.c (.v (.bool s20)))), (49, .o (.c (.rs 6 (a0.Legs.map Leg.enc)))), (50, .o (.c (.v (.int .i64 (a0.Legs.length : Int))))), (51, .o (.c (.v (.int .i64 s21))))], [(0, .box 27 [.rs 6 (a0.Legs.map Leg.enc), .rs 1 (a0.Off.map encI), .v (.int .i64 a0.Change)]), (1, .row 9 1 (v1.map encS)), (2, .row 3 1 (s19.map encI))]⟩
def impl_LatestStarts_L3_S (a0 : Network) (a2 : Int) (v1 : (List ByteArray)) (v3 : Int) (s : (List Int) × Bool × Int) : St := impl_LatestStarts_L3_s a0 a2 v1 v3 s.1 s.2.1 s.2.2
def impl_LatestStarts_L3_a (s22 : (List Int)) (s23 : Bool) : Option (Ctl ((List Int) × Bool) (List Int) (List Int)) :=
  some (.next (s22, s23))
def impl_LatestStarts_L3_k (x : ((List Int) × Bool) ⊕ ((List Int))) : Option (Ctl ((List Int) × Bool) (List Int) (List Int)) := match x with
  | .inl t => impl_LatestStarts_L3_a t.1 t.2
  | .inr y => some (.ret y)
def impl_LatestStarts_L2_b (a0 : Network) (a2 : Int) (v1 : (List ByteArray)) (v3 : Int) (s15 : (List Int)) (s16 : Bool) : Option (Ctl ((List Int) × Bool) (List Int) (List Int)) :=
  bif s16 then
  (loopM (impl_LatestStarts_L3 a0 a2 v1 v3) big (s15, false, 0)).bind (impl_LatestStarts_L3_k)
  else
  some (.brk s15)
def impl_LatestStarts_L2 (a0 : Network) (a2 : Int) (v1 : (List ByteArray)) (v3 : Int) (s : (List Int) × Bool) : Option (Ctl ((List Int) × Bool) (List Int) (List Int)) := impl_LatestStarts_L2_b a0 a2 v1 v3 s.1 s.2
def impl_LatestStarts_L2_s (a0 : Network) (a2 : Int) (v1 : (List ByteArray)) (v3 : Int) (s15 : (List Int)) (s16 : Bool) : St := ⟨[(2, .o (.c (.v (.int .i64 a2)))), (3, .o (.c (.ptr 0 0))), (7, .o (.c (.sl 1))), (8, .o (.c (.v (.int .i64 v3)))), (9, .o (.c (.sl 2))), (10, .o (.c (.v (.bool s16))))], [(0, .box 27 [.rs 6 (a0.Legs.map Leg.enc), .rs 1 (a0.Off.map encI), .v (.int .i64 a0.Change)]), (1, .row 9 1 (v1.map encS)), (2, .row 3 1 (s15.map encI))]⟩
def impl_LatestStarts_L2_S (a0 : Network) (a2 : Int) (v1 : (List ByteArray)) (v3 : Int) (s : (List Int) × Bool) : St := impl_LatestStarts_L2_s a0 a2 v1 v3 s.1 s.2
def impl_LatestStarts_L2_a (s17 : (List Int)) : Option (List Int) :=
  some s17
def impl_LatestStarts_L2_k (x : ((List Int)) ⊕ ((List Int))) : Option (List Int) := match x with
  | .inl t => impl_LatestStarts_L2_a t
  | .inr y => some y
def impl_LatestStarts_L1_b (v1 : (List ByteArray)) (s10 : (List Int)) (s11 : Int) : Option (Ctl ((List Int) × Int) (List Int) (List Int)) :=
  bif (decide (s11 < (v1.length : Int))) then
  (ap 8 s10 ([(-1)] : List Int)).bind fun v52 =>
  some (.next (v52, w64 (s11 + 1)))
  else
  some (.brk s10)
def impl_LatestStarts_L1 (v1 : (List ByteArray)) (s : (List Int) × Int) : Option (Ctl ((List Int) × Int) (List Int) (List Int)) := impl_LatestStarts_L1_b v1 s.1 s.2
def impl_LatestStarts_L1_s (a0 : Network) (a2 : Int) (v1 : (List ByteArray)) (v3 : Int) (s10 : (List Int)) (s11 : Int) : St := ⟨[(2, .o (.c (.v (.int .i64 a2)))), (3, .o (.c (.ptr 0 0))), (7, .o (.c (.sl 1))), (8, .o (.c (.v (.int .i64 v3)))), (9, .o (.c (.sl 2))), (36, .o (.c (.v (.int .i64 (v1.length : Int))))), (37, .o (.c (.v (.int .i64 s11))))], [(0, .box 27 [.rs 6 (a0.Legs.map Leg.enc), .rs 1 (a0.Off.map encI), .v (.int .i64 a0.Change)]), (1, .row 9 1 (v1.map encS)), (2, .row 3 1 (s10.map encI))]⟩
def impl_LatestStarts_L1_S (a0 : Network) (a2 : Int) (v1 : (List ByteArray)) (v3 : Int) (s : (List Int) × Int) : St := impl_LatestStarts_L1_s a0 a2 v1 v3 s.1 s.2
def impl_LatestStarts_L1_a (a0 : Network) (a2 : Int) (v1 : (List ByteArray)) (v3 : Int) (s12 : (List Int)) : Option (List Int) :=
  (gi s12 v3).bind fun v13 =>
  (loopM (impl_LatestStarts_L2 a0 a2 v1 v3) big (List.set s12 (Int.toNat v3) a2, true)).bind (impl_LatestStarts_L2_k)
def impl_LatestStarts_L1_k (a0 : Network) (a2 : Int) (v1 : (List ByteArray)) (v3 : Int) (x : ((List Int)) ⊕ ((List Int))) : Option (List Int) := match x with
  | .inl t => impl_LatestStarts_L1_a a0 a2 v1 v3 t
  | .inr y => some y
def impl_LatestStarts (a0 : Network) (a1 : ByteArray) (a2 : Int) : Option (List Int) :=
  (impl_PlacesOf a0).bind fun v1 =>
  (impl_placeAt v1 a1).bind fun v3 =>
  (impl_IsNetwork a0).bind fun v5 =>
  bif (!v5) then
  some ([] : List Int)
  else
  bif (decide (v3 < 0)) then
  some ([] : List Int)
  else
  bif (decide (a2 < 0)) then
  some ([] : List Int)
  else
  (loopM (impl_LatestStarts_L1 v1) big (([] : List Int), 0)).bind (impl_LatestStarts_L1_k a0 a2 v1 v3)
theorem impl_LatestStarts_ok (a0 : Network) (a1 : ByteArray) (a2 : Int) (r : (List Int)) (hM : impl_LatestStarts a0 a1 a2 = some r) :
    Con Try.prog 63 [.agg [.rs 6 (a0.Legs.map Leg.enc), .rs 1 (a0.Off.map encI), .v (.int .i64 a0.Change)], .c (.v (.string a1)), .c (.v (.int .i64 a2))] [] (.o (.c (.sl 1000))) [] [(1000, .row 3 1 (r.map encI))] := by
  unfold impl_LatestStarts at hM
  refine cn (N := 111) (pids := []) Try_mixed Try.func63 (by kernel_rfl) (by kernel_rfl) (by kernel_rfl) rfl fun ρ g w R => ?_
  obtain ⟨v1, h2, hM⟩ := bind_some hM
  obtain ⟨v3, h4, hM⟩ := bind_some hM
  obtain ⟨v5, h6, hM⟩ := bind_some hM
  rcases cond_cases hM with ⟨h7, hM⟩ | ⟨h7, hM⟩
  · have hE : some ([] : List Int) = some r := hM
    have hE := Option.some.inj hE
    subst hE
    exact pr R 9999 [.new 0, .call false [] (.o (.c (.sl 1))) [] [(1, .row 9 1 (v1.map encS))], .call false [] (.o (.c (.v (.int .i64 v3)))) [] [], .call false [] (.o (.c (.v (.bool v5)))) [] [], .as 26 true] [.nl 6 1000 3 1] [] [1000] (And.intro (And.intro (con_sw 1000 1 (impl_PlacesOf_ok a0 v1 h2)) (rfl : ([] : List Nat) = [])) (And.intro (impl_placeAt_ok v1 a1 v3 h4) (And.intro (impl_IsNetwork_ok a0 v5 h6) (And.intro h7 True.intro)))) (by kernel_rfl)
  · rcases cond_cases hM with ⟨h8, hM⟩ | ⟨h8, hM⟩
    · have hE : some ([] : List Int) = some r := hM
      have hE := Option.some.inj hE
      subst hE
      exact pr R 9999 [.new 0, .call false [] (.o (.c (.sl 1))) [] [(1, .row 9 1 (v1.map encS))], .call false [] (.o (.c (.v (.int .i64 v3)))) [] [], .call false [] (.o (.c (.v (.bool v5)))) [] [], .as 26 false, .as 30 true] [.nl 6 1000 3 1] [] [1000] (And.intro (And.intro (con_sw 1000 1 (impl_PlacesOf_ok a0 v1 h2)) (rfl : ([] : List Nat) = [])) (And.intro (impl_placeAt_ok v1 a1 v3 h4) (And.intro (impl_IsNetwork_ok a0 v5 h6) (And.intro h7 (And.intro h8 True.intro))))) (by kernel_rfl)
    · rcases cond_cases hM with ⟨h9, hM⟩ | ⟨h9, hM⟩
      · have hE : some ([] : List Int) = some r := hM
        have hE := Option.some.inj hE
        subst hE
        exact pr R 9999 [.new 0, .call false [] (.o (.c (.sl 1))) [] [(1, .row 9 1 (v1.map encS))], .call false [] (.o (.c (.v (.int .i64 v3)))) [] [], .call false [] (.o (.c (.v (.bool v5)))) [] [], .as 26 false, .as 30 false, .as 33 true] [.nl 6 1000 3 1] [] [1000] (And.intro (And.intro (con_sw 1000 1 (impl_PlacesOf_ok a0 v1 h2)) (rfl : ([] : List Nat) = [])) (And.intro (impl_placeAt_ok v1 a1 v3 h4) (And.intro (impl_IsNetwork_ok a0 v5 h6) (And.intro h7 (And.intro h8 (And.intro h9 True.intro)))))) (by kernel_rfl)
      · have K1 : ∀ (s12 : (List Int)), impl_LatestStarts_L1_a a0 a2 v1 v3 s12 = some r → Gr R [.code (cAt Try.f63 [1, 1, 1, 1, 1, 1])] (⟨[(2, .o (.c (.v (.int .i64 a2)))), (3, .o (.c (.ptr 0 0))), (7, .o (.c (.sl 1))), (8, .o (.c (.v (.int .i64 v3)))), (9, .o (.c (.sl 2)))], [(0, .box 27 [.rs 6 (a0.Legs.map Leg.enc), .rs 1 (a0.Off.map encI), .v (.int .i64 a0.Change)]), (1, .row 9 1 (v1.map encS)), (2, .row 3 1 (s12.map encI))]⟩) := by
          intro s12 hM
          unfold impl_LatestStarts_L1_a at hM
          obtain ⟨v13, h14, hM⟩ := bind_some hM
          have K2 : ∀ (s17 : (List Int)), impl_LatestStarts_L2_a s17 = some r → Gr R [.code (cAt Try.f63 [1, 1, 1, 1, 1, 1, 1, 1])] (⟨[(9, .o (.c (.sl 2)))], [(2, .row 3 1 (s17.map encI))]⟩) := by
            intro s17 hM
            unfold impl_LatestStarts_L2_a at hM
            have hE : some s17 = some r := hM
            have hE := Option.some.inj hE
            subst hE
            exact pr R 9999 [] [.sw 2 1000] [] [1000] True.intro (by kernel_rfl)
          refine pc R 9999 [.ix (encI v13), .nm ((List.set s12 (Int.toNat v3) a2).map encI)] [.keep [2, 3, 7, 8, 9, 10] [0, 1, 2]] (k' := [.code (.loop (cAt Try.f63 [1, 1, 1, 1, 1, 1, 1, 0, 1, 0, 0])), .blk 2, .code (cAt Try.f63 [1, 1, 1, 1, 1, 1, 1, 1])]) (S' := impl_LatestStarts_L2_S a0 a2 v1 v3 (List.set s12 (Int.toNat v3) a2, true)) (And.intro (gi_lt encI h14) (And.intro (And.intro (gi_map encI h14).2 (set_map encI s12 (Int.toNat v3) a2)) True.intro)) (by kernel_rfl) ?_
          refine lq (impl_LatestStarts_L2_S a0 a2 v1 v3) (body := impl_LatestStarts_L2 a0 a2 v1 v3) (k := impl_LatestStarts_L2_k) hM fun m2 s c2 hM hK2 => ?_
          obtain ⟨s15, s16⟩ := s
          have hM : impl_LatestStarts_L2_b a0 a2 v1 v3 s15 s16 = some c2 := hM
          unfold impl_LatestStarts_L2_b at hM
          rcases cond_cases hM with ⟨h18, hM⟩ | ⟨h18, hM⟩
          · have K3 : ∀ (s22 : (List Int)) (s23 : Bool), impl_LatestStarts_L3_a s22 s23 = some c2 → Gr R [.blk 3, .inv (Jr R (impl_LatestStarts_L2_S a0 a2 v1 v3) (Mk (impl_LatestStarts_L2 a0 a2 v1 v3) (impl_LatestStarts_L2_k) r) (m2 + 1)), .blk 2, .code (cAt Try.f63 [1, 1, 1, 1, 1, 1, 1, 1])] (⟨[(2, .o (.c (.v (.int .i64 a2)))), (3, .o (.c (.ptr 0 0))), (7, .o (.c (.sl 1))), (8, .o (.c (.v (.int .i64 v3)))), (9, .o (.c (.sl 2))), (10, .o (.c (.v (.bool s23))))], [(0, .box 27 [.rs 6 (a0.Legs.map Leg.enc), .rs 1 (a0.Off.map encI), .v (.int .i64 a0.Change)]), (1, .row 9 1 (v1.map encS)), (2, .row 3 1 (s22.map encI))]⟩) := by
              intro s22 s23 hM
              unfold impl_LatestStarts_L3_a at hM
              have hE : some (Ctl.next (s22, s23)) = some c2 := hM
              have hE := Option.some.inj hE
              subst hE
              exact pc R 9999 [] [.keep [2, 3, 7, 8, 9, 10] [0, 1, 2]] True.intro (by kernel_rfl) (li (Sf := impl_LatestStarts_L2_S a0 a2 v1 v3) (M := Mk (impl_LatestStarts_L2 a0 a2 v1 v3) (impl_LatestStarts_L2_k) r) (k := [.blk 2, .code (cAt Try.f63 [1, 1, 1, 1, 1, 1, 1, 1])]) (Nat.lt_succ_self m2) hK2)
            refine pc R 9999 [.as 47 true, .ln (a0.Legs.length)] [.keep [2, 3, 7, 8, 9, 10, 49, 50, 51] [0, 1, 2]] (k' := [.code (.loop (cAt Try.f63 [1, 1, 1, 1, 1, 1, 1, 0, 1, 0, 0, 1, 0, 1, 1, 0, 0])), .blk 4, .blk 3, .inv (Jr R (impl_LatestStarts_L2_S a0 a2 v1 v3) (Mk (impl_LatestStarts_L2 a0 a2 v1 v3) (impl_LatestStarts_L2_k) r) (m2 + 1)), .blk 2, .code (cAt Try.f63 [1, 1, 1, 1, 1, 1, 1, 1])]) (S' := impl_LatestStarts_L3_S a0 a2 v1 v3 (s15, false, 0)) (And.intro h18 (And.intro (lenm Leg.enc a0.Legs) True.intro)) (by kernel_rfl) ?_
            refine lq (impl_LatestStarts_L3_S a0 a2 v1 v3) (body := impl_LatestStarts_L3 a0 a2 v1 v3) (k := impl_LatestStarts_L3_k) hM fun m3 s c3 hM hK3 => ?_
            obtain ⟨s19, s20, s21⟩ := s
            have hM : impl_LatestStarts_L3_b a0 a2 v1 v3 s19 s20 s21 = some c3 := hM
            unfold impl_LatestStarts_L3_b at hM
            rcases cond_cases hM with ⟨h24, hM⟩ | ⟨h24, hM⟩
            · obtain ⟨v25, h26, hM⟩ := bind_some hM
              obtain ⟨v27, h28, hM⟩ := bind_some hM
              obtain ⟨v29, h30, hM⟩ := bind_some hM
              obtain ⟨v31, h32, hM⟩ := bind_some hM
              rcases cond_cases hM with ⟨h33, hM⟩ | ⟨h33, hM⟩
              · have hE : some (Ctl.next (s19, s20, w64 (s21 + 1))) = some c3 := hM
                have hE := Option.some.inj hE
                subst hE
                exact pc R 9999 [.as 52 true, .ix (Leg.enc v25), .new 3, .call false [] (.o (.c (.v (.int .i64 v27)))) [] [], .call false [] (.o (.c (.v (.int .i64 v29)))) [] [], .ix (encI v31), .as 69 true] [.keep [2, 3, 7, 8, 9, 10, 49, 50, 51] [0, 1, 2]] (And.intro h24 (And.intro (gi_map Leg.enc h26) (And.intro (impl_placeAt_ok v1 v25.From v27 h28) (And.intro (impl_placeAt_ok v1 v25.To v29 h30) (And.intro (gi_lt encI h32) (And.intro ((gi_map encI h32).2) (And.intro h33 True.intro))))))) (by kernel_rfl) (li (Sf := impl_LatestStarts_L3_S a0 a2 v1 v3) (M := Mk (impl_LatestStarts_L3 a0 a2 v1 v3) (impl_LatestStarts_L3_k) c2) (k := [.blk 4, .blk 3, .inv (Jr R (impl_LatestStarts_L2_S a0 a2 v1 v3) (Mk (impl_LatestStarts_L2 a0 a2 v1 v3) (impl_LatestStarts_L2_k) r) (m2 + 1)), .blk 2, .code (cAt Try.f63 [1, 1, 1, 1, 1, 1, 1, 1])]) (Nat.lt_succ_self m3) hK3)
              · rcases cond_cases hM with ⟨h34, hM⟩ | ⟨h34, hM⟩
                · have hE : some (Ctl.next (s19, s20, w64 (s21 + 1))) = some c3 := hM
                  have hE := Option.some.inj hE
                  subst hE
                  exact pc R 9999 [.as 52 true, .ix (Leg.enc v25), .new 3, .call false [] (.o (.c (.v (.int .i64 v27)))) [] [], .call false [] (.o (.c (.v (.int .i64 v29)))) [] [], .ix (encI v31), .as 69 false, .as 73 true] [.keep [2, 3, 7, 8, 9, 10, 49, 50, 51] [0, 1, 2]] (And.intro h24 (And.intro (gi_map Leg.enc h26) (And.intro (impl_placeAt_ok v1 v25.From v27 h28) (And.intro (impl_placeAt_ok v1 v25.To v29 h30) (And.intro (gi_lt encI h32) (And.intro ((gi_map encI h32).2) (And.intro h33 (And.intro h34 True.intro)))))))) (by kernel_rfl) (li (Sf := impl_LatestStarts_L3_S a0 a2 v1 v3) (M := Mk (impl_LatestStarts_L3 a0 a2 v1 v3) (impl_LatestStarts_L3_k) c2) (k := [.blk 4, .blk 3, .inv (Jr R (impl_LatestStarts_L2_S a0 a2 v1 v3) (Mk (impl_LatestStarts_L2 a0 a2 v1 v3) (impl_LatestStarts_L2_k) r) (m2 + 1)), .blk 2, .code (cAt Try.f63 [1, 1, 1, 1, 1, 1, 1, 1])]) (Nat.lt_succ_self m3) hK3)
                · obtain ⟨v35, h36, hM⟩ := bind_some hM
                  have J1 : ∀ (s37 : Int), impl_LatestStarts_j1 a0 s19 s20 s21 v27 s37 = some c3 → Gr R [.code (cAt Try.f63 [1, 1, 1, 1, 1, 1, 1, 0, 1, 0, 0, 1, 0, 1, 1, 0, 0, 1, 1, 0, 0, 1, 1, 1, 1, 1, 1]), .blk 5, .code (cAt Try.f63 [1, 1, 1, 1, 1, 1, 1, 0, 1, 0, 0, 1, 0, 1, 1, 0, 0, 1, 1, 1]), .inv (Jr R (impl_LatestStarts_L3_S a0 a2 v1 v3) (Mk (impl_LatestStarts_L3 a0 a2 v1 v3) (impl_LatestStarts_L3_k) c2) (m3 + 1)), .blk 4, .blk 3, .inv (Jr R (impl_LatestStarts_L2_S a0 a2 v1 v3) (Mk (impl_LatestStarts_L2 a0 a2 v1 v3) (impl_LatestStarts_L2_k) r) (m2 + 1)), .blk 2, .code (cAt Try.f63 [1, 1, 1, 1, 1, 1, 1, 1])] (⟨[(2, .o (.c (.v (.int .i64 a2)))), (3, .o (.c (.ptr 0 0))), (7, .o (.c (.sl 1))), (8, .o (.c (.v (.int .i64 v3)))), (9, .o (.c (.sl 2))), (10, .o (.c (.v (.bool s20)))), (11, .o (.c (.v (.int .i64 s21)))), (13, .o (.c (.v (.int .i64 v27)))), (15, .o (.c (.v (.int .i64 s37)))), (49, .o (.c (.rs 6 (a0.Legs.map Leg.enc)))), (50, .o (.c (.v (.int .i64 (a0.Legs.length : Int))))), (51, .o (.c (.v (.int .i64 s21))))], [(0, .box 27 [.rs 6 (a0.Legs.map Leg.enc), .rs 1 (a0.Off.map encI), .v (.int .i64 a0.Change)]), (1, .row 9 1 (v1.map encS)), (2, .row 3 1 (s19.map encI))]⟩) := by
                    intro s37 hM
                    unfold impl_LatestStarts_j1 at hM
                    obtain ⟨v38, h39, hM⟩ := bind_some hM
                    rcases cond_cases hM with ⟨h40, hM⟩ | ⟨h40, hM⟩
                    · obtain ⟨v41, h42, hM⟩ := bind_some hM
                      obtain ⟨v43, h44, hM⟩ := bind_some hM
                      rcases cond_cases hM with ⟨h45, hM⟩ | ⟨h45, hM⟩
                      · obtain ⟨v46, h47, hM⟩ := bind_some hM
                        obtain ⟨v48, h49, hM⟩ := bind_some hM
                        have hE : some (Ctl.next (List.set s19 (Int.toNat v27) v46, true, w64 (s21 + 1))) = some c3 := hM
                        have hE := Option.some.inj hE
                        subst hE
                        exact pc R 9999 [.call false [] (.tup [.c (.v (.agg (Trip.enc v38.1).toArray)), .c (.v (.bool v38.2))]) [] [], .new 4, .as 93 true, .call false [] (.o (.c (.v (.int .i64 v41)))) [] [], .ix (encI v43), .as 102 true, .call false [] (.o (.c (.v (.int .i64 v46)))) [] [], .ix (encI v48), .nm ((List.set s19 (Int.toNat v27) v46).map encI)] [.keep [2, 3, 7, 8, 9, 10, 49, 50, 51] [0, 1, 2]] (And.intro (impl_LastTrip_ok a0 s21 s37 v38 h39) (And.intro h40 (And.intro (impl_starts_ok a0 v38.1 v41 h42) (And.intro (gi_lt encI h44) (And.intro ((gi_map encI h44).2) (And.intro h45 (And.intro (impl_starts_ok a0 v38.1 v46 h47) (And.intro (gi_lt encI h49) (And.intro (And.intro (gi_map encI h49).2 (set_map encI s19 (Int.toNat v27) v46)) True.intro))))))))) (by kernel_rfl) (li (Sf := impl_LatestStarts_L3_S a0 a2 v1 v3) (M := Mk (impl_LatestStarts_L3 a0 a2 v1 v3) (impl_LatestStarts_L3_k) c2) (k := [.blk 4, .blk 3, .inv (Jr R (impl_LatestStarts_L2_S a0 a2 v1 v3) (Mk (impl_LatestStarts_L2 a0 a2 v1 v3) (impl_LatestStarts_L2_k) r) (m2 + 1)), .blk 2, .code (cAt Try.f63 [1, 1, 1, 1, 1, 1, 1, 1])]) (Nat.lt_succ_self m3) hK3)
                      · have hE : some (Ctl.next (s19, s20, w64 (s21 + 1))) = some c3 := hM
                        have hE := Option.some.inj hE
                        subst hE
                        exact pc R 9999 [.call false [] (.tup [.c (.v (.agg (Trip.enc v38.1).toArray)), .c (.v (.bool v38.2))]) [] [], .new 4, .as 93 true, .call false [] (.o (.c (.v (.int .i64 v41)))) [] [], .ix (encI v43), .as 102 false] [.keep [2, 3, 7, 8, 9, 10, 49, 50, 51] [0, 1, 2]] (And.intro (impl_LastTrip_ok a0 s21 s37 v38 h39) (And.intro h40 (And.intro (impl_starts_ok a0 v38.1 v41 h42) (And.intro (gi_lt encI h44) (And.intro ((gi_map encI h44).2) (And.intro h45 True.intro)))))) (by kernel_rfl) (li (Sf := impl_LatestStarts_L3_S a0 a2 v1 v3) (M := Mk (impl_LatestStarts_L3 a0 a2 v1 v3) (impl_LatestStarts_L3_k) c2) (k := [.blk 4, .blk 3, .inv (Jr R (impl_LatestStarts_L2_S a0 a2 v1 v3) (Mk (impl_LatestStarts_L2 a0 a2 v1 v3) (impl_LatestStarts_L2_k) r) (m2 + 1)), .blk 2, .code (cAt Try.f63 [1, 1, 1, 1, 1, 1, 1, 1])]) (Nat.lt_succ_self m3) hK3)
                    · have hE : some (Ctl.next (s19, s20, w64 (s21 + 1))) = some c3 := hM
                      have hE := Option.some.inj hE
                      subst hE
                      exact pc R 9999 [.call false [] (.tup [.c (.v (.agg (Trip.enc v38.1).toArray)), .c (.v (.bool v38.2))]) [] [], .new 4, .as 93 false] [.keep [2, 3, 7, 8, 9, 10, 49, 50, 51] [0, 1, 2]] (And.intro (impl_LastTrip_ok a0 s21 s37 v38 h39) (And.intro h40 True.intro)) (by kernel_rfl) (li (Sf := impl_LatestStarts_L3_S a0 a2 v1 v3) (M := Mk (impl_LatestStarts_L3 a0 a2 v1 v3) (impl_LatestStarts_L3_k) c2) (k := [.blk 4, .blk 3, .inv (Jr R (impl_LatestStarts_L2_S a0 a2 v1 v3) (Mk (impl_LatestStarts_L2 a0 a2 v1 v3) (impl_LatestStarts_L2_k) r) (m2 + 1)), .blk 2, .code (cAt Try.f63 [1, 1, 1, 1, 1, 1, 1, 1])]) (Nat.lt_succ_self m3) hK3)
                  rcases cond_cases hM with ⟨h50, hM⟩ | ⟨h50, hM⟩
                  · exact pc R 25 [.as 52 true, .ix (Leg.enc v25), .new 3, .call false [] (.o (.c (.v (.int .i64 v27)))) [] [], .call false [] (.o (.c (.v (.int .i64 v29)))) [] [], .ix (encI v31), .as 69 false, .as 73 false, .ix (encI v35), .as 83 true] [.keep [2, 3, 7, 8, 9, 10, 11, 13, 15, 49, 50, 51] [0, 1, 2]] (And.intro h24 (And.intro (gi_map Leg.enc h26) (And.intro (impl_placeAt_ok v1 v25.From v27 h28) (And.intro (impl_placeAt_ok v1 v25.To v29 h30) (And.intro (gi_lt encI h32) (And.intro ((gi_map encI h32).2) (And.intro h33 (And.intro h34 (And.intro (gi_lt encI h36) (And.intro ((gi_map encI h36).2) (And.intro h50 True.intro))))))))))) (by kernel_rfl) (J1 a2 hM)
                  · exact pc R 25 [.as 52 true, .ix (Leg.enc v25), .new 3, .call false [] (.o (.c (.v (.int .i64 v27)))) [] [], .call false [] (.o (.c (.v (.int .i64 v29)))) [] [], .ix (encI v31), .as 69 false, .as 73 false, .ix (encI v35), .as 83 false] [.keep [2, 3, 7, 8, 9, 10, 11, 13, 15, 49, 50, 51] [0, 1, 2]] (And.intro h24 (And.intro (gi_map Leg.enc h26) (And.intro (impl_placeAt_ok v1 v25.From v27 h28) (And.intro (impl_placeAt_ok v1 v25.To v29 h30) (And.intro (gi_lt encI h32) (And.intro ((gi_map encI h32).2) (And.intro h33 (And.intro h34 (And.intro (gi_lt encI h36) (And.intro ((gi_map encI h36).2) (And.intro h50 True.intro))))))))))) (by kernel_rfl) (J1 (w64 (v35 - a0.Change)) hM)
            · have hE : some (Ctl.brk (s19, s20)) = some c3 := hM
              have hE := Option.some.inj hE
              subst hE
              exact pc R 5 [.as 52 false] [.keep [2, 3, 7, 8, 9, 10] [0, 1, 2]] (And.intro h24 True.intro) (by kernel_rfl) (K3 s19 s20 hK3)
          · have hE : some (Ctl.brk s15) = some c2 := hM
            have hE := Option.some.inj hE
            subst hE
            exact pc R 5 [.as 47 false] [.keep [9] [2]] (And.intro h18 True.intro) (by kernel_rfl) (K2 s15 hK2)
        refine pc R 9999 [.new 0, .call false [] (.o (.c (.sl 1))) [] [(1, .row 9 1 (v1.map encS))], .call false [] (.o (.c (.v (.int .i64 v3)))) [] [], .call false [] (.o (.c (.v (.bool v5)))) [] [], .as 26 false, .as 30 false, .as 33 false, .new 2, .ln (v1.length)] [.keep [2, 3, 7, 8, 9, 36, 37] [0, 1, 2]] (k' := [.code (.loop (cAt Try.f63 [1, 1, 1, 1, 1, 0, 1, 0, 0])), .blk 0, .code (cAt Try.f63 [1, 1, 1, 1, 1, 1])]) (S' := impl_LatestStarts_L1_S a0 a2 v1 v3 (([] : List Int), 0)) (And.intro (And.intro (con_sw 1000 1 (impl_PlacesOf_ok a0 v1 h2)) (rfl : ([] : List Nat) = [])) (And.intro (impl_placeAt_ok v1 a1 v3 h4) (And.intro (impl_IsNetwork_ok a0 v5 h6) (And.intro h7 (And.intro h8 (And.intro h9 (And.intro (lenm encS v1) True.intro))))))) (by kernel_rfl) ?_
        refine lq (impl_LatestStarts_L1_S a0 a2 v1 v3) (body := impl_LatestStarts_L1 v1) (k := impl_LatestStarts_L1_k a0 a2 v1 v3) hM fun m1 s c1 hM hK1 => ?_
        obtain ⟨s10, s11⟩ := s
        have hM : impl_LatestStarts_L1_b v1 s10 s11 = some c1 := hM
        unfold impl_LatestStarts_L1_b at hM
        rcases cond_cases hM with ⟨h51, hM⟩ | ⟨h51, hM⟩
        · obtain ⟨v52, h53, hM⟩ := bind_some hM
          have hE : some (Ctl.next (v52, w64 (s11 + 1))) = some c1 := hM
          have hE := Option.some.inj hE
          subst hE
          exact pc R 9999 [.as 38 true, .new 5, .new 6, .nm (v52.map encI)] [.sw 6 2, .keep [2, 3, 7, 8, 9, 36, 37] [0, 1, 2]] (And.intro h51 (And.intro (ap_ok encI h53) True.intro)) (by kernel_rfl) (li (Sf := impl_LatestStarts_L1_S a0 a2 v1 v3) (M := Mk (impl_LatestStarts_L1 v1) (impl_LatestStarts_L1_k a0 a2 v1 v3) r) (k := [.blk 0, .code (cAt Try.f63 [1, 1, 1, 1, 1, 1])]) (Nat.lt_succ_self m1) hK1)
        · have hE : some (Ctl.brk s10) = some c1 := hM
          have hE := Option.some.inj hE
          subst hE
          exact pc R 5 [.as 38 false] [.keep [2, 3, 7, 8, 9] [0, 1, 2]] (And.intro h51 True.intro) (by kernel_rfl) (K1 s10 hK1)

-- loop.example/g03014/impl.LatestStart
def impl_LatestStart (a0 : Network) (a1 : ByteArray) (a2 : ByteArray) (a3 : Int) : Option Int :=
  (impl_LatestStarts a0 a2 a3).bind fun v1 =>
  (impl_PlacesOf a0).bind fun v3 =>
  (impl_placeAt v3 a1).bind fun v5 =>
  bif ((v1.length : Int) == 0) then
  some (-1)
  else
  bif (decide (v5 < 0)) then
  some (-1)
  else
  (gi v1 v5).bind fun v9 =>
  some v9
theorem impl_LatestStart_ok (a0 : Network) (a1 : ByteArray) (a2 : ByteArray) (a3 : Int) (r : Int) (hM : impl_LatestStart a0 a1 a2 a3 = some r) :
    Con Try.prog 33 [.agg [.rs 6 (a0.Legs.map Leg.enc), .rs 1 (a0.Off.map encI), .v (.int .i64 a0.Change)], .c (.v (.string a1)), .c (.v (.string a2)), .c (.v (.int .i64 a3))] [] (.o (.c (.v (.int .i64 r)))) [] [] := by
  unfold impl_LatestStart at hM
  refine cn (N := 30) (pids := []) Try_mixed Try.func33 (by kernel_rfl) (by kernel_rfl) (by kernel_rfl) rfl fun ρ g w R => ?_
  obtain ⟨v1, h2, hM⟩ := bind_some hM
  obtain ⟨v3, h4, hM⟩ := bind_some hM
  obtain ⟨v5, h6, hM⟩ := bind_some hM
  rcases cond_cases hM with ⟨h7, hM⟩ | ⟨h7, hM⟩
  · have hE : some (-1) = some r := hM
    have hE := Option.some.inj hE
    subst hE
    exact pr R 9999 [.new 0, .call false [] (.o (.c (.sl 1))) [] [(1, .row 3 1 (v1.map encI))], .call false [] (.o (.c (.sl 2))) [] [(2, .row 9 1 (v3.map encS))], .call false [] (.o (.c (.v (.int .i64 v5)))) [] [], .ln (v1.length), .as 22 true] [] [] [] (And.intro (And.intro (con_sw 1000 1 (impl_LatestStarts_ok a0 a2 a3 v1 h2)) (rfl : ([] : List Nat) = [])) (And.intro (And.intro (con_sw 1000 2 (impl_PlacesOf_ok a0 v3 h4)) (rfl : ([] : List Nat) = [])) (And.intro (impl_placeAt_ok v3 a1 v5 h6) (And.intro (lenm encI v1) (And.intro h7 True.intro))))) (by kernel_rfl)
  · rcases cond_cases hM with ⟨h8, hM⟩ | ⟨h8, hM⟩
    · have hE : some (-1) = some r := hM
      have hE := Option.some.inj hE
      subst hE
      exact pr R 9999 [.new 0, .call false [] (.o (.c (.sl 1))) [] [(1, .row 3 1 (v1.map encI))], .call false [] (.o (.c (.sl 2))) [] [(2, .row 9 1 (v3.map encS))], .call false [] (.o (.c (.v (.int .i64 v5)))) [] [], .ln (v1.length), .as 22 false, .as 25 true] [] [] [] (And.intro (And.intro (con_sw 1000 1 (impl_LatestStarts_ok a0 a2 a3 v1 h2)) (rfl : ([] : List Nat) = [])) (And.intro (And.intro (con_sw 1000 2 (impl_PlacesOf_ok a0 v3 h4)) (rfl : ([] : List Nat) = [])) (And.intro (impl_placeAt_ok v3 a1 v5 h6) (And.intro (lenm encI v1) (And.intro h7 (And.intro h8 True.intro)))))) (by kernel_rfl)
    · obtain ⟨v9, h10, hM⟩ := bind_some hM
      have hE : some v9 = some r := hM
      have hE := Option.some.inj hE
      subst hE
      exact pr R 9999 [.new 0, .call false [] (.o (.c (.sl 1))) [] [(1, .row 3 1 (v1.map encI))], .call false [] (.o (.c (.sl 2))) [] [(2, .row 9 1 (v3.map encS))], .call false [] (.o (.c (.v (.int .i64 v5)))) [] [], .ln (v1.length), .as 22 false, .as 25 false, .ix (encI v9)] [] [] [] (And.intro (And.intro (con_sw 1000 1 (impl_LatestStarts_ok a0 a2 a3 v1 h2)) (rfl : ([] : List Nat) = [])) (And.intro (And.intro (con_sw 1000 2 (impl_PlacesOf_ok a0 v3 h4)) (rfl : ([] : List Nat) = [])) (And.intro (impl_placeAt_ok v3 a1 v5 h6) (And.intro (lenm encI v1) (And.intro h7 (And.intro h8 (And.intro (gi_lt encI h10) (And.intro ((gi_map encI h10).2) True.intro)))))))) (by kernel_rfl)

-- loop.example/g03014/laws.FnReached
def laws_FnReached_L1_b (v4 : (Network × ByteArray × Int × Int)) (v6 : (List ByteArray)) (v8 : (List ByteArray)) (s10 : Int) : Option (Ctl Int Unit Bool) :=
  bif (decide (s10 < (v8.length : Int))) then
  (gi v8 s10).bind fun v12 =>
  (impl_EarliestAt v4.1 v4.2.1 v12 v4.2.2.1).bind fun v14 =>
  (gi v8 s10).bind fun v16 =>
  (laws_index v6 v16).bind fun v18 =>
  bif (decide (v14 ≥ 0)) then
  bif (!((decide (v18 ≥ 0)) == (decide (v14 ≤ v4.2.2.2)))) then
  some (.ret false)
  else
  (gi v8 s10).bind fun v22 =>
  (impl_LatestStart v4.1 v4.2.1 v22 v4.2.2.2).bind fun v24 =>
  bif (decide (v4.2.2.1 ≥ 0)) then
  bif (decide (v4.2.2.2 ≥ 0)) then
  bif (decide (v4.2.2.2 < 100000)) then
  bif (decide (v4.2.2.1 ≤ 100000)) then
  (laws_index v8 v4.2.1).bind fun v30 =>
  bif (decide (v30 ≥ 0)) then
  (gi v8 s10).bind fun v33 =>
  (laws_index v6 v33).bind fun v35 =>
  bif (!((decide (v35 ≥ 0)) == (decide (v24 ≥ v4.2.2.1)))) then
  some (.ret false)
  else
  some (.next (w64 (s10 + 1)))
  else
  some (.next (w64 (s10 + 1)))
  else
  some (.next (w64 (s10 + 1)))
  else
  some (.next (w64 (s10 + 1)))
  else
  some (.next (w64 (s10 + 1)))
  else
  some (.next (w64 (s10 + 1)))
  else
  bif (!((decide (v18 ≥ 0)) == false)) then
  some (.ret false)
  else
  (gi v8 s10).bind fun v39 =>
  (impl_LatestStart v4.1 v4.2.1 v39 v4.2.2.2).bind fun v41 =>
  bif (decide (v4.2.2.1 ≥ 0)) then
  bif (decide (v4.2.2.2 ≥ 0)) then
  bif (decide (v4.2.2.2 < 100000)) then
  bif (decide (v4.2.2.1 ≤ 100000)) then
  (laws_index v8 v4.2.1).bind fun v47 =>
  bif (decide (v47 ≥ 0)) then
  (gi v8 s10).bind fun v50 =>
  (laws_index v6 v50).bind fun v52 =>
  bif (!((decide (v52 ≥ 0)) == (decide (v41 ≥ v4.2.2.1)))) then
  some (.ret false)
  else
  some (.next (w64 (s10 + 1)))
  else
  some (.next (w64 (s10 + 1)))
  else
  some (.next (w64 (s10 + 1)))
  else
  some (.next (w64 (s10 + 1)))
  else
  some (.next (w64 (s10 + 1)))
  else
  some (.next (w64 (s10 + 1)))
  else
  some (.brk ())
def laws_FnReached_L1 (v4 : (Network × ByteArray × Int × Int)) (v6 : (List ByteArray)) (v8 : (List ByteArray)) (s : Int) : Option (Ctl Int Unit Bool) := laws_FnReached_L1_b v4 v6 v8 s
def laws_FnReached_L1_s (v4 : (Network × ByteArray × Int × Int)) (v6 : (List ByteArray)) (v8 : (List ByteArray)) (s10 : Int) : St := ⟨[(3, .o (.c (.ptr 0 0))), (4, .o (.c (.v (.string v4.2.1)))), (5, .o (.c (.v (.int .i64 v4.2.2.1)))), (6, .o (.c (.v (.int .i64 v4.2.2.2)))), (7, .o (.c (.sl 1))), (8, .o (.c (.sl 2))), (9, .o (.c (.v (.int .i64 s10))))], [(0, .box 27 [.rs 6 (v4.1.Legs.map Leg.enc), .rs 1 (v4.1.Off.map encI), .v (.int .i64 v4.1.Change)]), (1, .row 9 1 (v6.map encS)), (2, .row 9 1 (v8.map encS))]⟩
def laws_FnReached_L1_S (v4 : (Network × ByteArray × Int × Int)) (v6 : (List ByteArray)) (v8 : (List ByteArray)) (s : Int) : St := laws_FnReached_L1_s v4 v6 v8 s
def laws_FnReached_L1_a (v6 : (List ByteArray)) (v8 : (List ByteArray)) : Option Bool :=
  some (decide ((v6.length : Int) ≤ (v8.length : Int)))
def laws_FnReached_L1_k (v6 : (List ByteArray)) (v8 : (List ByteArray)) (x : (Unit) ⊕ (Bool)) : Option Bool := match x with
  | .inl t => laws_FnReached_L1_a v6 v8
  | .inr y => some y
def laws_FnReached (a0 : (List Int)) : Option Bool :=
  (laws_big a0).bind fun v1 =>
  bif v1 then
  some true
  else
  (spec_DrawReachedBy a0).bind fun v4 =>
  (impl_ReachedBy v4.1 v4.2.1 v4.2.2.1 v4.2.2.2).bind fun v6 =>
  (spec_PlacesOf v4.1).bind fun v8 =>
  (loopM (laws_FnReached_L1 v4 v6 v8) big 0).bind (laws_FnReached_L1_k v6 v8)
theorem laws_FnReached_ok (a0 : (List Int)) (r : Bool) (hM : laws_FnReached a0 = some r) :
    Con Try.prog 6 [.c (.rs 1 (a0.map encU8))] [] (.o (.c (.v (.bool r)))) [] [] := by
  unfold laws_FnReached at hM
  refine cn (N := 103) (pids := []) Try_mixed Try.func6 (by kernel_rfl) (by kernel_rfl) (by kernel_rfl) rfl fun ρ g w R => ?_
  obtain ⟨v1, h2, hM⟩ := bind_some hM
  rcases cond_cases hM with ⟨h3, hM⟩ | ⟨h3, hM⟩
  · have hE : some true = some r := hM
    have hE := Option.some.inj hE
    subst hE
    exact pr R 9999 [.call false [] (.o (.c (.v (.bool v1)))) [] [], .as 13 true] [] [] [] (And.intro (laws_big_ok a0 v1 h2) (And.intro h3 True.intro)) (by kernel_rfl)
  · obtain ⟨v4, h5, hM⟩ := bind_some hM
    obtain ⟨v6, h7, hM⟩ := bind_some hM
    obtain ⟨v8, h9, hM⟩ := bind_some hM
    have K1 : ∀ (_ : Unit), laws_FnReached_L1_a v6 v8 = some r → Gr R [.code (cAt Try.f6 [1, 1, 1, 1, 1, 1])] (⟨[(7, .o (.c (.sl 1))), (8, .o (.c (.sl 2)))], [(1, .row 9 1 (v6.map encS)), (2, .row 9 1 (v8.map encS))]⟩) := by
      intro _ hM
      unfold laws_FnReached_L1_a at hM
      have hE : some (decide ((v6.length : Int) ≤ (v8.length : Int))) = some r := hM
      have hE := Option.some.inj hE
      subst hE
      exact pr R 9999 [.ln (v6.length), .ln (v8.length)] [] [] [] (And.intro (lenm encS v6) (And.intro (lenm encS v8) True.intro)) (by kernel_rfl)
    refine pc R 9999 [.call false [] (.o (.c (.v (.bool v1)))) [] [], .as 13 false, .call true [] (.tup [.agg [.rs 6 (v4.1.Legs.map Leg.enc), .rs 1 (v4.1.Off.map encI), .v (.int .i64 v4.1.Change)], .c (.v (.string v4.2.1)), .c (.v (.int .i64 v4.2.2.1)), .c (.v (.int .i64 v4.2.2.2))]) [] [], .new 0, .call false [] (.o (.c (.sl 1))) [] [(1, .row 9 1 (v6.map encS))], .call false [] (.o (.c (.sl 2))) [] [(2, .row 9 1 (v8.map encS))]] [.keep [3, 4, 5, 6, 7, 8, 9] [0, 1, 2]] (k' := [.code (.loop (cAt Try.f6 [1, 1, 1, 1, 1, 0, 1, 0, 0])), .blk 0, .code (cAt Try.f6 [1, 1, 1, 1, 1, 1])]) (S' := laws_FnReached_L1_S v4 v6 v8 0) (And.intro (laws_big_ok a0 v1 h2) (And.intro h3 (And.intro (And.intro (spec_DrawReachedBy_ok a0 v4 h5) (rfl : ([] : List Nat) = [])) (And.intro (And.intro (con_sw 1000 1 (impl_ReachedBy_ok v4.1 v4.2.1 v4.2.2.1 v4.2.2.2 v6 h7)) (rfl : ([] : List Nat) = [])) (And.intro (And.intro (con_sw 1000 2 (spec_PlacesOf_ok v4.1 v8 h9)) (rfl : ([] : List Nat) = [])) True.intro))))) (by kernel_rfl) ?_
    refine lq (laws_FnReached_L1_S v4 v6 v8) (body := laws_FnReached_L1 v4 v6 v8) (k := laws_FnReached_L1_k v6 v8) hM fun m1 s c1 hM hK1 => ?_
    obtain ⟨s10, hs⟩ : ∃ z, z = s := ⟨_, rfl⟩
    subst hs
    have hM : laws_FnReached_L1_b v4 v6 v8 s10 = some c1 := hM
    unfold laws_FnReached_L1_b at hM
    rcases cond_cases hM with ⟨h11, hM⟩ | ⟨h11, hM⟩
    · obtain ⟨v12, h13, hM⟩ := bind_some hM
      obtain ⟨v14, h15, hM⟩ := bind_some hM
      obtain ⟨v16, h17, hM⟩ := bind_some hM
      obtain ⟨v18, h19, hM⟩ := bind_some hM
      rcases cond_cases hM with ⟨h20, hM⟩ | ⟨h20, hM⟩
      · rcases cond_cases hM with ⟨h21, hM⟩ | ⟨h21, hM⟩
        · have hE : some (Ctl.ret false) = some c1 := hM
          have hE := Option.some.inj hE
          subst hE
          have hE : some false = some r := hK1
          have hE := Option.some.inj hE
          subst hE
          exact pr R 9999 [.ln (v8.length), .as 31 true, .ix (encS v12), .call false [] (.o (.c (.v (.int .i64 v14)))) [] [], .ix (encS v16), .call false [] (.o (.c (.v (.int .i64 v18)))) [] [], .as 51 true, .as 56 true] [] [] [] (And.intro (lenm encS v8) (And.intro h11 (And.intro (gi_lt encS h13) (And.intro ((gi_map encS h13).2) (And.intro (impl_EarliestAt_ok v4.1 v4.2.1 v12 v4.2.2.1 v14 h15) (And.intro (gi_lt encS h17) (And.intro ((gi_map encS h17).2) (And.intro (laws_index_ok v6 v16 v18 h19) (And.intro h20 (And.intro h21 True.intro)))))))))) (by kernel_rfl)
        · obtain ⟨v22, h23, hM⟩ := bind_some hM
          obtain ⟨v24, h25, hM⟩ := bind_some hM
          rcases cond_cases hM with ⟨h26, hM⟩ | ⟨h26, hM⟩
          · rcases cond_cases hM with ⟨h27, hM⟩ | ⟨h27, hM⟩
            · rcases cond_cases hM with ⟨h28, hM⟩ | ⟨h28, hM⟩
              · rcases cond_cases hM with ⟨h29, hM⟩ | ⟨h29, hM⟩
                · obtain ⟨v30, h31, hM⟩ := bind_some hM
                  rcases cond_cases hM with ⟨h32, hM⟩ | ⟨h32, hM⟩
                  · obtain ⟨v33, h34, hM⟩ := bind_some hM
                    obtain ⟨v35, h36, hM⟩ := bind_some hM
                    rcases cond_cases hM with ⟨h37, hM⟩ | ⟨h37, hM⟩
                    · have hE : some (Ctl.ret false) = some c1 := hM
                      have hE := Option.some.inj hE
                      subst hE
                      have hE : some false = some r := hK1
                      have hE := Option.some.inj hE
                      subst hE
                      exact pr R 9999 [.ln (v8.length), .as 31 true, .ix (encS v12), .call false [] (.o (.c (.v (.int .i64 v14)))) [] [], .ix (encS v16), .call false [] (.o (.c (.v (.int .i64 v18)))) [] [], .as 51 true, .as 56 false, .ix (encS v22), .call false [] (.o (.c (.v (.int .i64 v24)))) [] [], .as 67 true, .as 71 true, .as 75 true, .as 79 true, .call false [] (.o (.c (.v (.int .i64 v30)))) [] [], .as 85 true, .ix (encS v33), .call false [] (.o (.c (.v (.int .i64 v35)))) [] [], .as 97 true] [] [] [] (And.intro (lenm encS v8) (And.intro h11 (And.intro (gi_lt encS h13) (And.intro ((gi_map encS h13).2) (And.intro (impl_EarliestAt_ok v4.1 v4.2.1 v12 v4.2.2.1 v14 h15) (And.intro (gi_lt encS h17) (And.intro ((gi_map encS h17).2) (And.intro (laws_index_ok v6 v16 v18 h19) (And.intro h20 (And.intro h21 (And.intro (gi_lt encS h23) (And.intro ((gi_map encS h23).2) (And.intro (impl_LatestStart_ok v4.1 v4.2.1 v22 v4.2.2.2 v24 h25) (And.intro h26 (And.intro h27 (And.intro h28 (And.intro h29 (And.intro (laws_index_ok v8 v4.2.1 v30 h31) (And.intro h32 (And.intro (gi_lt encS h34) (And.intro ((gi_map encS h34).2) (And.intro (laws_index_ok v6 v33 v35 h36) (And.intro h37 True.intro))))))))))))))))))))))) (by kernel_rfl)
                    · have hE : some (Ctl.next (w64 (s10 + 1))) = some c1 := hM
                      have hE := Option.some.inj hE
                      subst hE
                      exact pc R 9999 [.ln (v8.length), .as 31 true, .ix (encS v12), .call false [] (.o (.c (.v (.int .i64 v14)))) [] [], .ix (encS v16), .call false [] (.o (.c (.v (.int .i64 v18)))) [] [], .as 51 true, .as 56 false, .ix (encS v22), .call false [] (.o (.c (.v (.int .i64 v24)))) [] [], .as 67 true, .as 71 true, .as 75 true, .as 79 true, .call false [] (.o (.c (.v (.int .i64 v30)))) [] [], .as 85 true, .ix (encS v33), .call false [] (.o (.c (.v (.int .i64 v35)))) [] [], .as 97 false] [.keep [3, 4, 5, 6, 7, 8, 9] [0, 1, 2]] (And.intro (lenm encS v8) (And.intro h11 (And.intro (gi_lt encS h13) (And.intro ((gi_map encS h13).2) (And.intro (impl_EarliestAt_ok v4.1 v4.2.1 v12 v4.2.2.1 v14 h15) (And.intro (gi_lt encS h17) (And.intro ((gi_map encS h17).2) (And.intro (laws_index_ok v6 v16 v18 h19) (And.intro h20 (And.intro h21 (And.intro (gi_lt encS h23) (And.intro ((gi_map encS h23).2) (And.intro (impl_LatestStart_ok v4.1 v4.2.1 v22 v4.2.2.2 v24 h25) (And.intro h26 (And.intro h27 (And.intro h28 (And.intro h29 (And.intro (laws_index_ok v8 v4.2.1 v30 h31) (And.intro h32 (And.intro (gi_lt encS h34) (And.intro ((gi_map encS h34).2) (And.intro (laws_index_ok v6 v33 v35 h36) (And.intro h37 True.intro))))))))))))))))))))))) (by kernel_rfl) (li (Sf := laws_FnReached_L1_S v4 v6 v8) (M := Mk (laws_FnReached_L1 v4 v6 v8) (laws_FnReached_L1_k v6 v8) r) (k := [.blk 0, .code (cAt Try.f6 [1, 1, 1, 1, 1, 1])]) (Nat.lt_succ_self m1) hK1)
                  · have hE : some (Ctl.next (w64 (s10 + 1))) = some c1 := hM
                    have hE := Option.some.inj hE
                    subst hE
                    exact pc R 9999 [.ln (v8.length), .as 31 true, .ix (encS v12), .call false [] (.o (.c (.v (.int .i64 v14)))) [] [], .ix (encS v16), .call false [] (.o (.c (.v (.int .i64 v18)))) [] [], .as 51 true, .as 56 false, .ix (encS v22), .call false [] (.o (.c (.v (.int .i64 v24)))) [] [], .as 67 true, .as 71 true, .as 75 true, .as 79 true, .call false [] (.o (.c (.v (.int .i64 v30)))) [] [], .as 85 false] [.keep [3, 4, 5, 6, 7, 8, 9] [0, 1, 2]] (And.intro (lenm encS v8) (And.intro h11 (And.intro (gi_lt encS h13) (And.intro ((gi_map encS h13).2) (And.intro (impl_EarliestAt_ok v4.1 v4.2.1 v12 v4.2.2.1 v14 h15) (And.intro (gi_lt encS h17) (And.intro ((gi_map encS h17).2) (And.intro (laws_index_ok v6 v16 v18 h19) (And.intro h20 (And.intro h21 (And.intro (gi_lt encS h23) (And.intro ((gi_map encS h23).2) (And.intro (impl_LatestStart_ok v4.1 v4.2.1 v22 v4.2.2.2 v24 h25) (And.intro h26 (And.intro h27 (And.intro h28 (And.intro h29 (And.intro (laws_index_ok v8 v4.2.1 v30 h31) (And.intro h32 True.intro))))))))))))))))))) (by kernel_rfl) (li (Sf := laws_FnReached_L1_S v4 v6 v8) (M := Mk (laws_FnReached_L1 v4 v6 v8) (laws_FnReached_L1_k v6 v8) r) (k := [.blk 0, .code (cAt Try.f6 [1, 1, 1, 1, 1, 1])]) (Nat.lt_succ_self m1) hK1)
                · have hE : some (Ctl.next (w64 (s10 + 1))) = some c1 := hM
                  have hE := Option.some.inj hE
                  subst hE
                  exact pc R 9999 [.ln (v8.length), .as 31 true, .ix (encS v12), .call false [] (.o (.c (.v (.int .i64 v14)))) [] [], .ix (encS v16), .call false [] (.o (.c (.v (.int .i64 v18)))) [] [], .as 51 true, .as 56 false, .ix (encS v22), .call false [] (.o (.c (.v (.int .i64 v24)))) [] [], .as 67 true, .as 71 true, .as 75 true, .as 79 false] [.keep [3, 4, 5, 6, 7, 8, 9] [0, 1, 2]] (And.intro (lenm encS v8) (And.intro h11 (And.intro (gi_lt encS h13) (And.intro ((gi_map encS h13).2) (And.intro (impl_EarliestAt_ok v4.1 v4.2.1 v12 v4.2.2.1 v14 h15) (And.intro (gi_lt encS h17) (And.intro ((gi_map encS h17).2) (And.intro (laws_index_ok v6 v16 v18 h19) (And.intro h20 (And.intro h21 (And.intro (gi_lt encS h23) (And.intro ((gi_map encS h23).2) (And.intro (impl_LatestStart_ok v4.1 v4.2.1 v22 v4.2.2.2 v24 h25) (And.intro h26 (And.intro h27 (And.intro h28 (And.intro h29 True.intro))))))))))))))))) (by kernel_rfl) (li (Sf := laws_FnReached_L1_S v4 v6 v8) (M := Mk (laws_FnReached_L1 v4 v6 v8) (laws_FnReached_L1_k v6 v8) r) (k := [.blk 0, .code (cAt Try.f6 [1, 1, 1, 1, 1, 1])]) (Nat.lt_succ_self m1) hK1)
              · have hE : some (Ctl.next (w64 (s10 + 1))) = some c1 := hM
                have hE := Option.some.inj hE
                subst hE
                exact pc R 9999 [.ln (v8.length), .as 31 true, .ix (encS v12), .call false [] (.o (.c (.v (.int .i64 v14)))) [] [], .ix (encS v16), .call false [] (.o (.c (.v (.int .i64 v18)))) [] [], .as 51 true, .as 56 false, .ix (encS v22), .call false [] (.o (.c (.v (.int .i64 v24)))) [] [], .as 67 true, .as 71 true, .as 75 false] [.keep [3, 4, 5, 6, 7, 8, 9] [0, 1, 2]] (And.intro (lenm encS v8) (And.intro h11 (And.intro (gi_lt encS h13) (And.intro ((gi_map encS h13).2) (And.intro (impl_EarliestAt_ok v4.1 v4.2.1 v12 v4.2.2.1 v14 h15) (And.intro (gi_lt encS h17) (And.intro ((gi_map encS h17).2) (And.intro (laws_index_ok v6 v16 v18 h19) (And.intro h20 (And.intro h21 (And.intro (gi_lt encS h23) (And.intro ((gi_map encS h23).2) (And.intro (impl_LatestStart_ok v4.1 v4.2.1 v22 v4.2.2.2 v24 h25) (And.intro h26 (And.intro h27 (And.intro h28 True.intro)))))))))))))))) (by kernel_rfl) (li (Sf := laws_FnReached_L1_S v4 v6 v8) (M := Mk (laws_FnReached_L1 v4 v6 v8) (laws_FnReached_L1_k v6 v8) r) (k := [.blk 0, .code (cAt Try.f6 [1, 1, 1, 1, 1, 1])]) (Nat.lt_succ_self m1) hK1)
            · have hE : some (Ctl.next (w64 (s10 + 1))) = some c1 := hM
              have hE := Option.some.inj hE
              subst hE
              exact pc R 9999 [.ln (v8.length), .as 31 true, .ix (encS v12), .call false [] (.o (.c (.v (.int .i64 v14)))) [] [], .ix (encS v16), .call false [] (.o (.c (.v (.int .i64 v18)))) [] [], .as 51 true, .as 56 false, .ix (encS v22), .call false [] (.o (.c (.v (.int .i64 v24)))) [] [], .as 67 true, .as 71 false] [.keep [3, 4, 5, 6, 7, 8, 9] [0, 1, 2]] (And.intro (lenm encS v8) (And.intro h11 (And.intro (gi_lt encS h13) (And.intro ((gi_map encS h13).2) (And.intro (impl_EarliestAt_ok v4.1 v4.2.1 v12 v4.2.2.1 v14 h15) (And.intro (gi_lt encS h17) (And.intro ((gi_map encS h17).2) (And.intro (laws_index_ok v6 v16 v18 h19) (And.intro h20 (And.intro h21 (And.intro (gi_lt encS h23) (And.intro ((gi_map encS h23).2) (And.intro (impl_LatestStart_ok v4.1 v4.2.1 v22 v4.2.2.2 v24 h25) (And.intro h26 (And.intro h27 True.intro))))))))))))))) (by kernel_rfl) (li (Sf := laws_FnReached_L1_S v4 v6 v8) (M := Mk (laws_FnReached_L1 v4 v6 v8) (laws_FnReached_L1_k v6 v8) r) (k := [.blk 0, .code (cAt Try.f6 [1, 1, 1, 1, 1, 1])]) (Nat.lt_succ_self m1) hK1)
          · have hE : some (Ctl.next (w64 (s10 + 1))) = some c1 := hM
            have hE := Option.some.inj hE
            subst hE
            exact pc R 9999 [.ln (v8.length), .as 31 true, .ix (encS v12), .call false [] (.o (.c (.v (.int .i64 v14)))) [] [], .ix (encS v16), .call false [] (.o (.c (.v (.int .i64 v18)))) [] [], .as 51 true, .as 56 false, .ix (encS v22), .call false [] (.o (.c (.v (.int .i64 v24)))) [] [], .as 67 false] [.keep [3, 4, 5, 6, 7, 8, 9] [0, 1, 2]] (And.intro (lenm encS v8) (And.intro h11 (And.intro (gi_lt encS h13) (And.intro ((gi_map encS h13).2) (And.intro (impl_EarliestAt_ok v4.1 v4.2.1 v12 v4.2.2.1 v14 h15) (And.intro (gi_lt encS h17) (And.intro ((gi_map encS h17).2) (And.intro (laws_index_ok v6 v16 v18 h19) (And.intro h20 (And.intro h21 (And.intro (gi_lt encS h23) (And.intro ((gi_map encS h23).2) (And.intro (impl_LatestStart_ok v4.1 v4.2.1 v22 v4.2.2.2 v24 h25) (And.intro h26 True.intro)))))))))))))) (by kernel_rfl) (li (Sf := laws_FnReached_L1_S v4 v6 v8) (M := Mk (laws_FnReached_L1 v4 v6 v8) (laws_FnReached_L1_k v6 v8) r) (k := [.blk 0, .code (cAt Try.f6 [1, 1, 1, 1, 1, 1])]) (Nat.lt_succ_self m1) hK1)
      · rcases cond_cases hM with ⟨h38, hM⟩ | ⟨h38, hM⟩
        · have hE : some (Ctl.ret false) = some c1 := hM
          have hE := Option.some.inj hE
          subst hE
          have hE : some false = some r := hK1
          have hE := Option.some.inj hE
          subst hE
          exact pr R 9999 [.ln (v8.length), .as 31 true, .ix (encS v12), .call false [] (.o (.c (.v (.int .i64 v14)))) [] [], .ix (encS v16), .call false [] (.o (.c (.v (.int .i64 v18)))) [] [], .as 51 false, .as 56 true] [] [] [] (And.intro (lenm encS v8) (And.intro h11 (And.intro (gi_lt encS h13) (And.intro ((gi_map encS h13).2) (And.intro (impl_EarliestAt_ok v4.1 v4.2.1 v12 v4.2.2.1 v14 h15) (And.intro (gi_lt encS h17) (And.intro ((gi_map encS h17).2) (And.intro (laws_index_ok v6 v16 v18 h19) (And.intro h20 (And.intro h38 True.intro)))))))))) (by kernel_rfl)
        · obtain ⟨v39, h40, hM⟩ := bind_some hM
          obtain ⟨v41, h42, hM⟩ := bind_some hM
          rcases cond_cases hM with ⟨h43, hM⟩ | ⟨h43, hM⟩
          · rcases cond_cases hM with ⟨h44, hM⟩ | ⟨h44, hM⟩
            · rcases cond_cases hM with ⟨h45, hM⟩ | ⟨h45, hM⟩
              · rcases cond_cases hM with ⟨h46, hM⟩ | ⟨h46, hM⟩
                · obtain ⟨v47, h48, hM⟩ := bind_some hM
                  rcases cond_cases hM with ⟨h49, hM⟩ | ⟨h49, hM⟩
                  · obtain ⟨v50, h51, hM⟩ := bind_some hM
                    obtain ⟨v52, h53, hM⟩ := bind_some hM
                    rcases cond_cases hM with ⟨h54, hM⟩ | ⟨h54, hM⟩
                    · have hE : some (Ctl.ret false) = some c1 := hM
                      have hE := Option.some.inj hE
                      subst hE
                      have hE : some false = some r := hK1
                      have hE := Option.some.inj hE
                      subst hE
                      exact pr R 9999 [.ln (v8.length), .as 31 true, .ix (encS v12), .call false [] (.o (.c (.v (.int .i64 v14)))) [] [], .ix (encS v16), .call false [] (.o (.c (.v (.int .i64 v18)))) [] [], .as 51 false, .as 56 false, .ix (encS v39), .call false [] (.o (.c (.v (.int .i64 v41)))) [] [], .as 67 true, .as 71 true, .as 75 true, .as 79 true, .call false [] (.o (.c (.v (.int .i64 v47)))) [] [], .as 85 true, .ix (encS v50), .call false [] (.o (.c (.v (.int .i64 v52)))) [] [], .as 97 true] [] [] [] (And.intro (lenm encS v8) (And.intro h11 (And.intro (gi_lt encS h13) (And.intro ((gi_map encS h13).2) (And.intro (impl_EarliestAt_ok v4.1 v4.2.1 v12 v4.2.2.1 v14 h15) (And.intro (gi_lt encS h17) (And.intro ((gi_map encS h17).2) (And.intro (laws_index_ok v6 v16 v18 h19) (And.intro h20 (And.intro h38 (And.intro (gi_lt encS h40) (And.intro ((gi_map encS h40).2) (And.intro (impl_LatestStart_ok v4.1 v4.2.1 v39 v4.2.2.2 v41 h42) (And.intro h43 (And.intro h44 (And.intro h45 (And.intro h46 (And.intro (laws_index_ok v8 v4.2.1 v47 h48) (And.intro h49 (And.intro (gi_lt encS h51) (And.intro ((gi_map encS h51).2) (And.intro (laws_index_ok v6 v50 v52 h53) (And.intro h54 True.intro))))))))))))))))))))))) (by kernel_rfl)
                    · have hE : some (Ctl.next (w64 (s10 + 1))) = some c1 := hM
                      have hE := Option.some.inj hE
                      subst hE
                      exact pc R 9999 [.ln (v8.length), .as 31 true, .ix (encS v12), .call false [] (.o (.c (.v (.int .i64 v14)))) [] [], .ix (encS v16), .call false [] (.o (.c (.v (.int .i64 v18)))) [] [], .as 51 false, .as 56 false, .ix (encS v39), .call false [] (.o (.c (.v (.int .i64 v41)))) [] [], .as 67 true, .as 71 true, .as 75 true, .as 79 true, .call false [] (.o (.c (.v (.int .i64 v47)))) [] [], .as 85 true, .ix (encS v50), .call false [] (.o (.c (.v (.int .i64 v52)))) [] [], .as 97 false] [.keep [3, 4, 5, 6, 7, 8, 9] [0, 1, 2]] (And.intro (lenm encS v8) (And.intro h11 (And.intro (gi_lt encS h13) (And.intro ((gi_map encS h13).2) (And.intro (impl_EarliestAt_ok v4.1 v4.2.1 v12 v4.2.2.1 v14 h15) (And.intro (gi_lt encS h17) (And.intro ((gi_map encS h17).2) (And.intro (laws_index_ok v6 v16 v18 h19) (And.intro h20 (And.intro h38 (And.intro (gi_lt encS h40) (And.intro ((gi_map encS h40).2) (And.intro (impl_LatestStart_ok v4.1 v4.2.1 v39 v4.2.2.2 v41 h42) (And.intro h43 (And.intro h44 (And.intro h45 (And.intro h46 (And.intro (laws_index_ok v8 v4.2.1 v47 h48) (And.intro h49 (And.intro (gi_lt encS h51) (And.intro ((gi_map encS h51).2) (And.intro (laws_index_ok v6 v50 v52 h53) (And.intro h54 True.intro))))))))))))))))))))))) (by kernel_rfl) (li (Sf := laws_FnReached_L1_S v4 v6 v8) (M := Mk (laws_FnReached_L1 v4 v6 v8) (laws_FnReached_L1_k v6 v8) r) (k := [.blk 0, .code (cAt Try.f6 [1, 1, 1, 1, 1, 1])]) (Nat.lt_succ_self m1) hK1)
                  · have hE : some (Ctl.next (w64 (s10 + 1))) = some c1 := hM
                    have hE := Option.some.inj hE
                    subst hE
                    exact pc R 9999 [.ln (v8.length), .as 31 true, .ix (encS v12), .call false [] (.o (.c (.v (.int .i64 v14)))) [] [], .ix (encS v16), .call false [] (.o (.c (.v (.int .i64 v18)))) [] [], .as 51 false, .as 56 false, .ix (encS v39), .call false [] (.o (.c (.v (.int .i64 v41)))) [] [], .as 67 true, .as 71 true, .as 75 true, .as 79 true, .call false [] (.o (.c (.v (.int .i64 v47)))) [] [], .as 85 false] [.keep [3, 4, 5, 6, 7, 8, 9] [0, 1, 2]] (And.intro (lenm encS v8) (And.intro h11 (And.intro (gi_lt encS h13) (And.intro ((gi_map encS h13).2) (And.intro (impl_EarliestAt_ok v4.1 v4.2.1 v12 v4.2.2.1 v14 h15) (And.intro (gi_lt encS h17) (And.intro ((gi_map encS h17).2) (And.intro (laws_index_ok v6 v16 v18 h19) (And.intro h20 (And.intro h38 (And.intro (gi_lt encS h40) (And.intro ((gi_map encS h40).2) (And.intro (impl_LatestStart_ok v4.1 v4.2.1 v39 v4.2.2.2 v41 h42) (And.intro h43 (And.intro h44 (And.intro h45 (And.intro h46 (And.intro (laws_index_ok v8 v4.2.1 v47 h48) (And.intro h49 True.intro))))))))))))))))))) (by kernel_rfl) (li (Sf := laws_FnReached_L1_S v4 v6 v8) (M := Mk (laws_FnReached_L1 v4 v6 v8) (laws_FnReached_L1_k v6 v8) r) (k := [.blk 0, .code (cAt Try.f6 [1, 1, 1, 1, 1, 1])]) (Nat.lt_succ_self m1) hK1)
                · have hE : some (Ctl.next (w64 (s10 + 1))) = some c1 := hM
                  have hE := Option.some.inj hE
                  subst hE
                  exact pc R 9999 [.ln (v8.length), .as 31 true, .ix (encS v12), .call false [] (.o (.c (.v (.int .i64 v14)))) [] [], .ix (encS v16), .call false [] (.o (.c (.v (.int .i64 v18)))) [] [], .as 51 false, .as 56 false, .ix (encS v39), .call false [] (.o (.c (.v (.int .i64 v41)))) [] [], .as 67 true, .as 71 true, .as 75 true, .as 79 false] [.keep [3, 4, 5, 6, 7, 8, 9] [0, 1, 2]] (And.intro (lenm encS v8) (And.intro h11 (And.intro (gi_lt encS h13) (And.intro ((gi_map encS h13).2) (And.intro (impl_EarliestAt_ok v4.1 v4.2.1 v12 v4.2.2.1 v14 h15) (And.intro (gi_lt encS h17) (And.intro ((gi_map encS h17).2) (And.intro (laws_index_ok v6 v16 v18 h19) (And.intro h20 (And.intro h38 (And.intro (gi_lt encS h40) (And.intro ((gi_map encS h40).2) (And.intro (impl_LatestStart_ok v4.1 v4.2.1 v39 v4.2.2.2 v41 h42) (And.intro h43 (And.intro h44 (And.intro h45 (And.intro h46 True.intro))))))))))))))))) (by kernel_rfl) (li (Sf := laws_FnReached_L1_S v4 v6 v8) (M := Mk (laws_FnReached_L1 v4 v6 v8) (laws_FnReached_L1_k v6 v8) r) (k := [.blk 0, .code (cAt Try.f6 [1, 1, 1, 1, 1, 1])]) (Nat.lt_succ_self m1) hK1)
              · have hE : some (Ctl.next (w64 (s10 + 1))) = some c1 := hM
                have hE := Option.some.inj hE
                subst hE
                exact pc R 9999 [.ln (v8.length), .as 31 true, .ix (encS v12), .call false [] (.o (.c (.v (.int .i64 v14)))) [] [], .ix (encS v16), .call false [] (.o (.c (.v (.int .i64 v18)))) [] [], .as 51 false, .as 56 false, .ix (encS v39), .call false [] (.o (.c (.v (.int .i64 v41)))) [] [], .as 67 true, .as 71 true, .as 75 false] [.keep [3, 4, 5, 6, 7, 8, 9] [0, 1, 2]] (And.intro (lenm encS v8) (And.intro h11 (And.intro (gi_lt encS h13) (And.intro ((gi_map encS h13).2) (And.intro (impl_EarliestAt_ok v4.1 v4.2.1 v12 v4.2.2.1 v14 h15) (And.intro (gi_lt encS h17) (And.intro ((gi_map encS h17).2) (And.intro (laws_index_ok v6 v16 v18 h19) (And.intro h20 (And.intro h38 (And.intro (gi_lt encS h40) (And.intro ((gi_map encS h40).2) (And.intro (impl_LatestStart_ok v4.1 v4.2.1 v39 v4.2.2.2 v41 h42) (And.intro h43 (And.intro h44 (And.intro h45 True.intro)))))))))))))))) (by kernel_rfl) (li (Sf := laws_FnReached_L1_S v4 v6 v8) (M := Mk (laws_FnReached_L1 v4 v6 v8) (laws_FnReached_L1_k v6 v8) r) (k := [.blk 0, .code (cAt Try.f6 [1, 1, 1, 1, 1, 1])]) (Nat.lt_succ_self m1) hK1)
            · have hE : some (Ctl.next (w64 (s10 + 1))) = some c1 := hM
              have hE := Option.some.inj hE
              subst hE
              exact pc R 9999 [.ln (v8.length), .as 31 true, .ix (encS v12), .call false [] (.o (.c (.v (.int .i64 v14)))) [] [], .ix (encS v16), .call false [] (.o (.c (.v (.int .i64 v18)))) [] [], .as 51 false, .as 56 false, .ix (encS v39), .call false [] (.o (.c (.v (.int .i64 v41)))) [] [], .as 67 true, .as 71 false] [.keep [3, 4, 5, 6, 7, 8, 9] [0, 1, 2]] (And.intro (lenm encS v8) (And.intro h11 (And.intro (gi_lt encS h13) (And.intro ((gi_map encS h13).2) (And.intro (impl_EarliestAt_ok v4.1 v4.2.1 v12 v4.2.2.1 v14 h15) (And.intro (gi_lt encS h17) (And.intro ((gi_map encS h17).2) (And.intro (laws_index_ok v6 v16 v18 h19) (And.intro h20 (And.intro h38 (And.intro (gi_lt encS h40) (And.intro ((gi_map encS h40).2) (And.intro (impl_LatestStart_ok v4.1 v4.2.1 v39 v4.2.2.2 v41 h42) (And.intro h43 (And.intro h44 True.intro))))))))))))))) (by kernel_rfl) (li (Sf := laws_FnReached_L1_S v4 v6 v8) (M := Mk (laws_FnReached_L1 v4 v6 v8) (laws_FnReached_L1_k v6 v8) r) (k := [.blk 0, .code (cAt Try.f6 [1, 1, 1, 1, 1, 1])]) (Nat.lt_succ_self m1) hK1)
          · have hE : some (Ctl.next (w64 (s10 + 1))) = some c1 := hM
            have hE := Option.some.inj hE
            subst hE
            exact pc R 9999 [.ln (v8.length), .as 31 true, .ix (encS v12), .call false [] (.o (.c (.v (.int .i64 v14)))) [] [], .ix (encS v16), .call false [] (.o (.c (.v (.int .i64 v18)))) [] [], .as 51 false, .as 56 false, .ix (encS v39), .call false [] (.o (.c (.v (.int .i64 v41)))) [] [], .as 67 false] [.keep [3, 4, 5, 6, 7, 8, 9] [0, 1, 2]] (And.intro (lenm encS v8) (And.intro h11 (And.intro (gi_lt encS h13) (And.intro ((gi_map encS h13).2) (And.intro (impl_EarliestAt_ok v4.1 v4.2.1 v12 v4.2.2.1 v14 h15) (And.intro (gi_lt encS h17) (And.intro ((gi_map encS h17).2) (And.intro (laws_index_ok v6 v16 v18 h19) (And.intro h20 (And.intro h38 (And.intro (gi_lt encS h40) (And.intro ((gi_map encS h40).2) (And.intro (impl_LatestStart_ok v4.1 v4.2.1 v39 v4.2.2.2 v41 h42) (And.intro h43 True.intro)))))))))))))) (by kernel_rfl) (li (Sf := laws_FnReached_L1_S v4 v6 v8) (M := Mk (laws_FnReached_L1 v4 v6 v8) (laws_FnReached_L1_k v6 v8) r) (k := [.blk 0, .code (cAt Try.f6 [1, 1, 1, 1, 1, 1])]) (Nat.lt_succ_self m1) hK1)
    · have hE : some (Ctl.brk ()) = some c1 := hM
      have hE := Option.some.inj hE
      subst hE
      exact pc R 5 [.ln (v8.length), .as 31 false] [.keep [7, 8] [1, 2]] (And.intro (lenm encS v8) (And.intro h11 True.intro)) (by kernel_rfl) (K1 () hK1)

-- loop.example/g03014/spec.DrawLatestStart
def spec_DrawLatestStart (a0 : (List Int)) : Option (Network × ByteArray × ByteArray × Int) :=
  (spec_DrawEarliestAt a0).bind fun v1 =>
  some ((Network.mk v1.1.Legs v1.1.Off v1.1.Change), v1.2.1, v1.2.2.1, v1.2.2.2)
theorem spec_DrawLatestStart_ok (a0 : (List Int)) (r : Network × ByteArray × ByteArray × Int) (hM : spec_DrawLatestStart a0 = some r) :
    Con Try.prog 34 [.c (.rs 1 (a0.map encU8))] [] (.tup [.agg [.rs 6 (r.1.Legs.map Leg.enc), .rs 1 (r.1.Off.map encI), .v (.int .i64 r.1.Change)], .c (.v (.string r.2.1)), .c (.v (.string r.2.2.1)), .c (.v (.int .i64 r.2.2.2))]) [] [] := by
  unfold spec_DrawLatestStart at hM
  refine cn (N := 12) (pids := []) Try_mixed Try.func34 (by kernel_rfl) (by kernel_rfl) (by kernel_rfl) rfl fun ρ g w R => ?_
  obtain ⟨v1, h2, hM⟩ := bind_some hM
  have hE : some ((Network.mk v1.1.Legs v1.1.Off v1.1.Change), v1.2.1, v1.2.2.1, v1.2.2.2) = some r := hM
  have hE := Option.some.inj hE
  subst hE
  exact pr R 9999 [.new 0, .call true [] (.tup [.agg [.rs 6 (v1.1.Legs.map Leg.enc), .rs 1 (v1.1.Off.map encI), .v (.int .i64 v1.1.Change)], .c (.v (.string v1.2.1)), .c (.v (.string v1.2.2.1)), .c (.v (.int .i64 v1.2.2.2))]) [] []] [] [] [] (And.intro (And.intro (spec_DrawEarliestAt_ok a0 v1 h2) (rfl : ([] : List Nat) = [])) True.intro) (by kernel_rfl)

-- loop.example/g03014/spec.l1In
def spec_l1In (a0 : Int) (a1 : Int) (a2 : Int) : Option Bool :=
  bif (decide (a0 ≥ a1)) then
  some (decide (a0 ≤ a2))
  else
  some false
theorem spec_l1In_ok (a0 : Int) (a1 : Int) (a2 : Int) (r : Bool) (hM : spec_l1In a0 a1 a2 = some r) :
    Con Try.prog 64 [.c (.v (.int .i64 a0)), .c (.v (.int .i64 a1)), .c (.v (.int .i64 a2))] [] (.o (.c (.v (.bool r)))) [] [] := by
  unfold spec_l1In at hM
  refine cn (N := 15) (pids := []) Try_mixed Try.func64 (by kernel_rfl) (by kernel_rfl) (by kernel_rfl) rfl fun ρ g w R => ?_
  rcases cond_cases hM with ⟨h1, hM⟩ | ⟨h1, hM⟩
  · have hE : some (decide (a0 ≤ a2)) = some r := hM
    have hE := Option.some.inj hE
    subst hE
    exact pr R 9999 [.as 10 true] [] [] [] (And.intro h1 True.intro) (by kernel_rfl)
  · have hE : some false = some r := hM
    have hE := Option.some.inj hE
    subst hE
    exact pr R 9999 [.as 10 false] [] [] [] (And.intro h1 True.intro) (by kernel_rfl)

-- loop.example/g03014/spec.IsPlace
def spec_IsPlace_L1_b (a0 : ByteArray) (s2 : Int) : Option (Ctl Int Unit Bool) :=
  bif (decide (s2 < 3)) then
  (siM a0 s2).bind fun v4 =>
  (spec_l1In (w64 v4) 65 90).bind fun v6 =>
  bif (!v6) then
  some (.ret false)
  else
  some (.next (w64 (s2 + 1)))
  else
  some (.brk ())
def spec_IsPlace_L1 (a0 : ByteArray) (s : Int) : Option (Ctl Int Unit Bool) := spec_IsPlace_L1_b a0 s
def spec_IsPlace_L1_s (a0 : ByteArray) (s2 : Int) : St := ⟨[(0, .o (.c (.v (.string a0)))), (3, .o (.c (.v (.int .i64 s2))))], []⟩
def spec_IsPlace_L1_S (a0 : ByteArray) (s : Int) : St := spec_IsPlace_L1_s a0 s
def spec_IsPlace_L1_a : Option Bool :=
  some true
def spec_IsPlace_L1_k (x : (Unit) ⊕ (Bool)) : Option Bool := match x with
  | .inl t => spec_IsPlace_L1_a
  | .inr y => some y
def spec_IsPlace (a0 : ByteArray) : Option Bool :=
  bif ((a0.size : Int) != 3) then
  some false
  else
  (loopM (spec_IsPlace_L1 a0) big 0).bind (spec_IsPlace_L1_k)
theorem spec_IsPlace_ok (a0 : ByteArray) (r : Bool) (hM : spec_IsPlace a0 = some r) :
    Con Try.prog 66 [.c (.v (.string a0))] [] (.o (.c (.v (.bool r)))) [] [] := by
  unfold spec_IsPlace at hM
  refine cn (N := 17) (pids := []) Try_mixed Try.func66 (by kernel_rfl) (by kernel_rfl) (by kernel_rfl) rfl fun ρ g w R => ?_
  rcases cond_cases hM with ⟨h1, hM⟩ | ⟨h1, hM⟩
  · have hE : some false = some r := hM
    have hE := Option.some.inj hE
    subst hE
    exact pr R 9999 [.as 6 true] [] [] [] (And.intro h1 True.intro) (by kernel_rfl)
  · have K1 : ∀ (_ : Unit), spec_IsPlace_L1_a = some r → Gr R [.code (cAt Try.f66 [1, 1, 1])] (⟨[], []⟩) := by
      intro _ hM
      unfold spec_IsPlace_L1_a at hM
      have hE : some true = some r := hM
      have hE := Option.some.inj hE
      subst hE
      exact pr R 9999 [] [] [] [] True.intro (by kernel_rfl)
    refine pc R 9999 [.as 6 false] [.keep [0, 3] []] (k' := [.code (.loop (cAt Try.f66 [1, 1, 0, 1, 0, 0])), .blk 0, .code (cAt Try.f66 [1, 1, 1])]) (S' := spec_IsPlace_L1_S a0 0) (And.intro h1 True.intro) (by kernel_rfl) ?_
    refine lq (spec_IsPlace_L1_S a0) (body := spec_IsPlace_L1 a0) (k := spec_IsPlace_L1_k) hM fun m1 s c1 hM hK1 => ?_
    obtain ⟨s2, hs⟩ : ∃ z, z = s := ⟨_, rfl⟩
    subst hs
    have hM : spec_IsPlace_L1_b a0 s2 = some c1 := hM
    unfold spec_IsPlace_L1_b at hM
    rcases cond_cases hM with ⟨h3, hM⟩ | ⟨h3, hM⟩
    · obtain ⟨v4, h5, hM⟩ := bind_some hM
      obtain ⟨v6, h7, hM⟩ := bind_some hM
      rcases cond_cases hM with ⟨h8, hM⟩ | ⟨h8, hM⟩
      · have hE : some (Ctl.ret false) = some c1 := hM
        have hE := Option.some.inj hE
        subst hE
        have hE : some false = some r := hK1
        have hE := Option.some.inj hE
        subst hE
        exact pr R 9999 [.as 8 true, .ix [.int .u8 v4], .call false [] (.o (.c (.v (.bool v6)))) [] [], .as 16 true] [] [] [] (And.intro h3 (And.intro (siM_ok h5) (And.intro (spec_l1In_ok (w64 v4) 65 90 v6 h7) (And.intro h8 True.intro)))) (by kernel_rfl)
      · have hE : some (Ctl.next (w64 (s2 + 1))) = some c1 := hM
        have hE := Option.some.inj hE
        subst hE
        exact pc R 9999 [.as 8 true, .ix [.int .u8 v4], .call false [] (.o (.c (.v (.bool v6)))) [] [], .as 16 false] [.keep [0, 3] []] (And.intro h3 (And.intro (siM_ok h5) (And.intro (spec_l1In_ok (w64 v4) 65 90 v6 h7) (And.intro h8 True.intro)))) (by kernel_rfl) (li (Sf := spec_IsPlace_L1_S a0) (M := Mk (spec_IsPlace_L1 a0) (spec_IsPlace_L1_k) r) (k := [.blk 0, .code (cAt Try.f66 [1, 1, 1])]) (Nat.lt_succ_self m1) hK1)
    · have hE : some (Ctl.brk ()) = some c1 := hM
      have hE := Option.some.inj hE
      subst hE
      exact pc R 5 [.as 8 false] [.keep [] []] (And.intro h3 True.intro) (by kernel_rfl) (K1 () hK1)

-- loop.example/g03014/spec.IsLeg
def spec_IsLeg (a0 : Leg) : Option Bool :=
  (spec_IsPlace a0.From).bind fun v1 =>
  bif v1 then
  (spec_IsPlace a0.To).bind fun v4 =>
  bif v4 then
  bif (!(a0.From.toList == a0.To.toList)) then
  (spec_l1In a0.Start 0 1439).bind fun v8 =>
  bif v8 then
  (spec_l1In a0.Takes 1 4320).bind fun v11 =>
  bif v11 then
  (spec_l1In a0.Days 1 127).bind fun v14 =>
  bif v14 then
  (spec_l1In a0.Room 0 1000000).bind fun v17 =>
  some v17
  else
  some false
  else
  some false
  else
  some false
  else
  some false
  else
  some false
  else
  some false
theorem spec_IsLeg_ok (a0 : Leg) (r : Bool) (hM : spec_IsLeg a0 = some r) :
    Con Try.prog 38 [.c (.v (.agg (Leg.enc a0).toArray))] [] (.o (.c (.v (.bool r)))) [] [] := by
  unfold spec_IsLeg at hM
  refine cn (N := 38) (pids := []) Try_mixed Try.func38 (by kernel_rfl) (by kernel_rfl) (by kernel_rfl) rfl fun ρ g w R => ?_
  obtain ⟨v1, h2, hM⟩ := bind_some hM
  rcases cond_cases hM with ⟨h3, hM⟩ | ⟨h3, hM⟩
  · obtain ⟨v4, h5, hM⟩ := bind_some hM
    rcases cond_cases hM with ⟨h6, hM⟩ | ⟨h6, hM⟩
    · rcases cond_cases hM with ⟨h7, hM⟩ | ⟨h7, hM⟩
      · obtain ⟨v8, h9, hM⟩ := bind_some hM
        rcases cond_cases hM with ⟨h10, hM⟩ | ⟨h10, hM⟩
        · obtain ⟨v11, h12, hM⟩ := bind_some hM
          rcases cond_cases hM with ⟨h13, hM⟩ | ⟨h13, hM⟩
          · obtain ⟨v14, h15, hM⟩ := bind_some hM
            rcases cond_cases hM with ⟨h16, hM⟩ | ⟨h16, hM⟩
            · obtain ⟨v17, h18, hM⟩ := bind_some hM
              have hE : some v17 = some r := hM
              have hE := Option.some.inj hE
              subst hE
              exact pr R 9999 [.new 0, .call false [] (.o (.c (.v (.bool v1)))) [] [], .as 6 true, .call false [] (.o (.c (.v (.bool v4)))) [] [], .as 11 true, .as 18 true, .call false [] (.o (.c (.v (.bool v8)))) [] [], .as 23 true, .call false [] (.o (.c (.v (.bool v11)))) [] [], .as 28 true, .call false [] (.o (.c (.v (.bool v14)))) [] [], .as 33 true, .call false [] (.o (.c (.v (.bool v17)))) [] []] [] [] [] (And.intro (spec_IsPlace_ok a0.From v1 h2) (And.intro h3 (And.intro (spec_IsPlace_ok a0.To v4 h5) (And.intro h6 (And.intro h7 (And.intro (spec_l1In_ok a0.Start 0 1439 v8 h9) (And.intro h10 (And.intro (spec_l1In_ok a0.Takes 1 4320 v11 h12) (And.intro h13 (And.intro (spec_l1In_ok a0.Days 1 127 v14 h15) (And.intro h16 (And.intro (spec_l1In_ok a0.Room 0 1000000 v17 h18) True.intro)))))))))))) (by kernel_rfl)
            · have hE : some false = some r := hM
              have hE := Option.some.inj hE
              subst hE
              exact pr R 9999 [.new 0, .call false [] (.o (.c (.v (.bool v1)))) [] [], .as 6 true, .call false [] (.o (.c (.v (.bool v4)))) [] [], .as 11 true, .as 18 true, .call false [] (.o (.c (.v (.bool v8)))) [] [], .as 23 true, .call false [] (.o (.c (.v (.bool v11)))) [] [], .as 28 true, .call false [] (.o (.c (.v (.bool v14)))) [] [], .as 33 false] [] [] [] (And.intro (spec_IsPlace_ok a0.From v1 h2) (And.intro h3 (And.intro (spec_IsPlace_ok a0.To v4 h5) (And.intro h6 (And.intro h7 (And.intro (spec_l1In_ok a0.Start 0 1439 v8 h9) (And.intro h10 (And.intro (spec_l1In_ok a0.Takes 1 4320 v11 h12) (And.intro h13 (And.intro (spec_l1In_ok a0.Days 1 127 v14 h15) (And.intro h16 True.intro))))))))))) (by kernel_rfl)
          · have hE : some false = some r := hM
            have hE := Option.some.inj hE
            subst hE
            exact pr R 9999 [.new 0, .call false [] (.o (.c (.v (.bool v1)))) [] [], .as 6 true, .call false [] (.o (.c (.v (.bool v4)))) [] [], .as 11 true, .as 18 true, .call false [] (.o (.c (.v (.bool v8)))) [] [], .as 23 true, .call false [] (.o (.c (.v (.bool v11)))) [] [], .as 28 false] [] [] [] (And.intro (spec_IsPlace_ok a0.From v1 h2) (And.intro h3 (And.intro (spec_IsPlace_ok a0.To v4 h5) (And.intro h6 (And.intro h7 (And.intro (spec_l1In_ok a0.Start 0 1439 v8 h9) (And.intro h10 (And.intro (spec_l1In_ok a0.Takes 1 4320 v11 h12) (And.intro h13 True.intro))))))))) (by kernel_rfl)
        · have hE : some false = some r := hM
          have hE := Option.some.inj hE
          subst hE
          exact pr R 9999 [.new 0, .call false [] (.o (.c (.v (.bool v1)))) [] [], .as 6 true, .call false [] (.o (.c (.v (.bool v4)))) [] [], .as 11 true, .as 18 true, .call false [] (.o (.c (.v (.bool v8)))) [] [], .as 23 false] [] [] [] (And.intro (spec_IsPlace_ok a0.From v1 h2) (And.intro h3 (And.intro (spec_IsPlace_ok a0.To v4 h5) (And.intro h6 (And.intro h7 (And.intro (spec_l1In_ok a0.Start 0 1439 v8 h9) (And.intro h10 True.intro))))))) (by kernel_rfl)
      · have hE : some false = some r := hM
        have hE := Option.some.inj hE
        subst hE
        exact pr R 9999 [.new 0, .call false [] (.o (.c (.v (.bool v1)))) [] [], .as 6 true, .call false [] (.o (.c (.v (.bool v4)))) [] [], .as 11 true, .as 18 false] [] [] [] (And.intro (spec_IsPlace_ok a0.From v1 h2) (And.intro h3 (And.intro (spec_IsPlace_ok a0.To v4 h5) (And.intro h6 (And.intro h7 True.intro))))) (by kernel_rfl)
    · have hE : some false = some r := hM
      have hE := Option.some.inj hE
      subst hE
      exact pr R 9999 [.new 0, .call false [] (.o (.c (.v (.bool v1)))) [] [], .as 6 true, .call false [] (.o (.c (.v (.bool v4)))) [] [], .as 11 false] [] [] [] (And.intro (spec_IsPlace_ok a0.From v1 h2) (And.intro h3 (And.intro (spec_IsPlace_ok a0.To v4 h5) (And.intro h6 True.intro)))) (by kernel_rfl)
  · have hE : some false = some r := hM
    have hE := Option.some.inj hE
    subst hE
    exact pr R 9999 [.new 0, .call false [] (.o (.c (.v (.bool v1)))) [] [], .as 6 false] [] [] [] (And.intro (spec_IsPlace_ok a0.From v1 h2) (And.intro h3 True.intro)) (by kernel_rfl)

-- loop.example/g03014/spec.IsNetwork
def spec_IsNetwork_L2_b (a0 : Network) (s2 : Int) : Option (Ctl Int Unit Bool) :=
  bif (decide (s2 < (a0.Off.length : Int))) then
  (gi a0.Off s2).bind fun v8 =>
  (spec_l1In v8 0 60).bind fun v10 =>
  bif (!v10) then
  some (.ret false)
  else
  bif (decide (s2 > 0)) then
  (gi a0.Off (w64 (s2 - 1))).bind fun v14 =>
  (gi a0.Off s2).bind fun v16 =>
  bif (decide (v14 ≥ v16)) then
  some (.ret false)
  else
  some (.next (w64 (s2 + 1)))
  else
  some (.next (w64 (s2 + 1)))
  else
  some (.brk ())
def spec_IsNetwork_L2 (a0 : Network) (s : Int) : Option (Ctl Int Unit Bool) := spec_IsNetwork_L2_b a0 s
def spec_IsNetwork_L2_s (a0 : Network) (s2 : Int) : St := ⟨[(1, .o (.c (.ptr 0 0))), (4, .o (.c (.v (.int .i64 s2))))], [(0, .box 27 [.rs 6 (a0.Legs.map Leg.enc), .rs 1 (a0.Off.map encI), .v (.int .i64 a0.Change)])]⟩
def spec_IsNetwork_L2_S (a0 : Network) (s : Int) : St := spec_IsNetwork_L2_s a0 s
def spec_IsNetwork_L2_a (a0 : Network) : Option Bool :=
  bif (decide ((a0.Legs.length : Int) ≤ 20)) then
  bif (decide ((a0.Off.length : Int) ≤ 10)) then
  (spec_l1In a0.Change 0 240).bind fun v5 =>
  some v5
  else
  some false
  else
  some false
def spec_IsNetwork_L2_k (a0 : Network) (x : (Unit) ⊕ (Bool)) : Option Bool := match x with
  | .inl t => spec_IsNetwork_L2_a a0
  | .inr y => some y
def spec_IsNetwork_L1_b (a0 : Network) (s1 : Int) : Option (Ctl Int Unit Bool) :=
  bif (decide (s1 < (a0.Legs.length : Int))) then
  (gi a0.Legs s1).bind fun v20 =>
  (spec_IsLeg v20).bind fun v22 =>
  bif (!v22) then
  some (.ret false)
  else
  some (.next (w64 (s1 + 1)))
  else
  some (.brk ())
def spec_IsNetwork_L1 (a0 : Network) (s : Int) : Option (Ctl Int Unit Bool) := spec_IsNetwork_L1_b a0 s
def spec_IsNetwork_L1_s (a0 : Network) (s1 : Int) : St := ⟨[(1, .o (.c (.ptr 0 0))), (3, .o (.c (.v (.int .i64 s1))))], [(0, .box 27 [.rs 6 (a0.Legs.map Leg.enc), .rs 1 (a0.Off.map encI), .v (.int .i64 a0.Change)])]⟩
def spec_IsNetwork_L1_S (a0 : Network) (s : Int) : St := spec_IsNetwork_L1_s a0 s
def spec_IsNetwork_L1_a (a0 : Network) : Option Bool :=
  (loopM (spec_IsNetwork_L2 a0) big 0).bind (spec_IsNetwork_L2_k a0)
def spec_IsNetwork_L1_k (a0 : Network) (x : (Unit) ⊕ (Bool)) : Option Bool := match x with
  | .inl t => spec_IsNetwork_L1_a a0
  | .inr y => some y
def spec_IsNetwork (a0 : Network) : Option Bool :=
  (loopM (spec_IsNetwork_L1 a0) big 0).bind (spec_IsNetwork_L1_k a0)
theorem spec_IsNetwork_ok (a0 : Network) (r : Bool) (hM : spec_IsNetwork a0 = some r) :
    Con Try.prog 35 [.agg [.rs 6 (a0.Legs.map Leg.enc), .rs 1 (a0.Off.map encI), .v (.int .i64 a0.Change)]] [] (.o (.c (.v (.bool r)))) [] [] := by
  unfold spec_IsNetwork at hM
  refine cn (N := 66) (pids := []) Try_mixed Try.func35 (by kernel_rfl) (by kernel_rfl) (by kernel_rfl) rfl fun ρ g w R => ?_
  have K1 : ∀ (_ : Unit), spec_IsNetwork_L1_a a0 = some r → Gr R [.code (cAt Try.f35 [1, 1])] (⟨[(1, .o (.c (.ptr 0 0)))], [(0, .box 27 [.rs 6 (a0.Legs.map Leg.enc), .rs 1 (a0.Off.map encI), .v (.int .i64 a0.Change)])]⟩) := by
    intro _ hM
    unfold spec_IsNetwork_L1_a at hM
    have K2 : ∀ (_ : Unit), spec_IsNetwork_L2_a a0 = some r → Gr R [.code (cAt Try.f35 [1, 1, 1])] (⟨[(1, .o (.c (.ptr 0 0)))], [(0, .box 27 [.rs 6 (a0.Legs.map Leg.enc), .rs 1 (a0.Off.map encI), .v (.int .i64 a0.Change)])]⟩) := by
      intro _ hM
      unfold spec_IsNetwork_L2_a at hM
      rcases cond_cases hM with ⟨h3, hM⟩ | ⟨h3, hM⟩
      · rcases cond_cases hM with ⟨h4, hM⟩ | ⟨h4, hM⟩
        · obtain ⟨v5, h6, hM⟩ := bind_some hM
          have hE : some v5 = some r := hM
          have hE := Option.some.inj hE
          subst hE
          exact pr R 9999 [.ln (a0.Legs.length), .as 55 true, .ln (a0.Off.length), .as 61 true, .call false [] (.o (.c (.v (.bool v5)))) [] []] [] [] [] (And.intro (lenm Leg.enc a0.Legs) (And.intro h3 (And.intro (lenm encI a0.Off) (And.intro h4 (And.intro (spec_l1In_ok a0.Change 0 240 v5 h6) True.intro))))) (by kernel_rfl)
        · have hE : some false = some r := hM
          have hE := Option.some.inj hE
          subst hE
          exact pr R 9999 [.ln (a0.Legs.length), .as 55 true, .ln (a0.Off.length), .as 61 false] [] [] [] (And.intro (lenm Leg.enc a0.Legs) (And.intro h3 (And.intro (lenm encI a0.Off) (And.intro h4 True.intro)))) (by kernel_rfl)
      · have hE : some false = some r := hM
        have hE := Option.some.inj hE
        subst hE
        exact pr R 9999 [.ln (a0.Legs.length), .as 55 false] [] [] [] (And.intro (lenm Leg.enc a0.Legs) (And.intro h3 True.intro)) (by kernel_rfl)
    refine pc R 9999 [] [.keep [1, 4] [0]] (k' := [.code (.loop (cAt Try.f35 [1, 1, 0, 1, 0, 0])), .blk 2, .code (cAt Try.f35 [1, 1, 1])]) (S' := spec_IsNetwork_L2_S a0 0) True.intro (by kernel_rfl) ?_
    refine lq (spec_IsNetwork_L2_S a0) (body := spec_IsNetwork_L2 a0) (k := spec_IsNetwork_L2_k a0) hM fun m2 s c2 hM hK2 => ?_
    obtain ⟨s2, hs⟩ : ∃ z, z = s := ⟨_, rfl⟩
    subst hs
    have hM : spec_IsNetwork_L2_b a0 s2 = some c2 := hM
    unfold spec_IsNetwork_L2_b at hM
    rcases cond_cases hM with ⟨h7, hM⟩ | ⟨h7, hM⟩
    · obtain ⟨v8, h9, hM⟩ := bind_some hM
      obtain ⟨v10, h11, hM⟩ := bind_some hM
      rcases cond_cases hM with ⟨h12, hM⟩ | ⟨h12, hM⟩
      · have hE : some (Ctl.ret false) = some c2 := hM
        have hE := Option.some.inj hE
        subst hE
        have hE : some false = some r := hK2
        have hE := Option.some.inj hE
        subst hE
        exact pr R 9999 [.ln (a0.Off.length), .as 23 true, .ix (encI v8), .call false [] (.o (.c (.v (.bool v10)))) [] [], .as 33 true] [] [] [] (And.intro (lenm encI a0.Off) (And.intro h7 (And.intro (gi_map encI h9) (And.intro (spec_l1In_ok v8 0 60 v10 h11) (And.intro h12 True.intro))))) (by kernel_rfl)
      · rcases cond_cases hM with ⟨h13, hM⟩ | ⟨h13, hM⟩
        · obtain ⟨v14, h15, hM⟩ := bind_some hM
          obtain ⟨v16, h17, hM⟩ := bind_some hM
          rcases cond_cases hM with ⟨h18, hM⟩ | ⟨h18, hM⟩
          · have hE : some (Ctl.ret false) = some c2 := hM
            have hE := Option.some.inj hE
            subst hE
            have hE : some false = some r := hK2
            have hE := Option.some.inj hE
            subst hE
            exact pr R 9999 [.ln (a0.Off.length), .as 23 true, .ix (encI v8), .call false [] (.o (.c (.v (.bool v10)))) [] [], .as 33 false, .as 36 true, .ix (encI v14), .ix (encI v16), .as 50 true] [] [] [] (And.intro (lenm encI a0.Off) (And.intro h7 (And.intro (gi_map encI h9) (And.intro (spec_l1In_ok v8 0 60 v10 h11) (And.intro h12 (And.intro h13 (And.intro (gi_map encI h15) (And.intro (gi_map encI h17) (And.intro h18 True.intro))))))))) (by kernel_rfl)
          · have hE : some (Ctl.next (w64 (s2 + 1))) = some c2 := hM
            have hE := Option.some.inj hE
            subst hE
            exact pc R 9999 [.ln (a0.Off.length), .as 23 true, .ix (encI v8), .call false [] (.o (.c (.v (.bool v10)))) [] [], .as 33 false, .as 36 true, .ix (encI v14), .ix (encI v16), .as 50 false] [.keep [1, 4] [0]] (And.intro (lenm encI a0.Off) (And.intro h7 (And.intro (gi_map encI h9) (And.intro (spec_l1In_ok v8 0 60 v10 h11) (And.intro h12 (And.intro h13 (And.intro (gi_map encI h15) (And.intro (gi_map encI h17) (And.intro h18 True.intro))))))))) (by kernel_rfl) (li (Sf := spec_IsNetwork_L2_S a0) (M := Mk (spec_IsNetwork_L2 a0) (spec_IsNetwork_L2_k a0) r) (k := [.blk 2, .code (cAt Try.f35 [1, 1, 1])]) (Nat.lt_succ_self m2) hK2)
        · have hE : some (Ctl.next (w64 (s2 + 1))) = some c2 := hM
          have hE := Option.some.inj hE
          subst hE
          exact pc R 9999 [.ln (a0.Off.length), .as 23 true, .ix (encI v8), .call false [] (.o (.c (.v (.bool v10)))) [] [], .as 33 false, .as 36 false] [.keep [1, 4] [0]] (And.intro (lenm encI a0.Off) (And.intro h7 (And.intro (gi_map encI h9) (And.intro (spec_l1In_ok v8 0 60 v10 h11) (And.intro h12 (And.intro h13 True.intro)))))) (by kernel_rfl) (li (Sf := spec_IsNetwork_L2_S a0) (M := Mk (spec_IsNetwork_L2 a0) (spec_IsNetwork_L2_k a0) r) (k := [.blk 2, .code (cAt Try.f35 [1, 1, 1])]) (Nat.lt_succ_self m2) hK2)
    · have hE : some (Ctl.brk ()) = some c2 := hM
      have hE := Option.some.inj hE
      subst hE
      exact pc R 5 [.ln (a0.Off.length), .as 23 false] [.keep [1] [0]] (And.intro (lenm encI a0.Off) (And.intro h7 True.intro)) (by kernel_rfl) (K2 () hK2)
  refine pc R 9999 [.new 0] [.keep [1, 3] [0]] (k' := [.code (.loop (cAt Try.f35 [1, 0, 1, 0, 0])), .blk 0, .code (cAt Try.f35 [1, 1])]) (S' := spec_IsNetwork_L1_S a0 0) True.intro (by kernel_rfl) ?_
  refine lq (spec_IsNetwork_L1_S a0) (body := spec_IsNetwork_L1 a0) (k := spec_IsNetwork_L1_k a0) hM fun m1 s c1 hM hK1 => ?_
  obtain ⟨s1, hs⟩ : ∃ z, z = s := ⟨_, rfl⟩
  subst hs
  have hM : spec_IsNetwork_L1_b a0 s1 = some c1 := hM
  unfold spec_IsNetwork_L1_b at hM
  rcases cond_cases hM with ⟨h19, hM⟩ | ⟨h19, hM⟩
  · obtain ⟨v20, h21, hM⟩ := bind_some hM
    obtain ⟨v22, h23, hM⟩ := bind_some hM
    rcases cond_cases hM with ⟨h24, hM⟩ | ⟨h24, hM⟩
    · have hE : some (Ctl.ret false) = some c1 := hM
      have hE := Option.some.inj hE
      subst hE
      have hE : some false = some r := hK1
      have hE := Option.some.inj hE
      subst hE
      exact pr R 9999 [.ln (a0.Legs.length), .as 9 true, .ix (Leg.enc v20), .call false [] (.o (.c (.v (.bool v22)))) [] [], .as 18 true] [] [] [] (And.intro (lenm Leg.enc a0.Legs) (And.intro h19 (And.intro (gi_map Leg.enc h21) (And.intro (spec_IsLeg_ok v20 v22 h23) (And.intro h24 True.intro))))) (by kernel_rfl)
    · have hE : some (Ctl.next (w64 (s1 + 1))) = some c1 := hM
      have hE := Option.some.inj hE
      subst hE
      exact pc R 9999 [.ln (a0.Legs.length), .as 9 true, .ix (Leg.enc v20), .call false [] (.o (.c (.v (.bool v22)))) [] [], .as 18 false] [.keep [1, 3] [0]] (And.intro (lenm Leg.enc a0.Legs) (And.intro h19 (And.intro (gi_map Leg.enc h21) (And.intro (spec_IsLeg_ok v20 v22 h23) (And.intro h24 True.intro))))) (by kernel_rfl) (li (Sf := spec_IsNetwork_L1_S a0) (M := Mk (spec_IsNetwork_L1 a0) (spec_IsNetwork_L1_k a0) r) (k := [.blk 0, .code (cAt Try.f35 [1, 1])]) (Nat.lt_succ_self m1) hK1)
  · have hE : some (Ctl.brk ()) = some c1 := hM
    have hE := Option.some.inj hE
    subst hE
    exact pc R 5 [.ln (a0.Legs.length), .as 9 false] [.keep [1] [0]] (And.intro (lenm Leg.enc a0.Legs) (And.intro h19 True.intro)) (by kernel_rfl) (K1 () hK1)

-- loop.example/g03014/laws.FnLatest
def laws_FnLatest (a0 : (List Int)) : Option Bool :=
  (laws_big a0).bind fun v1 =>
  bif v1 then
  some true
  else
  (spec_DrawLatestStart a0).bind fun v4 =>
  bif (decide (v4.2.2.2 < 0)) then
  (impl_LatestStart v4.1 v4.2.1 v4.2.2.1 v4.2.2.2).bind fun v7 =>
  some (decide (v7 ≥ (-1)))
  else
  bif (decide (v4.2.2.2 ≥ 100000)) then
  (impl_LatestStart v4.1 v4.2.1 v4.2.2.1 v4.2.2.2).bind fun v10 =>
  some (decide (v10 ≥ (-1)))
  else
  (spec_IsNetwork v4.1).bind fun v12 =>
  bif (!v12) then
  (impl_LatestStart v4.1 v4.2.1 v4.2.2.1 v4.2.2.2).bind fun v15 =>
  some (decide (v15 ≥ (-1)))
  else
  (spec_PlacesOf v4.1).bind fun v17 =>
  (laws_index v17 v4.2.1).bind fun v19 =>
  bif (decide (v19 < 0)) then
  (impl_LatestStart v4.1 v4.2.1 v4.2.2.1 v4.2.2.2).bind fun v22 =>
  some (decide (v22 ≥ (-1)))
  else
  (spec_PlacesOf v4.1).bind fun v24 =>
  (laws_index v24 v4.2.2.1).bind fun v26 =>
  bif (decide (v26 < 0)) then
  (impl_LatestStart v4.1 v4.2.1 v4.2.2.1 v4.2.2.2).bind fun v29 =>
  some (decide (v29 ≥ (-1)))
  else
  (impl_LatestStart v4.1 v4.2.1 v4.2.2.1 v4.2.2.2).bind fun v31 =>
  (impl_EarliestAt v4.1 v4.2.1 v4.2.2.1 (w64 (v31 + 1))).bind fun v33 =>
  bif (decide (v33 ≥ 0)) then
  bif (decide (v33 ≤ v4.2.2.2)) then
  some false
  else
  (impl_EarliestAt v4.1 v4.2.1 v4.2.2.1 v31).bind fun v37 =>
  bif (v31 == (-1)) then
  some true
  else
  bif (decide (v37 ≥ 0)) then
  some (decide (v37 ≤ v4.2.2.2))
  else
  some false
  else
  (impl_EarliestAt v4.1 v4.2.1 v4.2.2.1 v31).bind fun v41 =>
  bif (v31 == (-1)) then
  some true
  else
  bif (decide (v41 ≥ 0)) then
  some (decide (v41 ≤ v4.2.2.2))
  else
  some false
theorem laws_FnLatest_ok (a0 : (List Int)) (r : Bool) (hM : laws_FnLatest a0 = some r) :
    Con Try.prog 7 [.c (.rs 1 (a0.map encU8))] [] (.o (.c (.v (.bool r)))) [] [] := by
  unfold laws_FnLatest at hM
  refine cn (N := 84) (pids := []) Try_mixed Try.func7 (by kernel_rfl) (by kernel_rfl) (by kernel_rfl) rfl fun ρ g w R => ?_
  obtain ⟨v1, h2, hM⟩ := bind_some hM
  rcases cond_cases hM with ⟨h3, hM⟩ | ⟨h3, hM⟩
  · have hE : some true = some r := hM
    have hE := Option.some.inj hE
    subst hE
    exact pr R 9999 [.call false [] (.o (.c (.v (.bool v1)))) [] [], .as 11 true] [] [] [] (And.intro (laws_big_ok a0 v1 h2) (And.intro h3 True.intro)) (by kernel_rfl)
  · obtain ⟨v4, h5, hM⟩ := bind_some hM
    rcases cond_cases hM with ⟨h6, hM⟩ | ⟨h6, hM⟩
    · obtain ⟨v7, h8, hM⟩ := bind_some hM
      have hE : some (decide (v7 ≥ (-1))) = some r := hM
      have hE := Option.some.inj hE
      subst hE
      exact pr R 9999 [.call false [] (.o (.c (.v (.bool v1)))) [] [], .as 11 false, .call true [] (.tup [.agg [.rs 6 (v4.1.Legs.map Leg.enc), .rs 1 (v4.1.Off.map encI), .v (.int .i64 v4.1.Change)], .c (.v (.string v4.2.1)), .c (.v (.string v4.2.2.1)), .c (.v (.int .i64 v4.2.2.2))]) [] [], .new 0, .as 21 true, .call false [] (.o (.c (.v (.int .i64 v7)))) [] []] [] [] [] (And.intro (laws_big_ok a0 v1 h2) (And.intro h3 (And.intro (And.intro (spec_DrawLatestStart_ok a0 v4 h5) (rfl : ([] : List Nat) = [])) (And.intro h6 (And.intro (impl_LatestStart_ok v4.1 v4.2.1 v4.2.2.1 v4.2.2.2 v7 h8) True.intro))))) (by kernel_rfl)
    · rcases cond_cases hM with ⟨h9, hM⟩ | ⟨h9, hM⟩
      · obtain ⟨v10, h11, hM⟩ := bind_some hM
        have hE : some (decide (v10 ≥ (-1))) = some r := hM
        have hE := Option.some.inj hE
        subst hE
        exact pr R 9999 [.call false [] (.o (.c (.v (.bool v1)))) [] [], .as 11 false, .call true [] (.tup [.agg [.rs 6 (v4.1.Legs.map Leg.enc), .rs 1 (v4.1.Off.map encI), .v (.int .i64 v4.1.Change)], .c (.v (.string v4.2.1)), .c (.v (.string v4.2.2.1)), .c (.v (.int .i64 v4.2.2.2))]) [] [], .new 0, .as 21 false, .as 25 true, .call false [] (.o (.c (.v (.int .i64 v10)))) [] []] [] [] [] (And.intro (laws_big_ok a0 v1 h2) (And.intro h3 (And.intro (And.intro (spec_DrawLatestStart_ok a0 v4 h5) (rfl : ([] : List Nat) = [])) (And.intro h6 (And.intro h9 (And.intro (impl_LatestStart_ok v4.1 v4.2.1 v4.2.2.1 v4.2.2.2 v10 h11) True.intro)))))) (by kernel_rfl)
      · obtain ⟨v12, h13, hM⟩ := bind_some hM
        rcases cond_cases hM with ⟨h14, hM⟩ | ⟨h14, hM⟩
        · obtain ⟨v15, h16, hM⟩ := bind_some hM
          have hE : some (decide (v15 ≥ (-1))) = some r := hM
          have hE := Option.some.inj hE
          subst hE
          exact pr R 9999 [.call false [] (.o (.c (.v (.bool v1)))) [] [], .as 11 false, .call true [] (.tup [.agg [.rs 6 (v4.1.Legs.map Leg.enc), .rs 1 (v4.1.Off.map encI), .v (.int .i64 v4.1.Change)], .c (.v (.string v4.2.1)), .c (.v (.string v4.2.2.1)), .c (.v (.int .i64 v4.2.2.2))]) [] [], .new 0, .as 21 false, .as 25 false, .call false [] (.o (.c (.v (.bool v12)))) [] [], .as 30 true, .call false [] (.o (.c (.v (.int .i64 v15)))) [] []] [] [] [] (And.intro (laws_big_ok a0 v1 h2) (And.intro h3 (And.intro (And.intro (spec_DrawLatestStart_ok a0 v4 h5) (rfl : ([] : List Nat) = [])) (And.intro h6 (And.intro h9 (And.intro (spec_IsNetwork_ok v4.1 v12 h13) (And.intro h14 (And.intro (impl_LatestStart_ok v4.1 v4.2.1 v4.2.2.1 v4.2.2.2 v15 h16) True.intro)))))))) (by kernel_rfl)
        · obtain ⟨v17, h18, hM⟩ := bind_some hM
          obtain ⟨v19, h20, hM⟩ := bind_some hM
          rcases cond_cases hM with ⟨h21, hM⟩ | ⟨h21, hM⟩
          · obtain ⟨v22, h23, hM⟩ := bind_some hM
            have hE : some (decide (v22 ≥ (-1))) = some r := hM
            have hE := Option.some.inj hE
            subst hE
            exact pr R 9999 [.call false [] (.o (.c (.v (.bool v1)))) [] [], .as 11 false, .call true [] (.tup [.agg [.rs 6 (v4.1.Legs.map Leg.enc), .rs 1 (v4.1.Off.map encI), .v (.int .i64 v4.1.Change)], .c (.v (.string v4.2.1)), .c (.v (.string v4.2.2.1)), .c (.v (.int .i64 v4.2.2.2))]) [] [], .new 0, .as 21 false, .as 25 false, .call false [] (.o (.c (.v (.bool v12)))) [] [], .as 30 false, .call false [] (.o (.c (.sl 1))) [] [(1, .row 9 1 (v17.map encS))], .call false [] (.o (.c (.v (.int .i64 v19)))) [] [], .as 37 true, .call false [] (.o (.c (.v (.int .i64 v22)))) [] []] [] [] [] (And.intro (laws_big_ok a0 v1 h2) (And.intro h3 (And.intro (And.intro (spec_DrawLatestStart_ok a0 v4 h5) (rfl : ([] : List Nat) = [])) (And.intro h6 (And.intro h9 (And.intro (spec_IsNetwork_ok v4.1 v12 h13) (And.intro h14 (And.intro (And.intro (con_sw 1000 1 (spec_PlacesOf_ok v4.1 v17 h18)) (rfl : ([] : List Nat) = [])) (And.intro (laws_index_ok v17 v4.2.1 v19 h20) (And.intro h21 (And.intro (impl_LatestStart_ok v4.1 v4.2.1 v4.2.2.1 v4.2.2.2 v22 h23) True.intro))))))))))) (by kernel_rfl)
          · obtain ⟨v24, h25, hM⟩ := bind_some hM
            obtain ⟨v26, h27, hM⟩ := bind_some hM
            rcases cond_cases hM with ⟨h28, hM⟩ | ⟨h28, hM⟩
            · obtain ⟨v29, h30, hM⟩ := bind_some hM
              have hE : some (decide (v29 ≥ (-1))) = some r := hM
              have hE := Option.some.inj hE
              subst hE
              exact pr R 9999 [.call false [] (.o (.c (.v (.bool v1)))) [] [], .as 11 false, .call true [] (.tup [.agg [.rs 6 (v4.1.Legs.map Leg.enc), .rs 1 (v4.1.Off.map encI), .v (.int .i64 v4.1.Change)], .c (.v (.string v4.2.1)), .c (.v (.string v4.2.2.1)), .c (.v (.int .i64 v4.2.2.2))]) [] [], .new 0, .as 21 false, .as 25 false, .call false [] (.o (.c (.v (.bool v12)))) [] [], .as 30 false, .call false [] (.o (.c (.sl 1))) [] [(1, .row 9 1 (v17.map encS))], .call false [] (.o (.c (.v (.int .i64 v19)))) [] [], .as 37 false, .call false [] (.o (.c (.sl 2))) [] [(2, .row 9 1 (v24.map encS))], .call false [] (.o (.c (.v (.int .i64 v26)))) [] [], .as 43 true, .call false [] (.o (.c (.v (.int .i64 v29)))) [] []] [] [] [] (And.intro (laws_big_ok a0 v1 h2) (And.intro h3 (And.intro (And.intro (spec_DrawLatestStart_ok a0 v4 h5) (rfl : ([] : List Nat) = [])) (And.intro h6 (And.intro h9 (And.intro (spec_IsNetwork_ok v4.1 v12 h13) (And.intro h14 (And.intro (And.intro (con_sw 1000 1 (spec_PlacesOf_ok v4.1 v17 h18)) (rfl : ([] : List Nat) = [])) (And.intro (laws_index_ok v17 v4.2.1 v19 h20) (And.intro h21 (And.intro (And.intro (con_sw 1000 2 (spec_PlacesOf_ok v4.1 v24 h25)) (rfl : ([] : List Nat) = [])) (And.intro (laws_index_ok v24 v4.2.2.1 v26 h27) (And.intro h28 (And.intro (impl_LatestStart_ok v4.1 v4.2.1 v4.2.2.1 v4.2.2.2 v29 h30) True.intro)))))))))))))) (by kernel_rfl)
            · obtain ⟨v31, h32, hM⟩ := bind_some hM
              obtain ⟨v33, h34, hM⟩ := bind_some hM
              rcases cond_cases hM with ⟨h35, hM⟩ | ⟨h35, hM⟩
              · rcases cond_cases hM with ⟨h36, hM⟩ | ⟨h36, hM⟩
                · have hE : some false = some r := hM
                  have hE := Option.some.inj hE
                  subst hE
                  exact pr R 9999 [.call false [] (.o (.c (.v (.bool v1)))) [] [], .as 11 false, .call true [] (.tup [.agg [.rs 6 (v4.1.Legs.map Leg.enc), .rs 1 (v4.1.Off.map encI), .v (.int .i64 v4.1.Change)], .c (.v (.string v4.2.1)), .c (.v (.string v4.2.2.1)), .c (.v (.int .i64 v4.2.2.2))]) [] [], .new 0, .as 21 false, .as 25 false, .call false [] (.o (.c (.v (.bool v12)))) [] [], .as 30 false, .call false [] (.o (.c (.sl 1))) [] [(1, .row 9 1 (v17.map encS))], .call false [] (.o (.c (.v (.int .i64 v19)))) [] [], .as 37 false, .call false [] (.o (.c (.sl 2))) [] [(2, .row 9 1 (v24.map encS))], .call false [] (.o (.c (.v (.int .i64 v26)))) [] [], .as 43 false, .call false [] (.o (.c (.v (.int .i64 v31)))) [] [], .call false [] (.o (.c (.v (.int .i64 v33)))) [] [], .as 63 true, .as 67 true] [] [] [] (And.intro (laws_big_ok a0 v1 h2) (And.intro h3 (And.intro (And.intro (spec_DrawLatestStart_ok a0 v4 h5) (rfl : ([] : List Nat) = [])) (And.intro h6 (And.intro h9 (And.intro (spec_IsNetwork_ok v4.1 v12 h13) (And.intro h14 (And.intro (And.intro (con_sw 1000 1 (spec_PlacesOf_ok v4.1 v17 h18)) (rfl : ([] : List Nat) = [])) (And.intro (laws_index_ok v17 v4.2.1 v19 h20) (And.intro h21 (And.intro (And.intro (con_sw 1000 2 (spec_PlacesOf_ok v4.1 v24 h25)) (rfl : ([] : List Nat) = [])) (And.intro (laws_index_ok v24 v4.2.2.1 v26 h27) (And.intro h28 (And.intro (impl_LatestStart_ok v4.1 v4.2.1 v4.2.2.1 v4.2.2.2 v31 h32) (And.intro (impl_EarliestAt_ok v4.1 v4.2.1 v4.2.2.1 (w64 (v31 + 1)) v33 h34) (And.intro h35 (And.intro h36 True.intro))))))))))))))))) (by kernel_rfl)
                · obtain ⟨v37, h38, hM⟩ := bind_some hM
                  rcases cond_cases hM with ⟨h39, hM⟩ | ⟨h39, hM⟩
                  · have hE : some true = some r := hM
                    have hE := Option.some.inj hE
                    subst hE
                    exact pr R 9999 [.call false [] (.o (.c (.v (.bool v1)))) [] [], .as 11 false, .call true [] (.tup [.agg [.rs 6 (v4.1.Legs.map Leg.enc), .rs 1 (v4.1.Off.map encI), .v (.int .i64 v4.1.Change)], .c (.v (.string v4.2.1)), .c (.v (.string v4.2.2.1)), .c (.v (.int .i64 v4.2.2.2))]) [] [], .new 0, .as 21 false, .as 25 false, .call false [] (.o (.c (.v (.bool v12)))) [] [], .as 30 false, .call false [] (.o (.c (.sl 1))) [] [(1, .row 9 1 (v17.map encS))], .call false [] (.o (.c (.v (.int .i64 v19)))) [] [], .as 37 false, .call false [] (.o (.c (.sl 2))) [] [(2, .row 9 1 (v24.map encS))], .call false [] (.o (.c (.v (.int .i64 v26)))) [] [], .as 43 false, .call false [] (.o (.c (.v (.int .i64 v31)))) [] [], .call false [] (.o (.c (.v (.int .i64 v33)))) [] [], .as 63 true, .as 67 false, .call false [] (.o (.c (.v (.int .i64 v37)))) [] [], .as 75 true] [] [] [] (And.intro (laws_big_ok a0 v1 h2) (And.intro h3 (And.intro (And.intro (spec_DrawLatestStart_ok a0 v4 h5) (rfl : ([] : List Nat) = [])) (And.intro h6 (And.intro h9 (And.intro (spec_IsNetwork_ok v4.1 v12 h13) (And.intro h14 (And.intro (And.intro (con_sw 1000 1 (spec_PlacesOf_ok v4.1 v17 h18)) (rfl : ([] : List Nat) = [])) (And.intro (laws_index_ok v17 v4.2.1 v19 h20) (And.intro h21 (And.intro (And.intro (con_sw 1000 2 (spec_PlacesOf_ok v4.1 v24 h25)) (rfl : ([] : List Nat) = [])) (And.intro (laws_index_ok v24 v4.2.2.1 v26 h27) (And.intro h28 (And.intro (impl_LatestStart_ok v4.1 v4.2.1 v4.2.2.1 v4.2.2.2 v31 h32) (And.intro (impl_EarliestAt_ok v4.1 v4.2.1 v4.2.2.1 (w64 (v31 + 1)) v33 h34) (And.intro h35 (And.intro h36 (And.intro (impl_EarliestAt_ok v4.1 v4.2.1 v4.2.2.1 v31 v37 h38) (And.intro h39 True.intro))))))))))))))))))) (by kernel_rfl)
                  · rcases cond_cases hM with ⟨h40, hM⟩ | ⟨h40, hM⟩
                    · have hE : some (decide (v37 ≤ v4.2.2.2)) = some r := hM
                      have hE := Option.some.inj hE
                      subst hE
                      exact pr R 9999 [.call false [] (.o (.c (.v (.bool v1)))) [] [], .as 11 false, .call true [] (.tup [.agg [.rs 6 (v4.1.Legs.map Leg.enc), .rs 1 (v4.1.Off.map encI), .v (.int .i64 v4.1.Change)], .c (.v (.string v4.2.1)), .c (.v (.string v4.2.2.1)), .c (.v (.int .i64 v4.2.2.2))]) [] [], .new 0, .as 21 false, .as 25 false, .call false [] (.o (.c (.v (.bool v12)))) [] [], .as 30 false, .call false [] (.o (.c (.sl 1))) [] [(1, .row 9 1 (v17.map encS))], .call false [] (.o (.c (.v (.int .i64 v19)))) [] [], .as 37 false, .call false [] (.o (.c (.sl 2))) [] [(2, .row 9 1 (v24.map encS))], .call false [] (.o (.c (.v (.int .i64 v26)))) [] [], .as 43 false, .call false [] (.o (.c (.v (.int .i64 v31)))) [] [], .call false [] (.o (.c (.v (.int .i64 v33)))) [] [], .as 63 true, .as 67 false, .call false [] (.o (.c (.v (.int .i64 v37)))) [] [], .as 75 false, .as 78 true] [] [] [] (And.intro (laws_big_ok a0 v1 h2) (And.intro h3 (And.intro (And.intro (spec_DrawLatestStart_ok a0 v4 h5) (rfl : ([] : List Nat) = [])) (And.intro h6 (And.intro h9 (And.intro (spec_IsNetwork_ok v4.1 v12 h13) (And.intro h14 (And.intro (And.intro (con_sw 1000 1 (spec_PlacesOf_ok v4.1 v17 h18)) (rfl : ([] : List Nat) = [])) (And.intro (laws_index_ok v17 v4.2.1 v19 h20) (And.intro h21 (And.intro (And.intro (con_sw 1000 2 (spec_PlacesOf_ok v4.1 v24 h25)) (rfl : ([] : List Nat) = [])) (And.intro (laws_index_ok v24 v4.2.2.1 v26 h27) (And.intro h28 (And.intro (impl_LatestStart_ok v4.1 v4.2.1 v4.2.2.1 v4.2.2.2 v31 h32) (And.intro (impl_EarliestAt_ok v4.1 v4.2.1 v4.2.2.1 (w64 (v31 + 1)) v33 h34) (And.intro h35 (And.intro h36 (And.intro (impl_EarliestAt_ok v4.1 v4.2.1 v4.2.2.1 v31 v37 h38) (And.intro h39 (And.intro h40 True.intro)))))))))))))))))))) (by kernel_rfl)
                    · have hE : some false = some r := hM
                      have hE := Option.some.inj hE
                      subst hE
                      exact pr R 9999 [.call false [] (.o (.c (.v (.bool v1)))) [] [], .as 11 false, .call true [] (.tup [.agg [.rs 6 (v4.1.Legs.map Leg.enc), .rs 1 (v4.1.Off.map encI), .v (.int .i64 v4.1.Change)], .c (.v (.string v4.2.1)), .c (.v (.string v4.2.2.1)), .c (.v (.int .i64 v4.2.2.2))]) [] [], .new 0, .as 21 false, .as 25 false, .call false [] (.o (.c (.v (.bool v12)))) [] [], .as 30 false, .call false [] (.o (.c (.sl 1))) [] [(1, .row 9 1 (v17.map encS))], .call false [] (.o (.c (.v (.int .i64 v19)))) [] [], .as 37 false, .call false [] (.o (.c (.sl 2))) [] [(2, .row 9 1 (v24.map encS))], .call false [] (.o (.c (.v (.int .i64 v26)))) [] [], .as 43 false, .call false [] (.o (.c (.v (.int .i64 v31)))) [] [], .call false [] (.o (.c (.v (.int .i64 v33)))) [] [], .as 63 true, .as 67 false, .call false [] (.o (.c (.v (.int .i64 v37)))) [] [], .as 75 false, .as 78 false] [] [] [] (And.intro (laws_big_ok a0 v1 h2) (And.intro h3 (And.intro (And.intro (spec_DrawLatestStart_ok a0 v4 h5) (rfl : ([] : List Nat) = [])) (And.intro h6 (And.intro h9 (And.intro (spec_IsNetwork_ok v4.1 v12 h13) (And.intro h14 (And.intro (And.intro (con_sw 1000 1 (spec_PlacesOf_ok v4.1 v17 h18)) (rfl : ([] : List Nat) = [])) (And.intro (laws_index_ok v17 v4.2.1 v19 h20) (And.intro h21 (And.intro (And.intro (con_sw 1000 2 (spec_PlacesOf_ok v4.1 v24 h25)) (rfl : ([] : List Nat) = [])) (And.intro (laws_index_ok v24 v4.2.2.1 v26 h27) (And.intro h28 (And.intro (impl_LatestStart_ok v4.1 v4.2.1 v4.2.2.1 v4.2.2.2 v31 h32) (And.intro (impl_EarliestAt_ok v4.1 v4.2.1 v4.2.2.1 (w64 (v31 + 1)) v33 h34) (And.intro h35 (And.intro h36 (And.intro (impl_EarliestAt_ok v4.1 v4.2.1 v4.2.2.1 v31 v37 h38) (And.intro h39 (And.intro h40 True.intro)))))))))))))))))))) (by kernel_rfl)
              · obtain ⟨v41, h42, hM⟩ := bind_some hM
                rcases cond_cases hM with ⟨h43, hM⟩ | ⟨h43, hM⟩
                · have hE : some true = some r := hM
                  have hE := Option.some.inj hE
                  subst hE
                  exact pr R 9999 [.call false [] (.o (.c (.v (.bool v1)))) [] [], .as 11 false, .call true [] (.tup [.agg [.rs 6 (v4.1.Legs.map Leg.enc), .rs 1 (v4.1.Off.map encI), .v (.int .i64 v4.1.Change)], .c (.v (.string v4.2.1)), .c (.v (.string v4.2.2.1)), .c (.v (.int .i64 v4.2.2.2))]) [] [], .new 0, .as 21 false, .as 25 false, .call false [] (.o (.c (.v (.bool v12)))) [] [], .as 30 false, .call false [] (.o (.c (.sl 1))) [] [(1, .row 9 1 (v17.map encS))], .call false [] (.o (.c (.v (.int .i64 v19)))) [] [], .as 37 false, .call false [] (.o (.c (.sl 2))) [] [(2, .row 9 1 (v24.map encS))], .call false [] (.o (.c (.v (.int .i64 v26)))) [] [], .as 43 false, .call false [] (.o (.c (.v (.int .i64 v31)))) [] [], .call false [] (.o (.c (.v (.int .i64 v33)))) [] [], .as 63 false, .call false [] (.o (.c (.v (.int .i64 v41)))) [] [], .as 75 true] [] [] [] (And.intro (laws_big_ok a0 v1 h2) (And.intro h3 (And.intro (And.intro (spec_DrawLatestStart_ok a0 v4 h5) (rfl : ([] : List Nat) = [])) (And.intro h6 (And.intro h9 (And.intro (spec_IsNetwork_ok v4.1 v12 h13) (And.intro h14 (And.intro (And.intro (con_sw 1000 1 (spec_PlacesOf_ok v4.1 v17 h18)) (rfl : ([] : List Nat) = [])) (And.intro (laws_index_ok v17 v4.2.1 v19 h20) (And.intro h21 (And.intro (And.intro (con_sw 1000 2 (spec_PlacesOf_ok v4.1 v24 h25)) (rfl : ([] : List Nat) = [])) (And.intro (laws_index_ok v24 v4.2.2.1 v26 h27) (And.intro h28 (And.intro (impl_LatestStart_ok v4.1 v4.2.1 v4.2.2.1 v4.2.2.2 v31 h32) (And.intro (impl_EarliestAt_ok v4.1 v4.2.1 v4.2.2.1 (w64 (v31 + 1)) v33 h34) (And.intro h35 (And.intro (impl_EarliestAt_ok v4.1 v4.2.1 v4.2.2.1 v31 v41 h42) (And.intro h43 True.intro)))))))))))))))))) (by kernel_rfl)
                · rcases cond_cases hM with ⟨h44, hM⟩ | ⟨h44, hM⟩
                  · have hE : some (decide (v41 ≤ v4.2.2.2)) = some r := hM
                    have hE := Option.some.inj hE
                    subst hE
                    exact pr R 9999 [.call false [] (.o (.c (.v (.bool v1)))) [] [], .as 11 false, .call true [] (.tup [.agg [.rs 6 (v4.1.Legs.map Leg.enc), .rs 1 (v4.1.Off.map encI), .v (.int .i64 v4.1.Change)], .c (.v (.string v4.2.1)), .c (.v (.string v4.2.2.1)), .c (.v (.int .i64 v4.2.2.2))]) [] [], .new 0, .as 21 false, .as 25 false, .call false [] (.o (.c (.v (.bool v12)))) [] [], .as 30 false, .call false [] (.o (.c (.sl 1))) [] [(1, .row 9 1 (v17.map encS))], .call false [] (.o (.c (.v (.int .i64 v19)))) [] [], .as 37 false, .call false [] (.o (.c (.sl 2))) [] [(2, .row 9 1 (v24.map encS))], .call false [] (.o (.c (.v (.int .i64 v26)))) [] [], .as 43 false, .call false [] (.o (.c (.v (.int .i64 v31)))) [] [], .call false [] (.o (.c (.v (.int .i64 v33)))) [] [], .as 63 false, .call false [] (.o (.c (.v (.int .i64 v41)))) [] [], .as 75 false, .as 78 true] [] [] [] (And.intro (laws_big_ok a0 v1 h2) (And.intro h3 (And.intro (And.intro (spec_DrawLatestStart_ok a0 v4 h5) (rfl : ([] : List Nat) = [])) (And.intro h6 (And.intro h9 (And.intro (spec_IsNetwork_ok v4.1 v12 h13) (And.intro h14 (And.intro (And.intro (con_sw 1000 1 (spec_PlacesOf_ok v4.1 v17 h18)) (rfl : ([] : List Nat) = [])) (And.intro (laws_index_ok v17 v4.2.1 v19 h20) (And.intro h21 (And.intro (And.intro (con_sw 1000 2 (spec_PlacesOf_ok v4.1 v24 h25)) (rfl : ([] : List Nat) = [])) (And.intro (laws_index_ok v24 v4.2.2.1 v26 h27) (And.intro h28 (And.intro (impl_LatestStart_ok v4.1 v4.2.1 v4.2.2.1 v4.2.2.2 v31 h32) (And.intro (impl_EarliestAt_ok v4.1 v4.2.1 v4.2.2.1 (w64 (v31 + 1)) v33 h34) (And.intro h35 (And.intro (impl_EarliestAt_ok v4.1 v4.2.1 v4.2.2.1 v31 v41 h42) (And.intro h43 (And.intro h44 True.intro))))))))))))))))))) (by kernel_rfl)
                  · have hE : some false = some r := hM
                    have hE := Option.some.inj hE
                    subst hE
                    exact pr R 9999 [.call false [] (.o (.c (.v (.bool v1)))) [] [], .as 11 false, .call true [] (.tup [.agg [.rs 6 (v4.1.Legs.map Leg.enc), .rs 1 (v4.1.Off.map encI), .v (.int .i64 v4.1.Change)], .c (.v (.string v4.2.1)), .c (.v (.string v4.2.2.1)), .c (.v (.int .i64 v4.2.2.2))]) [] [], .new 0, .as 21 false, .as 25 false, .call false [] (.o (.c (.v (.bool v12)))) [] [], .as 30 false, .call false [] (.o (.c (.sl 1))) [] [(1, .row 9 1 (v17.map encS))], .call false [] (.o (.c (.v (.int .i64 v19)))) [] [], .as 37 false, .call false [] (.o (.c (.sl 2))) [] [(2, .row 9 1 (v24.map encS))], .call false [] (.o (.c (.v (.int .i64 v26)))) [] [], .as 43 false, .call false [] (.o (.c (.v (.int .i64 v31)))) [] [], .call false [] (.o (.c (.v (.int .i64 v33)))) [] [], .as 63 false, .call false [] (.o (.c (.v (.int .i64 v41)))) [] [], .as 75 false, .as 78 false] [] [] [] (And.intro (laws_big_ok a0 v1 h2) (And.intro h3 (And.intro (And.intro (spec_DrawLatestStart_ok a0 v4 h5) (rfl : ([] : List Nat) = [])) (And.intro h6 (And.intro h9 (And.intro (spec_IsNetwork_ok v4.1 v12 h13) (And.intro h14 (And.intro (And.intro (con_sw 1000 1 (spec_PlacesOf_ok v4.1 v17 h18)) (rfl : ([] : List Nat) = [])) (And.intro (laws_index_ok v17 v4.2.1 v19 h20) (And.intro h21 (And.intro (And.intro (con_sw 1000 2 (spec_PlacesOf_ok v4.1 v24 h25)) (rfl : ([] : List Nat) = [])) (And.intro (laws_index_ok v24 v4.2.2.1 v26 h27) (And.intro h28 (And.intro (impl_LatestStart_ok v4.1 v4.2.1 v4.2.2.1 v4.2.2.2 v31 h32) (And.intro (impl_EarliestAt_ok v4.1 v4.2.1 v4.2.2.1 (w64 (v31 + 1)) v33 h34) (And.intro h35 (And.intro (impl_EarliestAt_ok v4.1 v4.2.1 v4.2.2.1 v31 v41 h42) (And.intro h43 (And.intro h44 True.intro))))))))))))))))))) (by kernel_rfl)

-- loop.example/g03014/spec.l4Index
def spec_l4Index_L1_b (a0 : (List ByteArray)) (a1 : ByteArray) (s1 : Int) : Option (Ctl Int Unit Int) :=
  bif (decide (s1 < (a0.length : Int))) then
  (gi a0 s1).bind fun v3 =>
  bif (v3.toList == a1.toList) then
  some (.ret s1)
  else
  some (.next (w64 (s1 + 1)))
  else
  some (.brk ())
def spec_l4Index_L1 (a0 : (List ByteArray)) (a1 : ByteArray) (s : Int) : Option (Ctl Int Unit Int) := spec_l4Index_L1_b a0 a1 s
def spec_l4Index_L1_s (a0 : (List ByteArray)) (a1 : ByteArray) (s1 : Int) : St := ⟨[(0, .o (.c (.rs 1 (a0.map encS)))), (1, .o (.c (.v (.string a1)))), (5, .o (.c (.v (.int .i64 s1))))], []⟩
def spec_l4Index_L1_S (a0 : (List ByteArray)) (a1 : ByteArray) (s : Int) : St := spec_l4Index_L1_s a0 a1 s
def spec_l4Index_L1_a : Option Int :=
  some (-1)
def spec_l4Index_L1_k (x : (Unit) ⊕ (Int)) : Option Int := match x with
  | .inl t => spec_l4Index_L1_a
  | .inr y => some y
def spec_l4Index (a0 : (List ByteArray)) (a1 : ByteArray) : Option Int :=
  (loopM (spec_l4Index_L1 a0 a1) big 0).bind (spec_l4Index_L1_k)
theorem spec_l4Index_ok (a0 : (List ByteArray)) (a1 : ByteArray) (r : Int) (hM : spec_l4Index a0 a1 = some r) :
    Con Try.prog 67 [.c (.rs 1 (a0.map encS)), .c (.v (.string a1))] [] (.o (.c (.v (.int .i64 r)))) [] [] := by
  unfold spec_l4Index at hM
  refine cn (N := 19) (pids := []) Try_mixed Try.func67 (by kernel_rfl) (by kernel_rfl) (by kernel_rfl) rfl fun ρ g w R => ?_
  have K1 : ∀ (_ : Unit), spec_l4Index_L1_a = some r → Gr R [.code (cAt Try.f67 [1, 1])] (⟨[], []⟩) := by
    intro _ hM
    unfold spec_l4Index_L1_a at hM
    have hE : some (-1) = some r := hM
    have hE := Option.some.inj hE
    subst hE
    exact pr R 9999 [] [] [] [] True.intro (by kernel_rfl)
  refine pc R 9999 [] [.keep [0, 1, 5] []] (k' := [.code (.loop (cAt Try.f67 [1, 0, 1, 0, 0])), .blk 0, .code (cAt Try.f67 [1, 1])]) (S' := spec_l4Index_L1_S a0 a1 0) True.intro (by kernel_rfl) ?_
  refine lq (spec_l4Index_L1_S a0 a1) (body := spec_l4Index_L1 a0 a1) (k := spec_l4Index_L1_k) hM fun m1 s c1 hM hK1 => ?_
  obtain ⟨s1, hs⟩ : ∃ z, z = s := ⟨_, rfl⟩
  subst hs
  have hM : spec_l4Index_L1_b a0 a1 s1 = some c1 := hM
  unfold spec_l4Index_L1_b at hM
  rcases cond_cases hM with ⟨h2, hM⟩ | ⟨h2, hM⟩
  · obtain ⟨v3, h4, hM⟩ := bind_some hM
    rcases cond_cases hM with ⟨h5, hM⟩ | ⟨h5, hM⟩
    · have hE : some (Ctl.ret s1) = some c1 := hM
      have hE := Option.some.inj hE
      subst hE
      have hE : some s1 = some r := hK1
      have hE := Option.some.inj hE
      subst hE
      exact pr R 9999 [.ln (a0.length), .as 9 true, .ix (encS v3), .as 17 true] [] [] [] (And.intro (lenm encS a0) (And.intro h2 (And.intro (gi_map encS h4) (And.intro h5 True.intro)))) (by kernel_rfl)
    · have hE : some (Ctl.next (w64 (s1 + 1))) = some c1 := hM
      have hE := Option.some.inj hE
      subst hE
      exact pc R 9999 [.ln (a0.length), .as 9 true, .ix (encS v3), .as 17 false] [.keep [0, 1, 5] []] (And.intro (lenm encS a0) (And.intro h2 (And.intro (gi_map encS h4) (And.intro h5 True.intro)))) (by kernel_rfl) (li (Sf := spec_l4Index_L1_S a0 a1) (M := Mk (spec_l4Index_L1 a0 a1) (spec_l4Index_L1_k) r) (k := [.blk 0, .code (cAt Try.f67 [1, 1])]) (Nat.lt_succ_self m1) hK1)
  · have hE : some (Ctl.brk ()) = some c1 := hM
    have hE := Option.some.inj hE
    subst hE
    exact pc R 5 [.ln (a0.length), .as 9 false] [.keep [] []] (And.intro (lenm encS a0) (And.intro h2 True.intro)) (by kernel_rfl) (K1 () hK1)

-- loop.example/g03014/spec.Max
def spec_Max (a0 : Int) (a1 : Int) : Option Int :=
  bif (decide (a1 > a0)) then
  some a1
  else
  some a0
theorem spec_Max_ok (a0 : Int) (a1 : Int) (r : Int) (hM : spec_Max a0 a1 = some r) :
    Con Try.prog 98 [.c (.v (.int .i64 a0)), .c (.v (.int .i64 a1))] [] (.o (.c (.v (.int .i64 r)))) [] [] := by
  unfold spec_Max at hM
  refine cn (N := 10) (pids := []) Try_mixed Try.func98 (by kernel_rfl) (by kernel_rfl) (by kernel_rfl) rfl fun ρ g w R => ?_
  rcases cond_cases hM with ⟨h1, hM⟩ | ⟨h1, hM⟩
  · have hE : some a1 = some r := hM
    have hE := Option.some.inj hE
    subst hE
    exact pr R 9999 [.as 7 true] [] [] [] (And.intro h1 True.intro) (by kernel_rfl)
  · have hE : some a0 = some r := hM
    have hE := Option.some.inj hE
    subst hE
    exact pr R 9999 [.as 7 false] [] [] [] (And.intro h1 True.intro) (by kernel_rfl)

-- loop.example/g03014/spec.l4First
def spec_l4First_L1_b (a0 : (List ByteArray)) (a1 : Int) (a2 : Int) (s1 : (List Int)) (s2 : Int) : Option (Ctl ((List Int) × Int) (List Int) (List Int)) :=
  bif (decide (s2 < (a0.length : Int))) then
  bif (s2 == a1) then
  (spec_Max a2 0).bind fun v6 =>
  (ap 8 s1 ([v6] : List Int)).bind fun v8 =>
  some (.next (v8, w64 (s2 + 1)))
  else
  (ap 8 s1 ([(-1)] : List Int)).bind fun v10 =>
  some (.next (v10, w64 (s2 + 1)))
  else
  some (.brk s1)
def spec_l4First_L1 (a0 : (List ByteArray)) (a1 : Int) (a2 : Int) (s : (List Int) × Int) : Option (Ctl ((List Int) × Int) (List Int) (List Int)) := spec_l4First_L1_b a0 a1 a2 s.1 s.2
def spec_l4First_L1_s (a0 : (List ByteArray)) (a1 : Int) (a2 : Int) (s1 : (List Int)) (s2 : Int) : St := ⟨[(0, .o (.c (.rs 1 (a0.map encS)))), (1, .o (.c (.v (.int .i64 a1)))), (2, .o (.c (.v (.int .i64 a2)))), (7, .o (.c (.sl 0))), (8, .o (.c (.v (.int .i64 s2))))], [(0, .row 3 1 (s1.map encI))]⟩
def spec_l4First_L1_S (a0 : (List ByteArray)) (a1 : Int) (a2 : Int) (s : (List Int) × Int) : St := spec_l4First_L1_s a0 a1 a2 s.1 s.2
def spec_l4First_L1_a (s3 : (List Int)) : Option (List Int) :=
  some s3
def spec_l4First_L1_k (x : ((List Int)) ⊕ ((List Int))) : Option (List Int) := match x with
  | .inl t => spec_l4First_L1_a t
  | .inr y => some y
def spec_l4First (a0 : (List ByteArray)) (a1 : Int) (a2 : Int) : Option (List Int) :=
  (loopM (spec_l4First_L1 a0 a1 a2) big (([] : List Int), 0)).bind (spec_l4First_L1_k)
theorem spec_l4First_ok (a0 : (List ByteArray)) (a1 : Int) (a2 : Int) (r : (List Int)) (hM : spec_l4First a0 a1 a2 = some r) :
    Con Try.prog 86 [.c (.rs 1 (a0.map encS)), .c (.v (.int .i64 a1)), .c (.v (.int .i64 a2))] [] (.o (.c (.sl 1000))) [] [(1000, .row 3 1 (r.map encI))] := by
  unfold spec_l4First at hM
  refine cn (N := 28) (pids := []) Try_mixed Try.func86 (by kernel_rfl) (by kernel_rfl) (by kernel_rfl) rfl fun ρ g w R => ?_
  have K1 : ∀ (s3 : (List Int)), spec_l4First_L1_a s3 = some r → Gr R [.code (cAt Try.f86 [1, 1, 1])] (⟨[(7, .o (.c (.sl 0)))], [(0, .row 3 1 (s3.map encI))]⟩) := by
    intro s3 hM
    unfold spec_l4First_L1_a at hM
    have hE : some s3 = some r := hM
    have hE := Option.some.inj hE
    subst hE
    exact pr R 9999 [] [.sw 0 1000] [] [1000] True.intro (by kernel_rfl)
  refine pc R 9999 [.new 0] [.keep [0, 1, 2, 7, 8] [0]] (k' := [.code (.loop (cAt Try.f86 [1, 1, 0, 1, 0, 0])), .blk 0, .code (cAt Try.f86 [1, 1, 1])]) (S' := spec_l4First_L1_S a0 a1 a2 (([] : List Int), 0)) True.intro (by kernel_rfl) ?_
  refine lq (spec_l4First_L1_S a0 a1 a2) (body := spec_l4First_L1 a0 a1 a2) (k := spec_l4First_L1_k) hM fun m1 s c1 hM hK1 => ?_
  obtain ⟨s1, s2⟩ := s
  have hM : spec_l4First_L1_b a0 a1 a2 s1 s2 = some c1 := hM
  unfold spec_l4First_L1_b at hM
  rcases cond_cases hM with ⟨h4, hM⟩ | ⟨h4, hM⟩
  · rcases cond_cases hM with ⟨h5, hM⟩ | ⟨h5, hM⟩
    · obtain ⟨v6, h7, hM⟩ := bind_some hM
      obtain ⟨v8, h9, hM⟩ := bind_some hM
      have hE : some (Ctl.next (v8, w64 (s2 + 1))) = some c1 := hM
      have hE := Option.some.inj hE
      subst hE
      exact pc R 9999 [.ln (a0.length), .as 13 true, .as 18 true, .call false [] (.o (.c (.v (.int .i64 v6)))) [] [], .new 1, .new 2, .nm (v8.map encI)] [.sw 2 0, .keep [0, 1, 2, 7, 8] [0]] (And.intro (lenm encS a0) (And.intro h4 (And.intro h5 (And.intro (spec_Max_ok a2 0 v6 h7) (And.intro (ap_ok encI h9) True.intro))))) (by kernel_rfl) (li (Sf := spec_l4First_L1_S a0 a1 a2) (M := Mk (spec_l4First_L1 a0 a1 a2) (spec_l4First_L1_k) r) (k := [.blk 0, .code (cAt Try.f86 [1, 1, 1])]) (Nat.lt_succ_self m1) hK1)
    · obtain ⟨v10, h11, hM⟩ := bind_some hM
      have hE : some (Ctl.next (v10, w64 (s2 + 1))) = some c1 := hM
      have hE := Option.some.inj hE
      subst hE
      exact pc R 9999 [.ln (a0.length), .as 13 true, .as 18 false, .new 3, .new 4, .nm (v10.map encI)] [.sw 4 0, .keep [0, 1, 2, 7, 8] [0]] (And.intro (lenm encS a0) (And.intro h4 (And.intro h5 (And.intro (ap_ok encI h11) True.intro)))) (by kernel_rfl) (li (Sf := spec_l4First_L1_S a0 a1 a2) (M := Mk (spec_l4First_L1 a0 a1 a2) (spec_l4First_L1_k) r) (k := [.blk 0, .code (cAt Try.f86 [1, 1, 1])]) (Nat.lt_succ_self m1) hK1)
  · have hE : some (Ctl.brk s1) = some c1 := hM
    have hE := Option.some.inj hE
    subst hE
    exact pc R 5 [.ln (a0.length), .as 13 false] [.keep [7] [0]] (And.intro (lenm encS a0) (And.intro h4 True.intro)) (by kernel_rfl) (K1 s1 hK1)

-- loop.example/g03014/spec.l1Ints
def spec_l1Ints (a0 : (List Int)) : Option (List Int) :=
  (ap 8 ([] : List Int) a0).bind fun v1 =>
  some v1
theorem spec_l1Ints_ok (a0 : (List Int)) (r : (List Int)) (hM : spec_l1Ints a0 = some r) :
    Con Try.prog 99 [.c (.rs 1 (a0.map encI))] [] (.o (.c (.sl 1000))) [] [(1000, .row 3 1 (r.map encI))] := by
  unfold spec_l1Ints at hM
  refine cn (N := 6) (pids := []) Try_mixed Try.func99 (by kernel_rfl) (by kernel_rfl) (by kernel_rfl) rfl fun ρ g w R => ?_
  obtain ⟨v1, h2, hM⟩ := bind_some hM
  have hE : some v1 = some r := hM
  have hE := Option.some.inj hE
  subst hE
  exact pr R 9999 [.new 0, .new 1, .nm (v1.map encI)] [.sw 1 1000] [] [1000] (And.intro (ap_ok encI h2) True.intro) (by kernel_rfl)

-- loop.example/g03014/spec.l4Ready
def spec_l4Ready (a0 : Network) (a1 : Int) (a2 : Bool) : Option Int :=
  bif a2 then
  some a1
  else
  some (w64 (a1 + a0.Change))
theorem spec_l4Ready_ok (a0 : Network) (a1 : Int) (a2 : Bool) (r : Int) (hM : spec_l4Ready a0 a1 a2 = some r) :
    Con Try.prog 101 [.agg [.rs 6 (a0.Legs.map Leg.enc), .rs 1 (a0.Off.map encI), .v (.int .i64 a0.Change)], .c (.v (.int .i64 a1)), .c (.v (.bool a2))] [] (.o (.c (.v (.int .i64 r)))) [] [] := by
  unfold spec_l4Ready at hM
  refine cn (N := 13) (pids := []) Try_mixed Try.func101 (by kernel_rfl) (by kernel_rfl) (by kernel_rfl) rfl fun ρ g w R => ?_
  rcases cond_cases hM with ⟨h1, hM⟩ | ⟨h1, hM⟩
  · have hE : some a1 = some r := hM
    have hE := Option.some.inj hE
    subst hE
    exact pr R 9999 [.new 0, .as 7 true] [] [] [] (And.intro h1 True.intro) (by kernel_rfl)
  · have hE : some (w64 (a1 + a0.Change)) = some r := hM
    have hE := Option.some.inj hE
    subst hE
    exact pr R 9999 [.new 0, .as 7 false] [] [] [] (And.intro h1 True.intro) (by kernel_rfl)

-- loop.example/g03014/spec.l1Has
def spec_l1Has_L1_b (a0 : (List Int)) (a1 : Int) (s1 : Int) : Option (Ctl Int Unit Bool) :=
  bif (decide (s1 < (a0.length : Int))) then
  (gi a0 s1).bind fun v3 =>
  bif (v3 == a1) then
  some (.ret true)
  else
  some (.next (w64 (s1 + 1)))
  else
  some (.brk ())
def spec_l1Has_L1 (a0 : (List Int)) (a1 : Int) (s : Int) : Option (Ctl Int Unit Bool) := spec_l1Has_L1_b a0 a1 s
def spec_l1Has_L1_s (a0 : (List Int)) (a1 : Int) (s1 : Int) : St := ⟨[(0, .o (.c (.rs 1 (a0.map encI)))), (1, .o (.c (.v (.int .i64 a1)))), (5, .o (.c (.v (.int .i64 s1))))], []⟩
def spec_l1Has_L1_S (a0 : (List Int)) (a1 : Int) (s : Int) : St := spec_l1Has_L1_s a0 a1 s
def spec_l1Has_L1_a : Option Bool :=
  some false
def spec_l1Has_L1_k (x : (Unit) ⊕ (Bool)) : Option Bool := match x with
  | .inl t => spec_l1Has_L1_a
  | .inr y => some y
def spec_l1Has (a0 : (List Int)) (a1 : Int) : Option Bool :=
  (loopM (spec_l1Has_L1 a0 a1) big 0).bind (spec_l1Has_L1_k)
theorem spec_l1Has_ok (a0 : (List Int)) (a1 : Int) (r : Bool) (hM : spec_l1Has a0 a1 = some r) :
    Con Try.prog 94 [.c (.rs 1 (a0.map encI)), .c (.v (.int .i64 a1))] [] (.o (.c (.v (.bool r)))) [] [] := by
  unfold spec_l1Has at hM
  refine cn (N := 18) (pids := []) Try_mixed Try.func94 (by kernel_rfl) (by kernel_rfl) (by kernel_rfl) rfl fun ρ g w R => ?_
  have K1 : ∀ (_ : Unit), spec_l1Has_L1_a = some r → Gr R [.code (cAt Try.f94 [1, 1])] (⟨[], []⟩) := by
    intro _ hM
    unfold spec_l1Has_L1_a at hM
    have hE : some false = some r := hM
    have hE := Option.some.inj hE
    subst hE
    exact pr R 9999 [] [] [] [] True.intro (by kernel_rfl)
  refine pc R 9999 [] [.keep [0, 1, 5] []] (k' := [.code (.loop (cAt Try.f94 [1, 0, 1, 0, 0])), .blk 0, .code (cAt Try.f94 [1, 1])]) (S' := spec_l1Has_L1_S a0 a1 0) True.intro (by kernel_rfl) ?_
  refine lq (spec_l1Has_L1_S a0 a1) (body := spec_l1Has_L1 a0 a1) (k := spec_l1Has_L1_k) hM fun m1 s c1 hM hK1 => ?_
  obtain ⟨s1, hs⟩ : ∃ z, z = s := ⟨_, rfl⟩
  subst hs
  have hM : spec_l1Has_L1_b a0 a1 s1 = some c1 := hM
  unfold spec_l1Has_L1_b at hM
  rcases cond_cases hM with ⟨h2, hM⟩ | ⟨h2, hM⟩
  · obtain ⟨v3, h4, hM⟩ := bind_some hM
    rcases cond_cases hM with ⟨h5, hM⟩ | ⟨h5, hM⟩
    · have hE : some (Ctl.ret true) = some c1 := hM
      have hE := Option.some.inj hE
      subst hE
      have hE : some true = some r := hK1
      have hE := Option.some.inj hE
      subst hE
      exact pr R 9999 [.ln (a0.length), .as 9 true, .ix (encI v3), .as 17 true] [] [] [] (And.intro (lenm encI a0) (And.intro h2 (And.intro (gi_map encI h4) (And.intro h5 True.intro)))) (by kernel_rfl)
    · have hE : some (Ctl.next (w64 (s1 + 1))) = some c1 := hM
      have hE := Option.some.inj hE
      subst hE
      exact pc R 9999 [.ln (a0.length), .as 9 true, .ix (encI v3), .as 17 false] [.keep [0, 1, 5] []] (And.intro (lenm encI a0) (And.intro h2 (And.intro (gi_map encI h4) (And.intro h5 True.intro)))) (by kernel_rfl) (li (Sf := spec_l1Has_L1_S a0 a1) (M := Mk (spec_l1Has_L1 a0 a1) (spec_l1Has_L1_k) r) (k := [.blk 0, .code (cAt Try.f94 [1, 1])]) (Nat.lt_succ_self m1) hK1)
  · have hE : some (Ctl.brk ()) = some c1 := hM
    have hE := Option.some.inj hE
    subst hE
    exact pc R 5 [.ln (a0.length), .as 9 false] [.keep [] []] (And.intro (lenm encI a0) (And.intro h2 True.intro)) (by kernel_rfl) (K1 () hK1)

-- loop.example/g03014/spec.l3Runs
def spec_l3Runs (a0 : Network) (a1 : Int) (a2 : Int) : Option Bool :=
  (spec_l1In a1 0 (w64 ((a0.Legs.length : Int) - 1))).bind fun v1 =>
  bif v1 then
  (spec_l1In a2 0 60).bind fun v4 =>
  bif v4 then
  (gi a0.Legs a1).bind fun v7 =>
  (shrM v7.Days (Int.tmod a2 7)).bind fun v9 =>
  bif ((w64 ((BitVec.ofInt 64 v9 &&& BitVec.ofInt 64 1).toNat)) == 1) then
  (spec_l1Has a0.Off a2).bind fun v12 =>
  some (!v12)
  else
  some false
  else
  some false
  else
  some false
theorem spec_l3Runs_ok (a0 : Network) (a1 : Int) (a2 : Int) (r : Bool) (hM : spec_l3Runs a0 a1 a2 = some r) :
    Con Try.prog 75 [.agg [.rs 6 (a0.Legs.map Leg.enc), .rs 1 (a0.Off.map encI), .v (.int .i64 a0.Change)], .c (.v (.int .i64 a1)), .c (.v (.int .i64 a2))] [] (.o (.c (.v (.bool r)))) [] [] := by
  unfold spec_l3Runs at hM
  refine cn (N := 37) (pids := []) Try_mixed Try.func75 (by kernel_rfl) (by kernel_rfl) (by kernel_rfl) rfl fun ρ g w R => ?_
  obtain ⟨v1, h2, hM⟩ := bind_some hM
  rcases cond_cases hM with ⟨h3, hM⟩ | ⟨h3, hM⟩
  · obtain ⟨v4, h5, hM⟩ := bind_some hM
    rcases cond_cases hM with ⟨h6, hM⟩ | ⟨h6, hM⟩
    · obtain ⟨v7, h8, hM⟩ := bind_some hM
      obtain ⟨v9, h10, hM⟩ := bind_some hM
      rcases cond_cases hM with ⟨h11, hM⟩ | ⟨h11, hM⟩
      · obtain ⟨v12, h13, hM⟩ := bind_some hM
        have hE : some (!v12) = some r := hM
        have hE := Option.some.inj hE
        subst hE
        exact pr R 9999 [.new 0, .ln (a0.Legs.length), .call false [] (.o (.c (.v (.bool v1)))) [] [], .as 13 true, .call false [] (.o (.c (.v (.bool v4)))) [] [], .as 17 true, .ix (Leg.enc v7), .run 26 (.int .i64 v9), .as 30 true, .call false [] (.o (.c (.v (.bool v12)))) [] []] [] [] [] (And.intro (lenm Leg.enc a0.Legs) (And.intro (spec_l1In_ok a1 0 (w64 ((a0.Legs.length : Int) - 1)) v1 h2) (And.intro h3 (And.intro (spec_l1In_ok a2 0 60 v4 h5) (And.intro h6 (And.intro (gi_map Leg.enc h8) (And.intro (shrM_run (P := Try.prog) (t := 3) (x := .tmp 0) (y := .tmp 0) h10) (And.intro h11 (And.intro (spec_l1Has_ok a0.Off a2 v12 h13) True.intro))))))))) (by kernel_rfl)
      · have hE : some false = some r := hM
        have hE := Option.some.inj hE
        subst hE
        exact pr R 9999 [.new 0, .ln (a0.Legs.length), .call false [] (.o (.c (.v (.bool v1)))) [] [], .as 13 true, .call false [] (.o (.c (.v (.bool v4)))) [] [], .as 17 true, .ix (Leg.enc v7), .run 26 (.int .i64 v9), .as 30 false] [] [] [] (And.intro (lenm Leg.enc a0.Legs) (And.intro (spec_l1In_ok a1 0 (w64 ((a0.Legs.length : Int) - 1)) v1 h2) (And.intro h3 (And.intro (spec_l1In_ok a2 0 60 v4 h5) (And.intro h6 (And.intro (gi_map Leg.enc h8) (And.intro (shrM_run (P := Try.prog) (t := 3) (x := .tmp 0) (y := .tmp 0) h10) (And.intro h11 True.intro)))))))) (by kernel_rfl)
    · have hE : some false = some r := hM
      have hE := Option.some.inj hE
      subst hE
      exact pr R 9999 [.new 0, .ln (a0.Legs.length), .call false [] (.o (.c (.v (.bool v1)))) [] [], .as 13 true, .call false [] (.o (.c (.v (.bool v4)))) [] [], .as 17 false] [] [] [] (And.intro (lenm Leg.enc a0.Legs) (And.intro (spec_l1In_ok a1 0 (w64 ((a0.Legs.length : Int) - 1)) v1 h2) (And.intro h3 (And.intro (spec_l1In_ok a2 0 60 v4 h5) (And.intro h6 True.intro))))) (by kernel_rfl)
  · have hE : some false = some r := hM
    have hE := Option.some.inj hE
    subst hE
    exact pr R 9999 [.new 0, .ln (a0.Legs.length), .call false [] (.o (.c (.v (.bool v1)))) [] [], .as 13 false] [] [] [] (And.intro (lenm Leg.enc a0.Legs) (And.intro (spec_l1In_ok a1 0 (w64 ((a0.Legs.length : Int) - 1)) v1 h2) (And.intro h3 True.intro))) (by kernel_rfl)

-- loop.example/g03014/spec.l3Starts
def spec_l3Starts (a0 : Network) (a1 : Trip) : Option Int :=
  (gi a0.Legs a1.Leg).bind fun v1 =>
  some (w64 ((w64 (a1.Day * 1440)) + v1.Start))
theorem spec_l3Starts_ok (a0 : Network) (a1 : Trip) (r : Int) (hM : spec_l3Starts a0 a1 = some r) :
    Con Try.prog 52 [.agg [.rs 6 (a0.Legs.map Leg.enc), .rs 1 (a0.Off.map encI), .v (.int .i64 a0.Change)], .c (.v (.agg (Trip.enc a1).toArray))] [] (.o (.c (.v (.int .i64 r)))) [] [] := by
  unfold spec_l3Starts at hM
  refine cn (N := 16) (pids := []) Try_mixed Try.func52 (by kernel_rfl) (by kernel_rfl) (by kernel_rfl) rfl fun ρ g w R => ?_
  obtain ⟨v1, h2, hM⟩ := bind_some hM
  have hE : some (w64 ((w64 (a1.Day * 1440)) + v1.Start)) = some r := hM
  have hE := Option.some.inj hE
  subst hE
  exact pr R 9999 [.new 0, .new 1, .ix (Leg.enc v1)] [] [] [] (And.intro (gi_map Leg.enc h2) True.intro) (by kernel_rfl)

-- loop.example/g03014/spec.l3Next
def spec_l3Next_L1_b (a0 : Network) (a1 : Int) (a2 : Int) (s1 : Int) : Option (Ctl Int Unit Int) :=
  bif (decide (s1 ≤ 60)) then
  (spec_l3Runs a0 a1 s1).bind fun v3 =>
  bif v3 then
  (spec_l3Starts a0 (Trip.mk a1 s1)).bind fun v6 =>
  bif (decide (v6 ≥ a2)) then
  some (.ret s1)
  else
  some (.next (w64 (s1 + 1)))
  else
  some (.next (w64 (s1 + 1)))
  else
  some (.brk ())
def spec_l3Next_L1 (a0 : Network) (a1 : Int) (a2 : Int) (s : Int) : Option (Ctl Int Unit Int) := spec_l3Next_L1_b a0 a1 a2 s
def spec_l3Next_L1_s (a0 : Network) (a1 : Int) (a2 : Int) (s1 : Int) : St := ⟨[(1, .o (.c (.v (.int .i64 a1)))), (2, .o (.c (.v (.int .i64 a2)))), (3, .o (.c (.ptr 0 0))), (7, .o (.c (.v (.int .i64 s1))))], [(0, .box 27 [.rs 6 (a0.Legs.map Leg.enc), .rs 1 (a0.Off.map encI), .v (.int .i64 a0.Change)])]⟩
def spec_l3Next_L1_S (a0 : Network) (a1 : Int) (a2 : Int) (s : Int) : St := spec_l3Next_L1_s a0 a1 a2 s
def spec_l3Next_L1_a : Option Int :=
  some (-1)
def spec_l3Next_L1_k (x : (Unit) ⊕ (Int)) : Option Int := match x with
  | .inl t => spec_l3Next_L1_a
  | .inr y => some y
def spec_l3Next (a0 : Network) (a1 : Int) (a2 : Int) : Option Int :=
  (loopM (spec_l3Next_L1 a0 a1 a2) big 0).bind (spec_l3Next_L1_k)
theorem spec_l3Next_ok (a0 : Network) (a1 : Int) (a2 : Int) (r : Int) (hM : spec_l3Next a0 a1 a2 = some r) :
    Con Try.prog 100 [.agg [.rs 6 (a0.Legs.map Leg.enc), .rs 1 (a0.Off.map encI), .v (.int .i64 a0.Change)], .c (.v (.int .i64 a1)), .c (.v (.int .i64 a2))] [] (.o (.c (.v (.int .i64 r)))) [] [] := by
  unfold spec_l3Next at hM
  refine cn (N := 26) (pids := []) Try_mixed Try.func100 (by kernel_rfl) (by kernel_rfl) (by kernel_rfl) rfl fun ρ g w R => ?_
  have K1 : ∀ (_ : Unit), spec_l3Next_L1_a = some r → Gr R [.code (cAt Try.f100 [1, 1])] (⟨[], []⟩) := by
    intro _ hM
    unfold spec_l3Next_L1_a at hM
    have hE : some (-1) = some r := hM
    have hE := Option.some.inj hE
    subst hE
    exact pr R 9999 [] [] [] [] True.intro (by kernel_rfl)
  refine pc R 9999 [.new 0] [.keep [1, 2, 3, 7] [0]] (k' := [.code (.loop (cAt Try.f100 [1, 0, 1, 0, 0])), .blk 0, .code (cAt Try.f100 [1, 1])]) (S' := spec_l3Next_L1_S a0 a1 a2 0) True.intro (by kernel_rfl) ?_
  refine lq (spec_l3Next_L1_S a0 a1 a2) (body := spec_l3Next_L1 a0 a1 a2) (k := spec_l3Next_L1_k) hM fun m1 s c1 hM hK1 => ?_
  obtain ⟨s1, hs⟩ : ∃ z, z = s := ⟨_, rfl⟩
  subst hs
  have hM : spec_l3Next_L1_b a0 a1 a2 s1 = some c1 := hM
  unfold spec_l3Next_L1_b at hM
  rcases cond_cases hM with ⟨h2, hM⟩ | ⟨h2, hM⟩
  · obtain ⟨v3, h4, hM⟩ := bind_some hM
    rcases cond_cases hM with ⟨h5, hM⟩ | ⟨h5, hM⟩
    · obtain ⟨v6, h7, hM⟩ := bind_some hM
      rcases cond_cases hM with ⟨h8, hM⟩ | ⟨h8, hM⟩
      · have hE : some (Ctl.ret s1) = some c1 := hM
        have hE := Option.some.inj hE
        subst hE
        have hE : some s1 = some r := hK1
        have hE := Option.some.inj hE
        subst hE
        exact pr R 9999 [.as 9 true, .call false [] (.o (.c (.v (.bool v3)))) [] [], .as 16 true, .call false [] (.o (.c (.v (.int .i64 v6)))) [] [], .as 24 true] [] [] [] (And.intro h2 (And.intro (spec_l3Runs_ok a0 a1 s1 v3 h4) (And.intro h5 (And.intro (spec_l3Starts_ok a0 (Trip.mk a1 s1) v6 h7) (And.intro h8 True.intro))))) (by kernel_rfl)
      · have hE : some (Ctl.next (w64 (s1 + 1))) = some c1 := hM
        have hE := Option.some.inj hE
        subst hE
        exact pc R 9999 [.as 9 true, .call false [] (.o (.c (.v (.bool v3)))) [] [], .as 16 true, .call false [] (.o (.c (.v (.int .i64 v6)))) [] [], .as 24 false] [.keep [1, 2, 3, 7] [0]] (And.intro h2 (And.intro (spec_l3Runs_ok a0 a1 s1 v3 h4) (And.intro h5 (And.intro (spec_l3Starts_ok a0 (Trip.mk a1 s1) v6 h7) (And.intro h8 True.intro))))) (by kernel_rfl) (li (Sf := spec_l3Next_L1_S a0 a1 a2) (M := Mk (spec_l3Next_L1 a0 a1 a2) (spec_l3Next_L1_k) r) (k := [.blk 0, .code (cAt Try.f100 [1, 1])]) (Nat.lt_succ_self m1) hK1)
    · have hE : some (Ctl.next (w64 (s1 + 1))) = some c1 := hM
      have hE := Option.some.inj hE
      subst hE
      exact pc R 9999 [.as 9 true, .call false [] (.o (.c (.v (.bool v3)))) [] [], .as 16 false] [.keep [1, 2, 3, 7] [0]] (And.intro h2 (And.intro (spec_l3Runs_ok a0 a1 s1 v3 h4) (And.intro h5 True.intro))) (by kernel_rfl) (li (Sf := spec_l3Next_L1_S a0 a1 a2) (M := Mk (spec_l3Next_L1 a0 a1 a2) (spec_l3Next_L1_k) r) (k := [.blk 0, .code (cAt Try.f100 [1, 1])]) (Nat.lt_succ_self m1) hK1)
  · have hE : some (Ctl.brk ()) = some c1 := hM
    have hE := Option.some.inj hE
    subst hE
    exact pc R 5 [.as 9 false] [.keep [] []] (And.intro h2 True.intro) (by kernel_rfl) (K1 () hK1)

-- loop.example/g03014/spec.l3Ends
def spec_l3Ends (a0 : Network) (a1 : Trip) : Option Int :=
  (spec_l3Starts a0 a1).bind fun v1 =>
  (gi a0.Legs a1.Leg).bind fun v3 =>
  some (w64 (v1 + v3.Takes))
theorem spec_l3Ends_ok (a0 : Network) (a1 : Trip) (r : Int) (hM : spec_l3Ends a0 a1 = some r) :
    Con Try.prog 53 [.agg [.rs 6 (a0.Legs.map Leg.enc), .rs 1 (a0.Off.map encI), .v (.int .i64 a0.Change)], .c (.v (.agg (Trip.enc a1).toArray))] [] (.o (.c (.v (.int .i64 r)))) [] [] := by
  unfold spec_l3Ends at hM
  refine cn (N := 16) (pids := []) Try_mixed Try.func53 (by kernel_rfl) (by kernel_rfl) (by kernel_rfl) rfl fun ρ g w R => ?_
  obtain ⟨v1, h2, hM⟩ := bind_some hM
  obtain ⟨v3, h4, hM⟩ := bind_some hM
  have hE : some (w64 (v1 + v3.Takes)) = some r := hM
  have hE := Option.some.inj hE
  subst hE
  exact pr R 9999 [.new 0, .new 1, .call false [] (.o (.c (.v (.int .i64 v1)))) [] [], .ix (Leg.enc v3)] [] [] [] (And.intro (spec_l3Starts_ok a0 a1 v1 h2) (And.intro (gi_map Leg.enc h4) True.intro)) (by kernel_rfl)

-- loop.example/g03014/spec.l4Round
def spec_l4Round_L1_b (a0 : Network) (a1 : (List ByteArray)) (a2 : (List Int)) (a3 : Int) (s3 : (List Int)) (s4 : Int) : Option (Ctl ((List Int) × Int) (List Int) (List Int)) :=
  bif (decide (s4 < (a0.Legs.length : Int))) then
  (gi a0.Legs s4).bind fun v7 =>
  (spec_l4Index a1 v7.From).bind fun v9 =>
  (gi a0.Legs s4).bind fun v11 =>
  (spec_l4Index a1 v11.To).bind fun v13 =>
  (gi a2 v9).bind fun v15 =>
  bif (decide (v15 < 0)) then
  some (.next (s3, w64 (s4 + 1)))
  else
  (gi a2 v9).bind fun v18 =>
  (spec_l4Ready a0 v18 (v9 == a3)).bind fun v20 =>
  (spec_l3Next a0 s4 v20).bind fun v22 =>
  bif (decide (v22 < 0)) then
  some (.next (s3, w64 (s4 + 1)))
  else
  (spec_l3Ends a0 (Trip.mk s4 v22)).bind fun v25 =>
  (gi s3 v13).bind fun v27 =>
  bif (decide (v27 < 0)) then
  (gi s3 v13).bind fun v30 =>
  some (.next (List.set s3 (Int.toNat v13) v25, w64 (s4 + 1)))
  else
  (gi s3 v13).bind fun v32 =>
  bif (decide (v25 < v32)) then
  (gi s3 v13).bind fun v35 =>
  some (.next (List.set s3 (Int.toNat v13) v25, w64 (s4 + 1)))
  else
  some (.next (s3, w64 (s4 + 1)))
  else
  some (.brk s3)
def spec_l4Round_L1 (a0 : Network) (a1 : (List ByteArray)) (a2 : (List Int)) (a3 : Int) (s : (List Int) × Int) : Option (Ctl ((List Int) × Int) (List Int) (List Int)) := spec_l4Round_L1_b a0 a1 a2 a3 s.1 s.2
def spec_l4Round_L1_s (a0 : Network) (a1 : (List ByteArray)) (a2 : (List Int)) (a3 : Int) (s3 : (List Int)) (s4 : Int) : St := ⟨[(1, .o (.c (.rs 1 (a1.map encS)))), (2, .o (.c (.rs 1 (a2.map encI)))), (3, .o (.c (.v (.int .i64 a3)))), (4, .o (.c (.ptr 0 0))), (9, .o (.c (.sl 1))), (10, .o (.c (.v (.int .i64 s4))))], [(0, .box 27 [.rs 6 (a0.Legs.map Leg.enc), .rs 1 (a0.Off.map encI), .v (.int .i64 a0.Change)]), (1, .row 3 1 (s3.map encI))]⟩
def spec_l4Round_L1_S (a0 : Network) (a1 : (List ByteArray)) (a2 : (List Int)) (a3 : Int) (s : (List Int) × Int) : St := spec_l4Round_L1_s a0 a1 a2 a3 s.1 s.2
def spec_l4Round_L1_a (s5 : (List Int)) : Option (List Int) :=
  some s5
def spec_l4Round_L1_k (x : ((List Int)) ⊕ ((List Int))) : Option (List Int) := match x with
  | .inl t => spec_l4Round_L1_a t
  | .inr y => some y
def spec_l4Round (a0 : Network) (a1 : (List ByteArray)) (a2 : (List Int)) (a3 : Int) : Option (List Int) :=
  (spec_l1Ints a2).bind fun v1 =>
  (loopM (spec_l4Round_L1 a0 a1 a2 a3) big (v1, 0)).bind (spec_l4Round_L1_k)
theorem spec_l4Round_ok (a0 : Network) (a1 : (List ByteArray)) (a2 : (List Int)) (a3 : Int) (r : (List Int)) (hM : spec_l4Round a0 a1 a2 a3 = some r) :
    Con Try.prog 87 [.agg [.rs 6 (a0.Legs.map Leg.enc), .rs 1 (a0.Off.map encI), .v (.int .i64 a0.Change)], .c (.rs 1 (a1.map encS)), .c (.rs 1 (a2.map encI)), .c (.v (.int .i64 a3))] [] (.o (.c (.sl 1000))) [] [(1000, .row 3 1 (r.map encI))] := by
  unfold spec_l4Round at hM
  refine cn (N := 82) (pids := []) Try_mixed Try.func87 (by kernel_rfl) (by kernel_rfl) (by kernel_rfl) rfl fun ρ g w R => ?_
  obtain ⟨v1, h2, hM⟩ := bind_some hM
  have K1 : ∀ (s5 : (List Int)), spec_l4Round_L1_a s5 = some r → Gr R [.code (cAt Try.f87 [1, 1, 1])] (⟨[(9, .o (.c (.sl 1)))], [(1, .row 3 1 (s5.map encI))]⟩) := by
    intro s5 hM
    unfold spec_l4Round_L1_a at hM
    have hE : some s5 = some r := hM
    have hE := Option.some.inj hE
    subst hE
    exact pr R 9999 [] [.sw 1 1000] [] [1000] True.intro (by kernel_rfl)
  refine pc R 9999 [.new 0, .call false [] (.o (.c (.sl 1))) [] [(1, .row 3 1 (v1.map encI))]] [.keep [1, 2, 3, 4, 9, 10] [0, 1]] (k' := [.code (.loop (cAt Try.f87 [1, 1, 0, 1, 0, 0])), .blk 0, .code (cAt Try.f87 [1, 1, 1])]) (S' := spec_l4Round_L1_S a0 a1 a2 a3 (v1, 0)) (And.intro (And.intro (con_sw 1000 1 (spec_l1Ints_ok a2 v1 h2)) (rfl : ([] : List Nat) = [])) True.intro) (by kernel_rfl) ?_
  refine lq (spec_l4Round_L1_S a0 a1 a2 a3) (body := spec_l4Round_L1 a0 a1 a2 a3) (k := spec_l4Round_L1_k) hM fun m1 s c1 hM hK1 => ?_
  obtain ⟨s3, s4⟩ := s
  have hM : spec_l4Round_L1_b a0 a1 a2 a3 s3 s4 = some c1 := hM
  unfold spec_l4Round_L1_b at hM
  rcases cond_cases hM with ⟨h6, hM⟩ | ⟨h6, hM⟩
  · obtain ⟨v7, h8, hM⟩ := bind_some hM
    obtain ⟨v9, h10, hM⟩ := bind_some hM
    obtain ⟨v11, h12, hM⟩ := bind_some hM
    obtain ⟨v13, h14, hM⟩ := bind_some hM
    obtain ⟨v15, h16, hM⟩ := bind_some hM
    rcases cond_cases hM with ⟨h17, hM⟩ | ⟨h17, hM⟩
    · have hE : some (Ctl.next (s3, w64 (s4 + 1))) = some c1 := hM
      have hE := Option.some.inj hE
      subst hE
      exact pc R 9999 [.ln (a0.Legs.length), .as 21 true, .ix (Leg.enc v7), .call false [] (.o (.c (.v (.int .i64 v9)))) [] [], .ix (Leg.enc v11), .call false [] (.o (.c (.v (.int .i64 v13)))) [] [], .ix (encI v15), .as 44 true] [.keep [1, 2, 3, 4, 9, 10] [0, 1]] (And.intro (lenm Leg.enc a0.Legs) (And.intro h6 (And.intro (gi_map Leg.enc h8) (And.intro (spec_l4Index_ok a1 v7.From v9 h10) (And.intro (gi_map Leg.enc h12) (And.intro (spec_l4Index_ok a1 v11.To v13 h14) (And.intro (gi_map encI h16) (And.intro h17 True.intro)))))))) (by kernel_rfl) (li (Sf := spec_l4Round_L1_S a0 a1 a2 a3) (M := Mk (spec_l4Round_L1 a0 a1 a2 a3) (spec_l4Round_L1_k) r) (k := [.blk 0, .code (cAt Try.f87 [1, 1, 1])]) (Nat.lt_succ_self m1) hK1)
    · obtain ⟨v18, h19, hM⟩ := bind_some hM
      obtain ⟨v20, h21, hM⟩ := bind_some hM
      obtain ⟨v22, h23, hM⟩ := bind_some hM
      rcases cond_cases hM with ⟨h24, hM⟩ | ⟨h24, hM⟩
      · have hE : some (Ctl.next (s3, w64 (s4 + 1))) = some c1 := hM
        have hE := Option.some.inj hE
        subst hE
        exact pc R 9999 [.ln (a0.Legs.length), .as 21 true, .ix (Leg.enc v7), .call false [] (.o (.c (.v (.int .i64 v9)))) [] [], .ix (Leg.enc v11), .call false [] (.o (.c (.v (.int .i64 v13)))) [] [], .ix (encI v15), .as 44 false, .ix (encI v18), .call false [] (.o (.c (.v (.int .i64 v20)))) [] [], .call false [] (.o (.c (.v (.int .i64 v22)))) [] [], .as 58 true] [.keep [1, 2, 3, 4, 9, 10] [0, 1]] (And.intro (lenm Leg.enc a0.Legs) (And.intro h6 (And.intro (gi_map Leg.enc h8) (And.intro (spec_l4Index_ok a1 v7.From v9 h10) (And.intro (gi_map Leg.enc h12) (And.intro (spec_l4Index_ok a1 v11.To v13 h14) (And.intro (gi_map encI h16) (And.intro h17 (And.intro (gi_map encI h19) (And.intro (spec_l4Ready_ok a0 v18 (v9 == a3) v20 h21) (And.intro (spec_l3Next_ok a0 s4 v20 v22 h23) (And.intro h24 True.intro)))))))))))) (by kernel_rfl) (li (Sf := spec_l4Round_L1_S a0 a1 a2 a3) (M := Mk (spec_l4Round_L1 a0 a1 a2 a3) (spec_l4Round_L1_k) r) (k := [.blk 0, .code (cAt Try.f87 [1, 1, 1])]) (Nat.lt_succ_self m1) hK1)
      · obtain ⟨v25, h26, hM⟩ := bind_some hM
        obtain ⟨v27, h28, hM⟩ := bind_some hM
        rcases cond_cases hM with ⟨h29, hM⟩ | ⟨h29, hM⟩
        · obtain ⟨v30, h31, hM⟩ := bind_some hM
          have hE : some (Ctl.next (List.set s3 (Int.toNat v13) v25, w64 (s4 + 1))) = some c1 := hM
          have hE := Option.some.inj hE
          subst hE
          exact pc R 9999 [.ln (a0.Legs.length), .as 21 true, .ix (Leg.enc v7), .call false [] (.o (.c (.v (.int .i64 v9)))) [] [], .ix (Leg.enc v11), .call false [] (.o (.c (.v (.int .i64 v13)))) [] [], .ix (encI v15), .as 44 false, .ix (encI v18), .call false [] (.o (.c (.v (.int .i64 v20)))) [] [], .call false [] (.o (.c (.v (.int .i64 v22)))) [] [], .as 58 false, .call false [] (.o (.c (.v (.int .i64 v25)))) [] [], .ix (encI v27), .as 69 true, .ix (encI v30), .nm ((List.set s3 (Int.toNat v13) v25).map encI)] [.keep [1, 2, 3, 4, 9, 10] [0, 1]] (And.intro (lenm Leg.enc a0.Legs) (And.intro h6 (And.intro (gi_map Leg.enc h8) (And.intro (spec_l4Index_ok a1 v7.From v9 h10) (And.intro (gi_map Leg.enc h12) (And.intro (spec_l4Index_ok a1 v11.To v13 h14) (And.intro (gi_map encI h16) (And.intro h17 (And.intro (gi_map encI h19) (And.intro (spec_l4Ready_ok a0 v18 (v9 == a3) v20 h21) (And.intro (spec_l3Next_ok a0 s4 v20 v22 h23) (And.intro h24 (And.intro (spec_l3Ends_ok a0 (Trip.mk s4 v22) v25 h26) (And.intro (gi_lt encI h28) (And.intro ((gi_map encI h28).2) (And.intro h29 (And.intro (gi_lt encI h31) (And.intro (And.intro (gi_map encI h31).2 (set_map encI s3 (Int.toNat v13) v25)) True.intro)))))))))))))))))) (by kernel_rfl) (li (Sf := spec_l4Round_L1_S a0 a1 a2 a3) (M := Mk (spec_l4Round_L1 a0 a1 a2 a3) (spec_l4Round_L1_k) r) (k := [.blk 0, .code (cAt Try.f87 [1, 1, 1])]) (Nat.lt_succ_self m1) hK1)
        · obtain ⟨v32, h33, hM⟩ := bind_some hM
          rcases cond_cases hM with ⟨h34, hM⟩ | ⟨h34, hM⟩
          · obtain ⟨v35, h36, hM⟩ := bind_some hM
            have hE : some (Ctl.next (List.set s3 (Int.toNat v13) v25, w64 (s4 + 1))) = some c1 := hM
            have hE := Option.some.inj hE
            subst hE
            exact pc R 9999 [.ln (a0.Legs.length), .as 21 true, .ix (Leg.enc v7), .call false [] (.o (.c (.v (.int .i64 v9)))) [] [], .ix (Leg.enc v11), .call false [] (.o (.c (.v (.int .i64 v13)))) [] [], .ix (encI v15), .as 44 false, .ix (encI v18), .call false [] (.o (.c (.v (.int .i64 v20)))) [] [], .call false [] (.o (.c (.v (.int .i64 v22)))) [] [], .as 58 false, .call false [] (.o (.c (.v (.int .i64 v25)))) [] [], .ix (encI v27), .as 69 false, .ix (encI v32), .as 76 true, .ix (encI v35), .nm ((List.set s3 (Int.toNat v13) v25).map encI)] [.keep [1, 2, 3, 4, 9, 10] [0, 1]] (And.intro (lenm Leg.enc a0.Legs) (And.intro h6 (And.intro (gi_map Leg.enc h8) (And.intro (spec_l4Index_ok a1 v7.From v9 h10) (And.intro (gi_map Leg.enc h12) (And.intro (spec_l4Index_ok a1 v11.To v13 h14) (And.intro (gi_map encI h16) (And.intro h17 (And.intro (gi_map encI h19) (And.intro (spec_l4Ready_ok a0 v18 (v9 == a3) v20 h21) (And.intro (spec_l3Next_ok a0 s4 v20 v22 h23) (And.intro h24 (And.intro (spec_l3Ends_ok a0 (Trip.mk s4 v22) v25 h26) (And.intro (gi_lt encI h28) (And.intro ((gi_map encI h28).2) (And.intro h29 (And.intro (gi_lt encI h33) (And.intro ((gi_map encI h33).2) (And.intro h34 (And.intro (gi_lt encI h36) (And.intro (And.intro (gi_map encI h36).2 (set_map encI s3 (Int.toNat v13) v25)) True.intro))))))))))))))))))))) (by kernel_rfl) (li (Sf := spec_l4Round_L1_S a0 a1 a2 a3) (M := Mk (spec_l4Round_L1 a0 a1 a2 a3) (spec_l4Round_L1_k) r) (k := [.blk 0, .code (cAt Try.f87 [1, 1, 1])]) (Nat.lt_succ_self m1) hK1)
          · have hE : some (Ctl.next (s3, w64 (s4 + 1))) = some c1 := hM
            have hE := Option.some.inj hE
            subst hE
            exact pc R 9999 [.ln (a0.Legs.length), .as 21 true, .ix (Leg.enc v7), .call false [] (.o (.c (.v (.int .i64 v9)))) [] [], .ix (Leg.enc v11), .call false [] (.o (.c (.v (.int .i64 v13)))) [] [], .ix (encI v15), .as 44 false, .ix (encI v18), .call false [] (.o (.c (.v (.int .i64 v20)))) [] [], .call false [] (.o (.c (.v (.int .i64 v22)))) [] [], .as 58 false, .call false [] (.o (.c (.v (.int .i64 v25)))) [] [], .ix (encI v27), .as 69 false, .ix (encI v32), .as 76 false] [.keep [1, 2, 3, 4, 9, 10] [0, 1]] (And.intro (lenm Leg.enc a0.Legs) (And.intro h6 (And.intro (gi_map Leg.enc h8) (And.intro (spec_l4Index_ok a1 v7.From v9 h10) (And.intro (gi_map Leg.enc h12) (And.intro (spec_l4Index_ok a1 v11.To v13 h14) (And.intro (gi_map encI h16) (And.intro h17 (And.intro (gi_map encI h19) (And.intro (spec_l4Ready_ok a0 v18 (v9 == a3) v20 h21) (And.intro (spec_l3Next_ok a0 s4 v20 v22 h23) (And.intro h24 (And.intro (spec_l3Ends_ok a0 (Trip.mk s4 v22) v25 h26) (And.intro (gi_lt encI h28) (And.intro ((gi_map encI h28).2) (And.intro h29 (And.intro (gi_lt encI h33) (And.intro ((gi_map encI h33).2) (And.intro h34 True.intro))))))))))))))))))) (by kernel_rfl) (li (Sf := spec_l4Round_L1_S a0 a1 a2 a3) (M := Mk (spec_l4Round_L1 a0 a1 a2 a3) (spec_l4Round_L1_k) r) (k := [.blk 0, .code (cAt Try.f87 [1, 1, 1])]) (Nat.lt_succ_self m1) hK1)
  · have hE : some (Ctl.brk s3) = some c1 := hM
    have hE := Option.some.inj hE
    subst hE
    exact pc R 5 [.ln (a0.Legs.length), .as 21 false] [.keep [9] [1]] (And.intro (lenm Leg.enc a0.Legs) (And.intro h6 True.intro)) (by kernel_rfl) (K1 s3 hK1)

-- loop.example/g03014/spec.BestArrivals
def spec_BestArrivals_L1_b (a0 : Network) (a3 : Int) (v1 : (List ByteArray)) (v3 : Int) (s13 : (List Int)) (s14 : Int) : Option (Ctl ((List Int) × Int) (List Int) (List Int)) :=
  bif (decide (s14 < a3)) then
  bif (decide (s14 < (v1.length : Int))) then
  (spec_l4Round a0 v1 s13 v3).bind fun v18 =>
  some (.next (v18, w64 (s14 + 1)))
  else
  some (.brk s13)
  else
  some (.brk s13)
def spec_BestArrivals_L1 (a0 : Network) (a3 : Int) (v1 : (List ByteArray)) (v3 : Int) (s : (List Int) × Int) : Option (Ctl ((List Int) × Int) (List Int) (List Int)) := spec_BestArrivals_L1_b a0 a3 v1 v3 s.1 s.2
def spec_BestArrivals_L1_s (a0 : Network) (a3 : Int) (v1 : (List ByteArray)) (v3 : Int) (s13 : (List Int)) (s14 : Int) : St := ⟨[(3, .o (.c (.v (.int .i64 a3)))), (4, .o (.c (.ptr 0 0))), (9, .o (.c (.sl 1))), (10, .o (.c (.v (.int .i64 v3)))), (11, .o (.c (.sl 6))), (12, .o (.c (.v (.int .i64 s14))))], [(0, .box 27 [.rs 6 (a0.Legs.map Leg.enc), .rs 1 (a0.Off.map encI), .v (.int .i64 a0.Change)]), (1, .row 9 1 (v1.map encS)), (6, .row 3 1 (s13.map encI))]⟩
def spec_BestArrivals_L1_S (a0 : Network) (a3 : Int) (v1 : (List ByteArray)) (v3 : Int) (s : (List Int) × Int) : St := spec_BestArrivals_L1_s a0 a3 v1 v3 s.1 s.2
def spec_BestArrivals_L1_a (s15 : (List Int)) : Option (List Int) :=
  some s15
def spec_BestArrivals_L1_k (x : ((List Int)) ⊕ ((List Int))) : Option (List Int) := match x with
  | .inl t => spec_BestArrivals_L1_a t
  | .inr y => some y
def spec_BestArrivals (a0 : Network) (a1 : ByteArray) (a2 : Int) (a3 : Int) : Option (List Int) :=
  (spec_PlacesOf a0).bind fun v1 =>
  (spec_l4Index v1 a1).bind fun v3 =>
  (spec_IsNetwork a0).bind fun v5 =>
  bif (!v5) then
  some ([] : List Int)
  else
  bif (decide (v3 < 0)) then
  some ([] : List Int)
  else
  bif (decide (a2 > 100000)) then
  some ([] : List Int)
  else
  bif (decide (a3 < 0)) then
  some ([] : List Int)
  else
  (spec_l4First v1 v3 a2).bind fun v11 =>
  (loopM (spec_BestArrivals_L1 a0 a3 v1 v3) big (v11, 0)).bind (spec_BestArrivals_L1_k)
theorem spec_BestArrivals_ok (a0 : Network) (a1 : ByteArray) (a2 : Int) (a3 : Int) (r : (List Int)) (hM : spec_BestArrivals a0 a1 a2 a3 = some r) :
    Con Try.prog 68 [.agg [.rs 6 (a0.Legs.map Leg.enc), .rs 1 (a0.Off.map encI), .v (.int .i64 a0.Change)], .c (.v (.string a1)), .c (.v (.int .i64 a2)), .c (.v (.int .i64 a3))] [] (.o (.c (.sl 1000))) [] [(1000, .row 3 1 (r.map encI))] := by
  unfold spec_BestArrivals at hM
  refine cn (N := 55) (pids := []) Try_mixed Try.func68 (by kernel_rfl) (by kernel_rfl) (by kernel_rfl) rfl fun ρ g w R => ?_
  obtain ⟨v1, h2, hM⟩ := bind_some hM
  obtain ⟨v3, h4, hM⟩ := bind_some hM
  obtain ⟨v5, h6, hM⟩ := bind_some hM
  rcases cond_cases hM with ⟨h7, hM⟩ | ⟨h7, hM⟩
  · have hE : some ([] : List Int) = some r := hM
    have hE := Option.some.inj hE
    subst hE
    exact pr R 9999 [.new 0, .call false [] (.o (.c (.sl 1))) [] [(1, .row 9 1 (v1.map encS))], .call false [] (.o (.c (.v (.int .i64 v3)))) [] [], .call false [] (.o (.c (.v (.bool v5)))) [] [], .as 21 true, .new 2] [.sw 2 1000] [] [1000] (And.intro (And.intro (con_sw 1000 1 (spec_PlacesOf_ok a0 v1 h2)) (rfl : ([] : List Nat) = [])) (And.intro (spec_l4Index_ok v1 a1 v3 h4) (And.intro (spec_IsNetwork_ok a0 v5 h6) (And.intro h7 True.intro)))) (by kernel_rfl)
  · rcases cond_cases hM with ⟨h8, hM⟩ | ⟨h8, hM⟩
    · have hE : some ([] : List Int) = some r := hM
      have hE := Option.some.inj hE
      subst hE
      exact pr R 9999 [.new 0, .call false [] (.o (.c (.sl 1))) [] [(1, .row 9 1 (v1.map encS))], .call false [] (.o (.c (.v (.int .i64 v3)))) [] [], .call false [] (.o (.c (.v (.bool v5)))) [] [], .as 21 false, .as 25 true, .new 3] [.sw 3 1000] [] [1000] (And.intro (And.intro (con_sw 1000 1 (spec_PlacesOf_ok a0 v1 h2)) (rfl : ([] : List Nat) = [])) (And.intro (spec_l4Index_ok v1 a1 v3 h4) (And.intro (spec_IsNetwork_ok a0 v5 h6) (And.intro h7 (And.intro h8 True.intro))))) (by kernel_rfl)
    · rcases cond_cases hM with ⟨h9, hM⟩ | ⟨h9, hM⟩
      · have hE : some ([] : List Int) = some r := hM
        have hE := Option.some.inj hE
        subst hE
        exact pr R 9999 [.new 0, .call false [] (.o (.c (.sl 1))) [] [(1, .row 9 1 (v1.map encS))], .call false [] (.o (.c (.v (.int .i64 v3)))) [] [], .call false [] (.o (.c (.v (.bool v5)))) [] [], .as 21 false, .as 25 false, .as 29 true, .new 4] [.sw 4 1000] [] [1000] (And.intro (And.intro (con_sw 1000 1 (spec_PlacesOf_ok a0 v1 h2)) (rfl : ([] : List Nat) = [])) (And.intro (spec_l4Index_ok v1 a1 v3 h4) (And.intro (spec_IsNetwork_ok a0 v5 h6) (And.intro h7 (And.intro h8 (And.intro h9 True.intro)))))) (by kernel_rfl)
      · rcases cond_cases hM with ⟨h10, hM⟩ | ⟨h10, hM⟩
        · have hE : some ([] : List Int) = some r := hM
          have hE := Option.some.inj hE
          subst hE
          exact pr R 9999 [.new 0, .call false [] (.o (.c (.sl 1))) [] [(1, .row 9 1 (v1.map encS))], .call false [] (.o (.c (.v (.int .i64 v3)))) [] [], .call false [] (.o (.c (.v (.bool v5)))) [] [], .as 21 false, .as 25 false, .as 29 false, .as 32 true, .new 5] [.sw 5 1000] [] [1000] (And.intro (And.intro (con_sw 1000 1 (spec_PlacesOf_ok a0 v1 h2)) (rfl : ([] : List Nat) = [])) (And.intro (spec_l4Index_ok v1 a1 v3 h4) (And.intro (spec_IsNetwork_ok a0 v5 h6) (And.intro h7 (And.intro h8 (And.intro h9 (And.intro h10 True.intro))))))) (by kernel_rfl)
        · obtain ⟨v11, h12, hM⟩ := bind_some hM
          have K1 : ∀ (s15 : (List Int)), spec_BestArrivals_L1_a s15 = some r → Gr R [.code (cAt Try.f68 [1, 1, 1, 1, 1, 1])] (⟨[(11, .o (.c (.sl 6)))], [(6, .row 3 1 (s15.map encI))]⟩) := by
            intro s15 hM
            unfold spec_BestArrivals_L1_a at hM
            have hE : some s15 = some r := hM
            have hE := Option.some.inj hE
            subst hE
            exact pr R 9999 [] [.sw 6 1000] [] [1000] True.intro (by kernel_rfl)
          refine pc R 9999 [.new 0, .call false [] (.o (.c (.sl 1))) [] [(1, .row 9 1 (v1.map encS))], .call false [] (.o (.c (.v (.int .i64 v3)))) [] [], .call false [] (.o (.c (.v (.bool v5)))) [] [], .as 21 false, .as 25 false, .as 29 false, .as 32 false, .call false [] (.o (.c (.sl 6))) [] [(6, .row 3 1 (v11.map encI))]] [.keep [3, 4, 9, 10, 11, 12] [0, 1, 6]] (k' := [.code (.loop (cAt Try.f68 [1, 1, 1, 1, 1, 0, 1, 0, 0])), .blk 0, .code (cAt Try.f68 [1, 1, 1, 1, 1, 1])]) (S' := spec_BestArrivals_L1_S a0 a3 v1 v3 (v11, 0)) (And.intro (And.intro (con_sw 1000 1 (spec_PlacesOf_ok a0 v1 h2)) (rfl : ([] : List Nat) = [])) (And.intro (spec_l4Index_ok v1 a1 v3 h4) (And.intro (spec_IsNetwork_ok a0 v5 h6) (And.intro h7 (And.intro h8 (And.intro h9 (And.intro h10 (And.intro (And.intro (con_sw 1000 6 (spec_l4First_ok v1 v3 a2 v11 h12)) (rfl : ([] : List Nat) = [])) True.intro)))))))) (by kernel_rfl) ?_
          refine lq (spec_BestArrivals_L1_S a0 a3 v1 v3) (body := spec_BestArrivals_L1 a0 a3 v1 v3) (k := spec_BestArrivals_L1_k) hM fun m1 s c1 hM hK1 => ?_
          obtain ⟨s13, s14⟩ := s
          have hM : spec_BestArrivals_L1_b a0 a3 v1 v3 s13 s14 = some c1 := hM
          unfold spec_BestArrivals_L1_b at hM
          rcases cond_cases hM with ⟨h16, hM⟩ | ⟨h16, hM⟩
          · rcases cond_cases hM with ⟨h17, hM⟩ | ⟨h17, hM⟩
            · obtain ⟨v18, h19, hM⟩ := bind_some hM
              have hE : some (Ctl.next (v18, w64 (s14 + 1))) = some c1 := hM
              have hE := Option.some.inj hE
              subst hE
              exact pc R 9999 [.as 41 true, .ln (v1.length), .as 46 true, .call false [] (.o (.c (.sl 7))) [] [(7, .row 3 1 (v18.map encI))]] [.sw 7 6, .keep [3, 4, 9, 10, 11, 12] [0, 1, 6]] (And.intro h16 (And.intro (lenm encS v1) (And.intro h17 (And.intro (And.intro (con_sw 1000 7 (spec_l4Round_ok a0 v1 s13 v3 v18 h19)) (rfl : ([] : List Nat) = [])) True.intro)))) (by kernel_rfl) (li (Sf := spec_BestArrivals_L1_S a0 a3 v1 v3) (M := Mk (spec_BestArrivals_L1 a0 a3 v1 v3) (spec_BestArrivals_L1_k) r) (k := [.blk 0, .code (cAt Try.f68 [1, 1, 1, 1, 1, 1])]) (Nat.lt_succ_self m1) hK1)
            · have hE : some (Ctl.brk s13) = some c1 := hM
              have hE := Option.some.inj hE
              subst hE
              exact pc R 5 [.as 41 true, .ln (v1.length), .as 46 false] [.keep [11] [6]] (And.intro h16 (And.intro (lenm encS v1) (And.intro h17 True.intro))) (by kernel_rfl) (K1 s13 hK1)
          · have hE : some (Ctl.brk s13) = some c1 := hM
            have hE := Option.some.inj hE
            subst hE
            exact pc R 5 [.as 41 false] [.keep [11] [6]] (And.intro h16 True.intro) (by kernel_rfl) (K1 s13 hK1)

-- loop.example/g03014/spec.EarliestAt
def spec_EarliestAt (a0 : Network) (a1 : ByteArray) (a2 : ByteArray) (a3 : Int) : Option Int :=
  (spec_PlacesOf a0).bind fun v1 =>
  (spec_l4Index v1 a2).bind fun v3 =>
  (spec_BestArrivals a0 a1 a3 (v1.length : Int)).bind fun v5 =>
  bif (decide (v3 < 0)) then
  some (-1)
  else
  bif ((v5.length : Int) == 0) then
  some (-1)
  else
  (gi v5 v3).bind fun v9 =>
  some v9
theorem spec_EarliestAt_ok (a0 : Network) (a1 : ByteArray) (a2 : ByteArray) (a3 : Int) (r : Int) (hM : spec_EarliestAt a0 a1 a2 a3 = some r) :
    Con Try.prog 39 [.agg [.rs 6 (a0.Legs.map Leg.enc), .rs 1 (a0.Off.map encI), .v (.int .i64 a0.Change)], .c (.v (.string a1)), .c (.v (.string a2)), .c (.v (.int .i64 a3))] [] (.o (.c (.v (.int .i64 r)))) [] [] := by
  unfold spec_EarliestAt at hM
  refine cn (N := 34) (pids := []) Try_mixed Try.func39 (by kernel_rfl) (by kernel_rfl) (by kernel_rfl) rfl fun ρ g w R => ?_
  obtain ⟨v1, h2, hM⟩ := bind_some hM
  obtain ⟨v3, h4, hM⟩ := bind_some hM
  obtain ⟨v5, h6, hM⟩ := bind_some hM
  rcases cond_cases hM with ⟨h7, hM⟩ | ⟨h7, hM⟩
  · have hE : some (-1) = some r := hM
    have hE := Option.some.inj hE
    subst hE
    exact pr R 9999 [.new 0, .call false [] (.o (.c (.sl 1))) [] [(1, .row 9 1 (v1.map encS))], .call false [] (.o (.c (.v (.int .i64 v3)))) [] [], .ln (v1.length), .call false [] (.o (.c (.sl 2))) [] [(2, .row 3 1 (v5.map encI))], .as 25 true] [] [] [] (And.intro (And.intro (con_sw 1000 1 (spec_PlacesOf_ok a0 v1 h2)) (rfl : ([] : List Nat) = [])) (And.intro (spec_l4Index_ok v1 a2 v3 h4) (And.intro (lenm encS v1) (And.intro (And.intro (con_sw 1000 2 (spec_BestArrivals_ok a0 a1 a3 (v1.length : Int) v5 h6)) (rfl : ([] : List Nat) = [])) (And.intro h7 True.intro))))) (by kernel_rfl)
  · rcases cond_cases hM with ⟨h8, hM⟩ | ⟨h8, hM⟩
    · have hE : some (-1) = some r := hM
      have hE := Option.some.inj hE
      subst hE
      exact pr R 9999 [.new 0, .call false [] (.o (.c (.sl 1))) [] [(1, .row 9 1 (v1.map encS))], .call false [] (.o (.c (.v (.int .i64 v3)))) [] [], .ln (v1.length), .call false [] (.o (.c (.sl 2))) [] [(2, .row 3 1 (v5.map encI))], .as 25 false, .ln (v5.length), .as 29 true] [] [] [] (And.intro (And.intro (con_sw 1000 1 (spec_PlacesOf_ok a0 v1 h2)) (rfl : ([] : List Nat) = [])) (And.intro (spec_l4Index_ok v1 a2 v3 h4) (And.intro (lenm encS v1) (And.intro (And.intro (con_sw 1000 2 (spec_BestArrivals_ok a0 a1 a3 (v1.length : Int) v5 h6)) (rfl : ([] : List Nat) = [])) (And.intro h7 (And.intro (lenm encI v5) (And.intro h8 True.intro))))))) (by kernel_rfl)
    · obtain ⟨v9, h10, hM⟩ := bind_some hM
      have hE : some v9 = some r := hM
      have hE := Option.some.inj hE
      subst hE
      exact pr R 9999 [.new 0, .call false [] (.o (.c (.sl 1))) [] [(1, .row 9 1 (v1.map encS))], .call false [] (.o (.c (.v (.int .i64 v3)))) [] [], .ln (v1.length), .call false [] (.o (.c (.sl 2))) [] [(2, .row 3 1 (v5.map encI))], .as 25 false, .ln (v5.length), .as 29 false, .ix (encI v9)] [] [] [] (And.intro (And.intro (con_sw 1000 1 (spec_PlacesOf_ok a0 v1 h2)) (rfl : ([] : List Nat) = [])) (And.intro (spec_l4Index_ok v1 a2 v3 h4) (And.intro (lenm encS v1) (And.intro (And.intro (con_sw 1000 2 (spec_BestArrivals_ok a0 a1 a3 (v1.length : Int) v5 h6)) (rfl : ([] : List Nat) = [])) (And.intro h7 (And.intro (lenm encI v5) (And.intro h8 (And.intro (gi_lt encI h10) (And.intro ((gi_map encI h10).2) True.intro))))))))) (by kernel_rfl)

-- loop.example/g03014/laws.at
def laws_at (a0 : (List Int)) (a1 : Int) : Option Int :=
  bif (decide (a1 ≥ (a0.length : Int))) then
  some 0
  else
  (gi a0 a1).bind fun v2 =>
  some (w64 v2)
theorem laws_at_ok (a0 : (List Int)) (a1 : Int) (r : Int) (hM : laws_at a0 a1 = some r) :
    Con Try.prog 25 [.c (.rs 1 (a0.map encU8)), .c (.v (.int .i64 a1))] [] (.o (.c (.v (.int .i64 r)))) [] [] := by
  unfold laws_at at hM
  refine cn (N := 14) (pids := []) Try_mixed Try.func25 (by kernel_rfl) (by kernel_rfl) (by kernel_rfl) rfl fun ρ g w R => ?_
  rcases cond_cases hM with ⟨h1, hM⟩ | ⟨h1, hM⟩
  · have hE : some 0 = some r := hM
    have hE := Option.some.inj hE
    subst hE
    exact pr R 9999 [.ln (a0.length), .as 8 true] [] [] [] (And.intro (lenm encU8 a0) (And.intro h1 True.intro)) (by kernel_rfl)
  · obtain ⟨v2, h3, hM⟩ := bind_some hM
    have hE : some (w64 v2) = some r := hM
    have hE := Option.some.inj hE
    subst hE
    exact pr R 9999 [.ln (a0.length), .as 8 false, .ix (encU8 v2)] [] [] [] (And.intro (lenm encU8 a0) (And.intro h1 (And.intro (gi_map encU8 h3) True.intro))) (by kernel_rfl)

-- loop.example/g03014/laws.FnLater
def laws_FnLater_L1_b (v22 : (List Int)) (v26 : (List Int)) (s28 : Int) : Option (Ctl Int Unit Bool) :=
  bif (decide (s28 < (v22.length : Int))) then
  (gi v22 s28).bind fun v30 =>
  bif (decide (v30 ≥ 0)) then
  (gi v26 s28).bind fun v33 =>
  bif (decide (v33 < 0)) then
  some (.ret false)
  else
  (gi v26 s28).bind fun v36 =>
  (gi v22 s28).bind fun v38 =>
  bif (decide (v36 > v38)) then
  some (.ret false)
  else
  some (.next (w64 (s28 + 1)))
  else
  some (.next (w64 (s28 + 1)))
  else
  some (.brk ())
def laws_FnLater_L1 (v22 : (List Int)) (v26 : (List Int)) (s : Int) : Option (Ctl Int Unit Bool) := laws_FnLater_L1_b v22 v26 s
def laws_FnLater_L1_s (v22 : (List Int)) (v26 : (List Int)) (s28 : Int) : St := ⟨[(9, .o (.c (.sl 1))), (10, .o (.c (.sl 2))), (11, .o (.c (.v (.int .i64 s28))))], [(1, .row 3 1 (v22.map encI)), (2, .row 3 1 (v26.map encI))]⟩
def laws_FnLater_L1_S (v22 : (List Int)) (v26 : (List Int)) (s : Int) : St := laws_FnLater_L1_s v22 v26 s
def laws_FnLater_L1_a (v22 : (List Int)) (v26 : (List Int)) : Option Bool :=
  some ((v22.length : Int) == (v26.length : Int))
def laws_FnLater_L1_k (v22 : (List Int)) (v26 : (List Int)) (x : (Unit) ⊕ (Bool)) : Option Bool := match x with
  | .inl t => laws_FnLater_L1_a v22 v26
  | .inr y => some y
def laws_FnLater_L2_b (v43 : (List Int)) (v47 : (List Int)) (s49 : Int) : Option (Ctl Int Unit Bool) :=
  bif (decide (s49 < (v43.length : Int))) then
  (gi v43 s49).bind fun v51 =>
  bif (decide (v51 ≥ 0)) then
  (gi v47 s49).bind fun v54 =>
  bif (decide (v54 < 0)) then
  some (.ret false)
  else
  (gi v47 s49).bind fun v57 =>
  (gi v43 s49).bind fun v59 =>
  bif (decide (v57 > v59)) then
  some (.ret false)
  else
  some (.next (w64 (s49 + 1)))
  else
  some (.next (w64 (s49 + 1)))
  else
  some (.brk ())
def laws_FnLater_L2 (v43 : (List Int)) (v47 : (List Int)) (s : Int) : Option (Ctl Int Unit Bool) := laws_FnLater_L2_b v43 v47 s
def laws_FnLater_L2_s (v43 : (List Int)) (v47 : (List Int)) (s49 : Int) : St := ⟨[(9, .o (.c (.sl 3))), (10, .o (.c (.sl 4))), (11, .o (.c (.v (.int .i64 s49))))], [(3, .row 3 1 (v43.map encI)), (4, .row 3 1 (v47.map encI))]⟩
def laws_FnLater_L2_S (v43 : (List Int)) (v47 : (List Int)) (s : Int) : St := laws_FnLater_L2_s v43 v47 s
def laws_FnLater_L2_a (v43 : (List Int)) (v47 : (List Int)) : Option Bool :=
  some ((v43.length : Int) == (v47.length : Int))
def laws_FnLater_L2_k (v43 : (List Int)) (v47 : (List Int)) (x : (Unit) ⊕ (Bool)) : Option Bool := match x with
  | .inl t => laws_FnLater_L2_a v43 v47
  | .inr y => some y
def laws_FnLater (a0 : (List Int)) : Option Bool :=
  (laws_big a0).bind fun v1 =>
  bif v1 then
  some true
  else
  (spec_DrawEarliestAt a0).bind fun v4 =>
  bif (decide (v4.2.2.2 < 0)) then
  some true
  else
  bif (decide (v4.2.2.2 > 90000)) then
  some true
  else
  (impl_EarliestAt v4.1 v4.2.1 v4.2.2.1 v4.2.2.2).bind fun v8 =>
  (spec_EarliestAt v4.1 v4.2.1 v4.2.2.1 v4.2.2.2).bind fun v10 =>
  bif (v8 != v10) then
  some false
  else
  (laws_at a0 1).bind fun v13 =>
  (impl_EarliestAt v4.1 v4.2.1 v4.2.2.1 (w64 (v4.2.2.2 + (w64 (7 * v13))))).bind fun v15 =>
  bif (decide (v15 ≥ 0)) then
  bif (decide (v8 < 0)) then
  some false
  else
  bif (decide (v8 > v15)) then
  some false
  else
  (laws_at a0 2).bind fun v20 =>
  (impl_BestArrivals v4.1 v4.2.1 v4.2.2.2 (Int.tmod v20 5)).bind fun v22 =>
  (laws_at a0 2).bind fun v24 =>
  (impl_BestArrivals v4.1 v4.2.1 v4.2.2.2 (w64 ((Int.tmod v24 5) + 1))).bind fun v26 =>
  (loopM (laws_FnLater_L1 v22 v26) big 0).bind (laws_FnLater_L1_k v22 v26)
  else
  (laws_at a0 2).bind fun v41 =>
  (impl_BestArrivals v4.1 v4.2.1 v4.2.2.2 (Int.tmod v41 5)).bind fun v43 =>
  (laws_at a0 2).bind fun v45 =>
  (impl_BestArrivals v4.1 v4.2.1 v4.2.2.2 (w64 ((Int.tmod v45 5) + 1))).bind fun v47 =>
  (loopM (laws_FnLater_L2 v43 v47) big 0).bind (laws_FnLater_L2_k v43 v47)
theorem laws_FnLater_ok (a0 : (List Int)) (r : Bool) (hM : laws_FnLater a0 = some r) :
    Con Try.prog 9 [.c (.rs 1 (a0.map encU8))] [] (.o (.c (.v (.bool r)))) [] [] := by
  unfold laws_FnLater at hM
  refine cn (N := 108) (pids := []) Try_mixed Try.func9 (by kernel_rfl) (by kernel_rfl) (by kernel_rfl) rfl fun ρ g w R => ?_
  obtain ⟨v1, h2, hM⟩ := bind_some hM
  rcases cond_cases hM with ⟨h3, hM⟩ | ⟨h3, hM⟩
  · have hE : some true = some r := hM
    have hE := Option.some.inj hE
    subst hE
    exact pr R 9999 [.call false [] (.o (.c (.v (.bool v1)))) [] [], .as 13 true] [] [] [] (And.intro (laws_big_ok a0 v1 h2) (And.intro h3 True.intro)) (by kernel_rfl)
  · obtain ⟨v4, h5, hM⟩ := bind_some hM
    rcases cond_cases hM with ⟨h6, hM⟩ | ⟨h6, hM⟩
    · have hE : some true = some r := hM
      have hE := Option.some.inj hE
      subst hE
      exact pr R 9999 [.call false [] (.o (.c (.v (.bool v1)))) [] [], .as 13 false, .call true [] (.tup [.agg [.rs 6 (v4.1.Legs.map Leg.enc), .rs 1 (v4.1.Off.map encI), .v (.int .i64 v4.1.Change)], .c (.v (.string v4.2.1)), .c (.v (.string v4.2.2.1)), .c (.v (.int .i64 v4.2.2.2))]) [] [], .new 0, .as 23 true] [] [] [] (And.intro (laws_big_ok a0 v1 h2) (And.intro h3 (And.intro (And.intro (spec_DrawEarliestAt_ok a0 v4 h5) (rfl : ([] : List Nat) = [])) (And.intro h6 True.intro)))) (by kernel_rfl)
    · rcases cond_cases hM with ⟨h7, hM⟩ | ⟨h7, hM⟩
      · have hE : some true = some r := hM
        have hE := Option.some.inj hE
        subst hE
        exact pr R 9999 [.call false [] (.o (.c (.v (.bool v1)))) [] [], .as 13 false, .call true [] (.tup [.agg [.rs 6 (v4.1.Legs.map Leg.enc), .rs 1 (v4.1.Off.map encI), .v (.int .i64 v4.1.Change)], .c (.v (.string v4.2.1)), .c (.v (.string v4.2.2.1)), .c (.v (.int .i64 v4.2.2.2))]) [] [], .new 0, .as 23 false, .as 26 true] [] [] [] (And.intro (laws_big_ok a0 v1 h2) (And.intro h3 (And.intro (And.intro (spec_DrawEarliestAt_ok a0 v4 h5) (rfl : ([] : List Nat) = [])) (And.intro h6 (And.intro h7 True.intro))))) (by kernel_rfl)
      · obtain ⟨v8, h9, hM⟩ := bind_some hM
        obtain ⟨v10, h11, hM⟩ := bind_some hM
        rcases cond_cases hM with ⟨h12, hM⟩ | ⟨h12, hM⟩
        · have hE : some false = some r := hM
          have hE := Option.some.inj hE
          subst hE
          exact pr R 9999 [.call false [] (.o (.c (.v (.bool v1)))) [] [], .as 13 false, .call true [] (.tup [.agg [.rs 6 (v4.1.Legs.map Leg.enc), .rs 1 (v4.1.Off.map encI), .v (.int .i64 v4.1.Change)], .c (.v (.string v4.2.1)), .c (.v (.string v4.2.2.1)), .c (.v (.int .i64 v4.2.2.2))]) [] [], .new 0, .as 23 false, .as 26 false, .call false [] (.o (.c (.v (.int .i64 v8)))) [] [], .call false [] (.o (.c (.v (.int .i64 v10)))) [] [], .as 38 true] [] [] [] (And.intro (laws_big_ok a0 v1 h2) (And.intro h3 (And.intro (And.intro (spec_DrawEarliestAt_ok a0 v4 h5) (rfl : ([] : List Nat) = [])) (And.intro h6 (And.intro h7 (And.intro (impl_EarliestAt_ok v4.1 v4.2.1 v4.2.2.1 v4.2.2.2 v8 h9) (And.intro (spec_EarliestAt_ok v4.1 v4.2.1 v4.2.2.1 v4.2.2.2 v10 h11) (And.intro h12 True.intro)))))))) (by kernel_rfl)
        · obtain ⟨v13, h14, hM⟩ := bind_some hM
          obtain ⟨v15, h16, hM⟩ := bind_some hM
          rcases cond_cases hM with ⟨h17, hM⟩ | ⟨h17, hM⟩
          · rcases cond_cases hM with ⟨h18, hM⟩ | ⟨h18, hM⟩
            · have hE : some false = some r := hM
              have hE := Option.some.inj hE
              subst hE
              exact pr R 9999 [.call false [] (.o (.c (.v (.bool v1)))) [] [], .as 13 false, .call true [] (.tup [.agg [.rs 6 (v4.1.Legs.map Leg.enc), .rs 1 (v4.1.Off.map encI), .v (.int .i64 v4.1.Change)], .c (.v (.string v4.2.1)), .c (.v (.string v4.2.2.1)), .c (.v (.int .i64 v4.2.2.2))]) [] [], .new 0, .as 23 false, .as 26 false, .call false [] (.o (.c (.v (.int .i64 v8)))) [] [], .call false [] (.o (.c (.v (.int .i64 v10)))) [] [], .as 38 false, .call false [] (.o (.c (.v (.int .i64 v13)))) [] [], .call false [] (.o (.c (.v (.int .i64 v15)))) [] [], .as 50 true, .as 53 true] [] [] [] (And.intro (laws_big_ok a0 v1 h2) (And.intro h3 (And.intro (And.intro (spec_DrawEarliestAt_ok a0 v4 h5) (rfl : ([] : List Nat) = [])) (And.intro h6 (And.intro h7 (And.intro (impl_EarliestAt_ok v4.1 v4.2.1 v4.2.2.1 v4.2.2.2 v8 h9) (And.intro (spec_EarliestAt_ok v4.1 v4.2.1 v4.2.2.1 v4.2.2.2 v10 h11) (And.intro h12 (And.intro (laws_at_ok a0 1 v13 h14) (And.intro (impl_EarliestAt_ok v4.1 v4.2.1 v4.2.2.1 (w64 (v4.2.2.2 + (w64 (7 * v13)))) v15 h16) (And.intro h17 (And.intro h18 True.intro)))))))))))) (by kernel_rfl)
            · rcases cond_cases hM with ⟨h19, hM⟩ | ⟨h19, hM⟩
              · have hE : some false = some r := hM
                have hE := Option.some.inj hE
                subst hE
                exact pr R 9999 [.call false [] (.o (.c (.v (.bool v1)))) [] [], .as 13 false, .call true [] (.tup [.agg [.rs 6 (v4.1.Legs.map Leg.enc), .rs 1 (v4.1.Off.map encI), .v (.int .i64 v4.1.Change)], .c (.v (.string v4.2.1)), .c (.v (.string v4.2.2.1)), .c (.v (.int .i64 v4.2.2.2))]) [] [], .new 0, .as 23 false, .as 26 false, .call false [] (.o (.c (.v (.int .i64 v8)))) [] [], .call false [] (.o (.c (.v (.int .i64 v10)))) [] [], .as 38 false, .call false [] (.o (.c (.v (.int .i64 v13)))) [] [], .call false [] (.o (.c (.v (.int .i64 v15)))) [] [], .as 50 true, .as 53 false, .as 58 true] [] [] [] (And.intro (laws_big_ok a0 v1 h2) (And.intro h3 (And.intro (And.intro (spec_DrawEarliestAt_ok a0 v4 h5) (rfl : ([] : List Nat) = [])) (And.intro h6 (And.intro h7 (And.intro (impl_EarliestAt_ok v4.1 v4.2.1 v4.2.2.1 v4.2.2.2 v8 h9) (And.intro (spec_EarliestAt_ok v4.1 v4.2.1 v4.2.2.1 v4.2.2.2 v10 h11) (And.intro h12 (And.intro (laws_at_ok a0 1 v13 h14) (And.intro (impl_EarliestAt_ok v4.1 v4.2.1 v4.2.2.1 (w64 (v4.2.2.2 + (w64 (7 * v13)))) v15 h16) (And.intro h17 (And.intro h18 (And.intro h19 True.intro))))))))))))) (by kernel_rfl)
              · obtain ⟨v20, h21, hM⟩ := bind_some hM
                obtain ⟨v22, h23, hM⟩ := bind_some hM
                obtain ⟨v24, h25, hM⟩ := bind_some hM
                obtain ⟨v26, h27, hM⟩ := bind_some hM
                have K1 : ∀ (_ : Unit), laws_FnLater_L1_a v22 v26 = some r → Gr R [.code (cAt Try.f9 [1, 1, 1, 1, 1, 1, 1, 1, 1, 1, 1])] (⟨[(9, .o (.c (.sl 1))), (10, .o (.c (.sl 2)))], [(1, .row 3 1 (v22.map encI)), (2, .row 3 1 (v26.map encI))]⟩) := by
                  intro _ hM
                  unfold laws_FnLater_L1_a at hM
                  have hE : some ((v22.length : Int) == (v26.length : Int)) = some r := hM
                  have hE := Option.some.inj hE
                  subst hE
                  exact pr R 9999 [.ln (v22.length), .ln (v26.length)] [] [] [] (And.intro (lenm encI v22) (And.intro (lenm encI v26) True.intro)) (by kernel_rfl)
                refine pc R 9999 [.call false [] (.o (.c (.v (.bool v1)))) [] [], .as 13 false, .call true [] (.tup [.agg [.rs 6 (v4.1.Legs.map Leg.enc), .rs 1 (v4.1.Off.map encI), .v (.int .i64 v4.1.Change)], .c (.v (.string v4.2.1)), .c (.v (.string v4.2.2.1)), .c (.v (.int .i64 v4.2.2.2))]) [] [], .new 0, .as 23 false, .as 26 false, .call false [] (.o (.c (.v (.int .i64 v8)))) [] [], .call false [] (.o (.c (.v (.int .i64 v10)))) [] [], .as 38 false, .call false [] (.o (.c (.v (.int .i64 v13)))) [] [], .call false [] (.o (.c (.v (.int .i64 v15)))) [] [], .as 50 true, .as 53 false, .as 58 false, .call false [] (.o (.c (.v (.int .i64 v20)))) [] [], .call false [] (.o (.c (.sl 1))) [] [(1, .row 3 1 (v22.map encI))], .call false [] (.o (.c (.v (.int .i64 v24)))) [] [], .call false [] (.o (.c (.sl 2))) [] [(2, .row 3 1 (v26.map encI))]] [.keep [9, 10, 11] [1, 2]] (k' := [.code (.loop (cAt Try.f9 [1, 1, 1, 1, 1, 1, 1, 1, 1, 1, 0, 1, 0, 0])), .blk 0, .code (cAt Try.f9 [1, 1, 1, 1, 1, 1, 1, 1, 1, 1, 1])]) (S' := laws_FnLater_L1_S v22 v26 0) (And.intro (laws_big_ok a0 v1 h2) (And.intro h3 (And.intro (And.intro (spec_DrawEarliestAt_ok a0 v4 h5) (rfl : ([] : List Nat) = [])) (And.intro h6 (And.intro h7 (And.intro (impl_EarliestAt_ok v4.1 v4.2.1 v4.2.2.1 v4.2.2.2 v8 h9) (And.intro (spec_EarliestAt_ok v4.1 v4.2.1 v4.2.2.1 v4.2.2.2 v10 h11) (And.intro h12 (And.intro (laws_at_ok a0 1 v13 h14) (And.intro (impl_EarliestAt_ok v4.1 v4.2.1 v4.2.2.1 (w64 (v4.2.2.2 + (w64 (7 * v13)))) v15 h16) (And.intro h17 (And.intro h18 (And.intro h19 (And.intro (laws_at_ok a0 2 v20 h21) (And.intro (And.intro (con_sw 1000 1 (impl_BestArrivals_ok v4.1 v4.2.1 v4.2.2.2 (Int.tmod v20 5) v22 h23)) (rfl : ([] : List Nat) = [])) (And.intro (laws_at_ok a0 2 v24 h25) (And.intro (And.intro (con_sw 1000 2 (impl_BestArrivals_ok v4.1 v4.2.1 v4.2.2.2 (w64 ((Int.tmod v24 5) + 1)) v26 h27)) (rfl : ([] : List Nat) = [])) True.intro))))))))))))))))) (by kernel_rfl) ?_
                refine lq (laws_FnLater_L1_S v22 v26) (body := laws_FnLater_L1 v22 v26) (k := laws_FnLater_L1_k v22 v26) hM fun m1 s c1 hM hK1 => ?_
                obtain ⟨s28, hs⟩ : ∃ z, z = s := ⟨_, rfl⟩
                subst hs
                have hM : laws_FnLater_L1_b v22 v26 s28 = some c1 := hM
                unfold laws_FnLater_L1_b at hM
                rcases cond_cases hM with ⟨h29, hM⟩ | ⟨h29, hM⟩
                · obtain ⟨v30, h31, hM⟩ := bind_some hM
                  rcases cond_cases hM with ⟨h32, hM⟩ | ⟨h32, hM⟩
                  · obtain ⟨v33, h34, hM⟩ := bind_some hM
                    rcases cond_cases hM with ⟨h35, hM⟩ | ⟨h35, hM⟩
                    · have hE : some (Ctl.ret false) = some c1 := hM
                      have hE := Option.some.inj hE
                      subst hE
                      have hE : some false = some r := hK1
                      have hE := Option.some.inj hE
                      subst hE
                      exact pr R 9999 [.ln (v22.length), .as 77 true, .ix (encI v30), .as 85 true, .ix (encI v33), .as 91 true] [] [] [] (And.intro (lenm encI v22) (And.intro h29 (And.intro (gi_lt encI h31) (And.intro ((gi_map encI h31).2) (And.intro h32 (And.intro (gi_lt encI h34) (And.intro ((gi_map encI h34).2) (And.intro h35 True.intro)))))))) (by kernel_rfl)
                    · obtain ⟨v36, h37, hM⟩ := bind_some hM
                      obtain ⟨v38, h39, hM⟩ := bind_some hM
                      rcases cond_cases hM with ⟨h40, hM⟩ | ⟨h40, hM⟩
                      · have hE : some (Ctl.ret false) = some c1 := hM
                        have hE := Option.some.inj hE
                        subst hE
                        have hE : some false = some r := hK1
                        have hE := Option.some.inj hE
                        subst hE
                        exact pr R 9999 [.ln (v22.length), .as 77 true, .ix (encI v30), .as 85 true, .ix (encI v33), .as 91 false, .ix (encI v36), .ix (encI v38), .as 102 true] [] [] [] (And.intro (lenm encI v22) (And.intro h29 (And.intro (gi_lt encI h31) (And.intro ((gi_map encI h31).2) (And.intro h32 (And.intro (gi_lt encI h34) (And.intro ((gi_map encI h34).2) (And.intro h35 (And.intro (gi_lt encI h37) (And.intro ((gi_map encI h37).2) (And.intro (gi_lt encI h39) (And.intro ((gi_map encI h39).2) (And.intro h40 True.intro))))))))))))) (by kernel_rfl)
                      · have hE : some (Ctl.next (w64 (s28 + 1))) = some c1 := hM
                        have hE := Option.some.inj hE
                        subst hE
                        exact pc R 9999 [.ln (v22.length), .as 77 true, .ix (encI v30), .as 85 true, .ix (encI v33), .as 91 false, .ix (encI v36), .ix (encI v38), .as 102 false] [.keep [9, 10, 11] [1, 2]] (And.intro (lenm encI v22) (And.intro h29 (And.intro (gi_lt encI h31) (And.intro ((gi_map encI h31).2) (And.intro h32 (And.intro (gi_lt encI h34) (And.intro ((gi_map encI h34).2) (And.intro h35 (And.intro (gi_lt encI h37) (And.intro ((gi_map encI h37).2) (And.intro (gi_lt encI h39) (And.intro ((gi_map encI h39).2) (And.intro h40 True.intro))))))))))))) (by kernel_rfl) (li (Sf := laws_FnLater_L1_S v22 v26) (M := Mk (laws_FnLater_L1 v22 v26) (laws_FnLater_L1_k v22 v26) r) (k := [.blk 0, .code (cAt Try.f9 [1, 1, 1, 1, 1, 1, 1, 1, 1, 1, 1])]) (Nat.lt_succ_self m1) hK1)
                  · have hE : some (Ctl.next (w64 (s28 + 1))) = some c1 := hM
                    have hE := Option.some.inj hE
                    subst hE
                    exact pc R 9999 [.ln (v22.length), .as 77 true, .ix (encI v30), .as 85 false] [.keep [9, 10, 11] [1, 2]] (And.intro (lenm encI v22) (And.intro h29 (And.intro (gi_lt encI h31) (And.intro ((gi_map encI h31).2) (And.intro h32 True.intro))))) (by kernel_rfl) (li (Sf := laws_FnLater_L1_S v22 v26) (M := Mk (laws_FnLater_L1 v22 v26) (laws_FnLater_L1_k v22 v26) r) (k := [.blk 0, .code (cAt Try.f9 [1, 1, 1, 1, 1, 1, 1, 1, 1, 1, 1])]) (Nat.lt_succ_self m1) hK1)
                · have hE : some (Ctl.brk ()) = some c1 := hM
                  have hE := Option.some.inj hE
                  subst hE
                  exact pc R 5 [.ln (v22.length), .as 77 false] [.keep [9, 10] [1, 2]] (And.intro (lenm encI v22) (And.intro h29 True.intro)) (by kernel_rfl) (K1 () hK1)
          · obtain ⟨v41, h42, hM⟩ := bind_some hM
            obtain ⟨v43, h44, hM⟩ := bind_some hM
            obtain ⟨v45, h46, hM⟩ := bind_some hM
            obtain ⟨v47, h48, hM⟩ := bind_some hM
            have K2 : ∀ (_ : Unit), laws_FnLater_L2_a v43 v47 = some r → Gr R [.code (cAt Try.f9 [1, 1, 1, 1, 1, 1, 1, 1, 1, 1, 1])] (⟨[(9, .o (.c (.sl 3))), (10, .o (.c (.sl 4)))], [(3, .row 3 1 (v43.map encI)), (4, .row 3 1 (v47.map encI))]⟩) := by
              intro _ hM
              unfold laws_FnLater_L2_a at hM
              have hE : some ((v43.length : Int) == (v47.length : Int)) = some r := hM
              have hE := Option.some.inj hE
              subst hE
              exact pr R 9999 [.ln (v43.length), .ln (v47.length)] [] [] [] (And.intro (lenm encI v43) (And.intro (lenm encI v47) True.intro)) (by kernel_rfl)
            refine pc R 9999 [.call false [] (.o (.c (.v (.bool v1)))) [] [], .as 13 false, .call true [] (.tup [.agg [.rs 6 (v4.1.Legs.map Leg.enc), .rs 1 (v4.1.Off.map encI), .v (.int .i64 v4.1.Change)], .c (.v (.string v4.2.1)), .c (.v (.string v4.2.2.1)), .c (.v (.int .i64 v4.2.2.2))]) [] [], .new 0, .as 23 false, .as 26 false, .call false [] (.o (.c (.v (.int .i64 v8)))) [] [], .call false [] (.o (.c (.v (.int .i64 v10)))) [] [], .as 38 false, .call false [] (.o (.c (.v (.int .i64 v13)))) [] [], .call false [] (.o (.c (.v (.int .i64 v15)))) [] [], .as 50 false, .call false [] (.o (.c (.v (.int .i64 v41)))) [] [], .call false [] (.o (.c (.sl 3))) [] [(3, .row 3 1 (v43.map encI))], .call false [] (.o (.c (.v (.int .i64 v45)))) [] [], .call false [] (.o (.c (.sl 4))) [] [(4, .row 3 1 (v47.map encI))]] [.keep [9, 10, 11] [3, 4]] (k' := [.code (.loop (cAt Try.f9 [1, 1, 1, 1, 1, 1, 1, 1, 1, 1, 0, 1, 0, 0])), .blk 0, .code (cAt Try.f9 [1, 1, 1, 1, 1, 1, 1, 1, 1, 1, 1])]) (S' := laws_FnLater_L2_S v43 v47 0) (And.intro (laws_big_ok a0 v1 h2) (And.intro h3 (And.intro (And.intro (spec_DrawEarliestAt_ok a0 v4 h5) (rfl : ([] : List Nat) = [])) (And.intro h6 (And.intro h7 (And.intro (impl_EarliestAt_ok v4.1 v4.2.1 v4.2.2.1 v4.2.2.2 v8 h9) (And.intro (spec_EarliestAt_ok v4.1 v4.2.1 v4.2.2.1 v4.2.2.2 v10 h11) (And.intro h12 (And.intro (laws_at_ok a0 1 v13 h14) (And.intro (impl_EarliestAt_ok v4.1 v4.2.1 v4.2.2.1 (w64 (v4.2.2.2 + (w64 (7 * v13)))) v15 h16) (And.intro h17 (And.intro (laws_at_ok a0 2 v41 h42) (And.intro (And.intro (con_sw 1000 3 (impl_BestArrivals_ok v4.1 v4.2.1 v4.2.2.2 (Int.tmod v41 5) v43 h44)) (rfl : ([] : List Nat) = [])) (And.intro (laws_at_ok a0 2 v45 h46) (And.intro (And.intro (con_sw 1000 4 (impl_BestArrivals_ok v4.1 v4.2.1 v4.2.2.2 (w64 ((Int.tmod v45 5) + 1)) v47 h48)) (rfl : ([] : List Nat) = [])) True.intro))))))))))))))) (by kernel_rfl) ?_
            refine lq (laws_FnLater_L2_S v43 v47) (body := laws_FnLater_L2 v43 v47) (k := laws_FnLater_L2_k v43 v47) hM fun m2 s c2 hM hK2 => ?_
            obtain ⟨s49, hs⟩ : ∃ z, z = s := ⟨_, rfl⟩
            subst hs
            have hM : laws_FnLater_L2_b v43 v47 s49 = some c2 := hM
            unfold laws_FnLater_L2_b at hM
            rcases cond_cases hM with ⟨h50, hM⟩ | ⟨h50, hM⟩
            · obtain ⟨v51, h52, hM⟩ := bind_some hM
              rcases cond_cases hM with ⟨h53, hM⟩ | ⟨h53, hM⟩
              · obtain ⟨v54, h55, hM⟩ := bind_some hM
                rcases cond_cases hM with ⟨h56, hM⟩ | ⟨h56, hM⟩
                · have hE : some (Ctl.ret false) = some c2 := hM
                  have hE := Option.some.inj hE
                  subst hE
                  have hE : some false = some r := hK2
                  have hE := Option.some.inj hE
                  subst hE
                  exact pr R 9999 [.ln (v43.length), .as 77 true, .ix (encI v51), .as 85 true, .ix (encI v54), .as 91 true] [] [] [] (And.intro (lenm encI v43) (And.intro h50 (And.intro (gi_lt encI h52) (And.intro ((gi_map encI h52).2) (And.intro h53 (And.intro (gi_lt encI h55) (And.intro ((gi_map encI h55).2) (And.intro h56 True.intro)))))))) (by kernel_rfl)
                · obtain ⟨v57, h58, hM⟩ := bind_some hM
                  obtain ⟨v59, h60, hM⟩ := bind_some hM
                  rcases cond_cases hM with ⟨h61, hM⟩ | ⟨h61, hM⟩
                  · have hE : some (Ctl.ret false) = some c2 := hM
                    have hE := Option.some.inj hE
                    subst hE
                    have hE : some false = some r := hK2
                    have hE := Option.some.inj hE
                    subst hE
                    exact pr R 9999 [.ln (v43.length), .as 77 true, .ix (encI v51), .as 85 true, .ix (encI v54), .as 91 false, .ix (encI v57), .ix (encI v59), .as 102 true] [] [] [] (And.intro (lenm encI v43) (And.intro h50 (And.intro (gi_lt encI h52) (And.intro ((gi_map encI h52).2) (And.intro h53 (And.intro (gi_lt encI h55) (And.intro ((gi_map encI h55).2) (And.intro h56 (And.intro (gi_lt encI h58) (And.intro ((gi_map encI h58).2) (And.intro (gi_lt encI h60) (And.intro ((gi_map encI h60).2) (And.intro h61 True.intro))))))))))))) (by kernel_rfl)
                  · have hE : some (Ctl.next (w64 (s49 + 1))) = some c2 := hM
                    have hE := Option.some.inj hE
                    subst hE
                    exact pc R 9999 [.ln (v43.length), .as 77 true, .ix (encI v51), .as 85 true, .ix (encI v54), .as 91 false, .ix (encI v57), .ix (encI v59), .as 102 false] [.keep [9, 10, 11] [3, 4]] (And.intro (lenm encI v43) (And.intro h50 (And.intro (gi_lt encI h52) (And.intro ((gi_map encI h52).2) (And.intro h53 (And.intro (gi_lt encI h55) (And.intro ((gi_map encI h55).2) (And.intro h56 (And.intro (gi_lt encI h58) (And.intro ((gi_map encI h58).2) (And.intro (gi_lt encI h60) (And.intro ((gi_map encI h60).2) (And.intro h61 True.intro))))))))))))) (by kernel_rfl) (li (Sf := laws_FnLater_L2_S v43 v47) (M := Mk (laws_FnLater_L2 v43 v47) (laws_FnLater_L2_k v43 v47) r) (k := [.blk 0, .code (cAt Try.f9 [1, 1, 1, 1, 1, 1, 1, 1, 1, 1, 1])]) (Nat.lt_succ_self m2) hK2)
              · have hE : some (Ctl.next (w64 (s49 + 1))) = some c2 := hM
                have hE := Option.some.inj hE
                subst hE
                exact pc R 9999 [.ln (v43.length), .as 77 true, .ix (encI v51), .as 85 false] [.keep [9, 10, 11] [3, 4]] (And.intro (lenm encI v43) (And.intro h50 (And.intro (gi_lt encI h52) (And.intro ((gi_map encI h52).2) (And.intro h53 True.intro))))) (by kernel_rfl) (li (Sf := laws_FnLater_L2_S v43 v47) (M := Mk (laws_FnLater_L2 v43 v47) (laws_FnLater_L2_k v43 v47) r) (k := [.blk 0, .code (cAt Try.f9 [1, 1, 1, 1, 1, 1, 1, 1, 1, 1, 1])]) (Nat.lt_succ_self m2) hK2)
            · have hE : some (Ctl.brk ()) = some c2 := hM
              have hE := Option.some.inj hE
              subst hE
              exact pc R 5 [.ln (v43.length), .as 77 false] [.keep [9, 10] [3, 4]] (And.intro (lenm encI v43) (And.intro h50 True.intro)) (by kernel_rfl) (K2 () hK2)
end Go.Sx
