/- The functions of the program as plain Lean, and that each runs so (printed by wip/gen). -/
import Derived.Test.YtgipaamnefphgaaByW1
namespace Go.Sx
open Go.Proofs
set_option linter.unusedVariables false

-- loop.example/g03014/impl.areDeep
def impl_areDeep_L2_b (a0 : (List Thing)) (s2 : Int) : Option (Ctl Int Unit Bool) :=
  bif (decide (s2 < (a0.length : Int))) then
  (gi a0 s2).bind fun v4 =>
  (impl_around a0 v4.Id).bind fun v6 =>
  bif (decide ((v6.length : Int) > 4)) then
  some (.ret false)
  else
  some (.next (w64 (s2 + 1)))
  else
  some (.brk ())
def impl_areDeep_L2 (a0 : (List Thing)) (s : Int) : Option (Ctl Int Unit Bool) := impl_areDeep_L2_b a0 s
def impl_areDeep_L2_s (a0 : (List Thing)) (s2 : Int) : St := ⟨[(0, .o (.c (.rs 6 (a0.map Thing.enc)))), (74, .o (.c (.rs 6 (a0.map Thing.enc)))), (75, .o (.c (.v (.int .i64 (a0.length : Int))))), (76, .o (.c (.v (.int .i64 s2))))], []⟩
def impl_areDeep_L2_S (a0 : (List Thing)) (s : Int) : St := impl_areDeep_L2_s a0 s
def impl_areDeep_L2_a (a0 : (List Thing)) : Option Bool :=
  some (decide ((a0.length : Int) ≤ 40))
def impl_areDeep_L2_k (a0 : (List Thing)) (x : (Unit) ⊕ (Bool)) : Option Bool := match x with
  | .inl t => impl_areDeep_L2_a a0
  | .inr y => some y
def impl_areDeep_L1_b (a0 : (List Thing)) (s1 : Int) : Option (Ctl Int Unit Bool) :=
  bif (decide (s1 < (a0.length : Int))) then
  (gi a0 s1).bind fun v10 =>
  (impl_within v10.Id 1 9999).bind fun v12 =>
  bif (!v12) then
  some (.ret false)
  else
  bif (decide (s1 > 0)) then
  (gi a0 (w64 (s1 - 1))).bind fun v16 =>
  bif (decide (v16.Id ≥ v10.Id)) then
  some (.ret false)
  else
  (impl_within v10.Own 1 30000).bind fun v19 =>
  bif (!v19) then
  some (.ret false)
  else
  bif v10.Box then
  (impl_within v10.Room 1 1000000).bind fun v23 =>
  bif (!v23) then
  some (.ret false)
  else
  bif (!v10.Box) then
  bif (v10.Room != 0) then
  some (.ret false)
  else
  bif v10.Sealed then
  some (.ret false)
  else
  bif (v10.In != 0) then
  (impl_isBox a0 v10.In).bind fun v30 =>
  bif (!v30) then
  some (.ret false)
  else
  some (.next (w64 (s1 + 1)))
  else
  some (.next (w64 (s1 + 1)))
  else
  bif (v10.In != 0) then
  (impl_isBox a0 v10.In).bind fun v34 =>
  bif (!v34) then
  some (.ret false)
  else
  some (.next (w64 (s1 + 1)))
  else
  some (.next (w64 (s1 + 1)))
  else
  bif (!v10.Box) then
  bif (v10.Room != 0) then
  some (.ret false)
  else
  bif v10.Sealed then
  some (.ret false)
  else
  bif (v10.In != 0) then
  (impl_isBox a0 v10.In).bind fun v41 =>
  bif (!v41) then
  some (.ret false)
  else
  some (.next (w64 (s1 + 1)))
  else
  some (.next (w64 (s1 + 1)))
  else
  bif (v10.In != 0) then
  (impl_isBox a0 v10.In).bind fun v45 =>
  bif (!v45) then
  some (.ret false)
  else
  some (.next (w64 (s1 + 1)))
  else
  some (.next (w64 (s1 + 1)))
  else
  (impl_within v10.Own 1 30000).bind fun v48 =>
  bif (!v48) then
  some (.ret false)
  else
  bif v10.Box then
  (impl_within v10.Room 1 1000000).bind fun v52 =>
  bif (!v52) then
  some (.ret false)
  else
  bif (!v10.Box) then
  bif (v10.Room != 0) then
  some (.ret false)
  else
  bif v10.Sealed then
  some (.ret false)
  else
  bif (v10.In != 0) then
  (impl_isBox a0 v10.In).bind fun v59 =>
  bif (!v59) then
  some (.ret false)
  else
  some (.next (w64 (s1 + 1)))
  else
  some (.next (w64 (s1 + 1)))
  else
  bif (v10.In != 0) then
  (impl_isBox a0 v10.In).bind fun v63 =>
  bif (!v63) then
  some (.ret false)
  else
  some (.next (w64 (s1 + 1)))
  else
  some (.next (w64 (s1 + 1)))
  else
  bif (!v10.Box) then
  bif (v10.Room != 0) then
  some (.ret false)
  else
  bif v10.Sealed then
  some (.ret false)
  else
  bif (v10.In != 0) then
  (impl_isBox a0 v10.In).bind fun v70 =>
  bif (!v70) then
  some (.ret false)
  else
  some (.next (w64 (s1 + 1)))
  else
  some (.next (w64 (s1 + 1)))
  else
  bif (v10.In != 0) then
  (impl_isBox a0 v10.In).bind fun v74 =>
  bif (!v74) then
  some (.ret false)
  else
  some (.next (w64 (s1 + 1)))
  else
  some (.next (w64 (s1 + 1)))
  else
  some (.brk ())
def impl_areDeep_L1 (a0 : (List Thing)) (s : Int) : Option (Ctl Int Unit Bool) := impl_areDeep_L1_b a0 s
def impl_areDeep_L1_s (a0 : (List Thing)) (s1 : Int) : St := ⟨[(0, .o (.c (.rs 6 (a0.map Thing.enc)))), (7, .o (.c (.rs 6 (a0.map Thing.enc)))), (8, .o (.c (.v (.int .i64 (a0.length : Int))))), (9, .o (.c (.v (.int .i64 s1))))], []⟩
def impl_areDeep_L1_S (a0 : (List Thing)) (s : Int) : St := impl_areDeep_L1_s a0 s
def impl_areDeep_L1_a (a0 : (List Thing)) : Option Bool :=
  (loopM (impl_areDeep_L2 a0) big 0).bind (impl_areDeep_L2_k a0)
def impl_areDeep_L1_k (a0 : (List Thing)) (x : (Unit) ⊕ (Bool)) : Option Bool := match x with
  | .inl t => impl_areDeep_L1_a a0
  | .inr y => some y
def impl_areDeep (a0 : (List Thing)) : Option Bool :=
  (loopM (impl_areDeep_L1 a0) big 0).bind (impl_areDeep_L1_k a0)
theorem impl_areDeep_ok (a0 : (List Thing)) (r : Bool) (hM : impl_areDeep a0 = some r) :
    Con Try.prog 70 [.c (.rs 6 (a0.map Thing.enc))] [] (.o (.c (.v (.bool r)))) [] [] := by
  unfold impl_areDeep at hM
  refine cn (N := 90) (pids := []) Try_mixed Try.func70 (by kernel_rfl) (by kernel_rfl) (by kernel_rfl) rfl fun ρ g w R => ?_
  have K1 : ∀ (_ : Unit), impl_areDeep_L1_a a0 = some r → Gr R [.code (cAt Try.f70 [1, 1])] (⟨[(0, .o (.c (.rs 6 (a0.map Thing.enc))))], []⟩) := by
    intro _ hM
    unfold impl_areDeep_L1_a at hM
    have K2 : ∀ (_ : Unit), impl_areDeep_L2_a a0 = some r → Gr R [.code (cAt Try.f70 [1, 1, 1])] (⟨[(0, .o (.c (.rs 6 (a0.map Thing.enc))))], []⟩) := by
      intro _ hM
      unfold impl_areDeep_L2_a at hM
      have hE : some (decide ((a0.length : Int) ≤ 40)) = some r := hM
      have hE := Option.some.inj hE
      subst hE
      exact pr R 9999 [.ln (a0.length)] [] [] [] (And.intro (lenm Thing.enc a0) True.intro) (by kernel_rfl)
    refine pc R 9999 [.ln (a0.length)] [.keep [0, 74, 75, 76] []] (k' := [.code (.loop (cAt Try.f70 [1, 1, 0, 1, 0, 0])), .blk 2, .code (cAt Try.f70 [1, 1, 1])]) (S' := impl_areDeep_L2_S a0 0) (And.intro (lenm Thing.enc a0) True.intro) (by kernel_rfl) ?_
    refine lq (impl_areDeep_L2_S a0) (body := impl_areDeep_L2 a0) (k := impl_areDeep_L2_k a0) hM fun m2 s c2 hM hK2 => ?_
    obtain ⟨s2, hs⟩ : ∃ z, z = s := ⟨_, rfl⟩
    subst hs
    have hM : impl_areDeep_L2_b a0 s2 = some c2 := hM
    unfold impl_areDeep_L2_b at hM
    rcases cond_cases hM with ⟨h3, hM⟩ | ⟨h3, hM⟩
    · obtain ⟨v4, h5, hM⟩ := bind_some hM
      obtain ⟨v6, h7, hM⟩ := bind_some hM
      rcases cond_cases hM with ⟨h8, hM⟩ | ⟨h8, hM⟩
      · have hE : some (Ctl.ret false) = some c2 := hM
        have hE := Option.some.inj hE
        subst hE
        have hE : some false = some r := hK2
        have hE := Option.some.inj hE
        subst hE
        exact pr R 9999 [.as 77 true, .ix (Thing.enc v4), .new 0, .call false [] (.o (.c (.sl 1))) [] [(1, .row 3 1 (v6.map encI))], .ln (v6.length), .as 85 true] [] [] [] (And.intro h3 (And.intro (gi_map Thing.enc h5) (And.intro (And.intro (con_sw 1000 1 (impl_around_ok a0 v4.Id v6 h7)) (rfl : ([] : List Nat) = [])) (And.intro (lenm encI v6) (And.intro h8 True.intro))))) (by kernel_rfl)
      · have hE : some (Ctl.next (w64 (s2 + 1))) = some c2 := hM
        have hE := Option.some.inj hE
        subst hE
        exact pc R 9999 [.as 77 true, .ix (Thing.enc v4), .new 0, .call false [] (.o (.c (.sl 1))) [] [(1, .row 3 1 (v6.map encI))], .ln (v6.length), .as 85 false] [.keep [0, 74, 75, 76] []] (And.intro h3 (And.intro (gi_map Thing.enc h5) (And.intro (And.intro (con_sw 1000 1 (impl_around_ok a0 v4.Id v6 h7)) (rfl : ([] : List Nat) = [])) (And.intro (lenm encI v6) (And.intro h8 True.intro))))) (by kernel_rfl) (li (Sf := impl_areDeep_L2_S a0) (M := Mk (impl_areDeep_L2 a0) (impl_areDeep_L2_k a0) r) (k := [.blk 2, .code (cAt Try.f70 [1, 1, 1])]) (Nat.lt_succ_self m2) hK2)
    · have hE : some (Ctl.brk ()) = some c2 := hM
      have hE := Option.some.inj hE
      subst hE
      exact pc R 5 [.as 77 false] [.keep [0] []] (And.intro h3 True.intro) (by kernel_rfl) (K2 () hK2)
  refine pc R 9999 [.ln (a0.length)] [.keep [0, 7, 8, 9] []] (k' := [.code (.loop (cAt Try.f70 [1, 0, 1, 0, 0])), .blk 0, .code (cAt Try.f70 [1, 1])]) (S' := impl_areDeep_L1_S a0 0) (And.intro (lenm Thing.enc a0) True.intro) (by kernel_rfl) ?_
  refine lq (impl_areDeep_L1_S a0) (body := impl_areDeep_L1 a0) (k := impl_areDeep_L1_k a0) hM fun m1 s c1 hM hK1 => ?_
  obtain ⟨s1, hs⟩ : ∃ z, z = s := ⟨_, rfl⟩
  subst hs
  have hM : impl_areDeep_L1_b a0 s1 = some c1 := hM
  unfold impl_areDeep_L1_b at hM
  rcases cond_cases hM with ⟨h9, hM⟩ | ⟨h9, hM⟩
  · obtain ⟨v10, h11, hM⟩ := bind_some hM
    obtain ⟨v12, h13, hM⟩ := bind_some hM
    rcases cond_cases hM with ⟨h14, hM⟩ | ⟨h14, hM⟩
    · have hE : some (Ctl.ret false) = some c1 := hM
      have hE := Option.some.inj hE
      subst hE
      have hE : some false = some r := hK1
      have hE := Option.some.inj hE
      subst hE
      exact pr R 9999 [.as 10 true, .ix (Thing.enc v10), .new 2, .call false [] (.o (.c (.v (.bool v12)))) [] [], .as 18 true] [] [] [] (And.intro h9 (And.intro (gi_map Thing.enc h11) (And.intro (impl_within_ok v10.Id 1 9999 v12 h13) (And.intro h14 True.intro)))) (by kernel_rfl)
    · rcases cond_cases hM with ⟨h15, hM⟩ | ⟨h15, hM⟩
      · obtain ⟨v16, h17, hM⟩ := bind_some hM
        rcases cond_cases hM with ⟨h18, hM⟩ | ⟨h18, hM⟩
        · have hE : some (Ctl.ret false) = some c1 := hM
          have hE := Option.some.inj hE
          subst hE
          have hE : some false = some r := hK1
          have hE := Option.some.inj hE
          subst hE
          exact pr R 9999 [.as 10 true, .ix (Thing.enc v10), .new 2, .call false [] (.o (.c (.v (.bool v12)))) [] [], .as 18 false, .as 21 true, .ix (Thing.enc v16), .as 33 true] [] [] [] (And.intro h9 (And.intro (gi_map Thing.enc h11) (And.intro (impl_within_ok v10.Id 1 9999 v12 h13) (And.intro h14 (And.intro h15 (And.intro (gi_map Thing.enc h17) (And.intro h18 True.intro))))))) (by kernel_rfl)
        · obtain ⟨v19, h20, hM⟩ := bind_some hM
          rcases cond_cases hM with ⟨h21, hM⟩ | ⟨h21, hM⟩
          · have hE : some (Ctl.ret false) = some c1 := hM
            have hE := Option.some.inj hE
            subst hE
            have hE : some false = some r := hK1
            have hE := Option.some.inj hE
            subst hE
            exact pr R 9999 [.as 10 true, .ix (Thing.enc v10), .new 2, .call false [] (.o (.c (.v (.bool v12)))) [] [], .as 18 false, .as 21 true, .ix (Thing.enc v16), .as 33 false, .call false [] (.o (.c (.v (.bool v19)))) [] [], .as 38 true] [] [] [] (And.intro h9 (And.intro (gi_map Thing.enc h11) (And.intro (impl_within_ok v10.Id 1 9999 v12 h13) (And.intro h14 (And.intro h15 (And.intro (gi_map Thing.enc h17) (And.intro h18 (And.intro (impl_within_ok v10.Own 1 30000 v19 h20) (And.intro h21 True.intro))))))))) (by kernel_rfl)
          · rcases cond_cases hM with ⟨h22, hM⟩ | ⟨h22, hM⟩
            · obtain ⟨v23, h24, hM⟩ := bind_some hM
              rcases cond_cases hM with ⟨h25, hM⟩ | ⟨h25, hM⟩
              · have hE : some (Ctl.ret false) = some c1 := hM
                have hE := Option.some.inj hE
                subst hE
                have hE : some false = some r := hK1
                have hE := Option.some.inj hE
                subst hE
                exact pr R 9999 [.as 10 true, .ix (Thing.enc v10), .new 2, .call false [] (.o (.c (.v (.bool v12)))) [] [], .as 18 false, .as 21 true, .ix (Thing.enc v16), .as 33 false, .call false [] (.o (.c (.v (.bool v19)))) [] [], .as 38 false, .as 41 true, .call false [] (.o (.c (.v (.bool v23)))) [] [], .as 47 true] [] [] [] (And.intro h9 (And.intro (gi_map Thing.enc h11) (And.intro (impl_within_ok v10.Id 1 9999 v12 h13) (And.intro h14 (And.intro h15 (And.intro (gi_map Thing.enc h17) (And.intro h18 (And.intro (impl_within_ok v10.Own 1 30000 v19 h20) (And.intro h21 (And.intro h22 (And.intro (impl_within_ok v10.Room 1 1000000 v23 h24) (And.intro h25 True.intro)))))))))))) (by kernel_rfl)
              · rcases cond_cases hM with ⟨h26, hM⟩ | ⟨h26, hM⟩
                · rcases cond_cases hM with ⟨h27, hM⟩ | ⟨h27, hM⟩
                  · have hE : some (Ctl.ret false) = some c1 := hM
                    have hE := Option.some.inj hE
                    subst hE
                    have hE : some false = some r := hK1
                    have hE := Option.some.inj hE
                    subst hE
                    exact pr R 9999 [.as 10 true, .ix (Thing.enc v10), .new 2, .call false [] (.o (.c (.v (.bool v12)))) [] [], .as 18 false, .as 21 true, .ix (Thing.enc v16), .as 33 false, .call false [] (.o (.c (.v (.bool v19)))) [] [], .as 38 false, .as 41 true, .call false [] (.o (.c (.v (.bool v23)))) [] [], .as 47 false, .as 51 true, .as 55 true] [] [] [] (And.intro h9 (And.intro (gi_map Thing.enc h11) (And.intro (impl_within_ok v10.Id 1 9999 v12 h13) (And.intro h14 (And.intro h15 (And.intro (gi_map Thing.enc h17) (And.intro h18 (And.intro (impl_within_ok v10.Own 1 30000 v19 h20) (And.intro h21 (And.intro h22 (And.intro (impl_within_ok v10.Room 1 1000000 v23 h24) (And.intro h25 (And.intro h26 (And.intro h27 True.intro)))))))))))))) (by kernel_rfl)
                  · rcases cond_cases hM with ⟨h28, hM⟩ | ⟨h28, hM⟩
                    · have hE : some (Ctl.ret false) = some c1 := hM
                      have hE := Option.some.inj hE
                      subst hE
                      have hE : some false = some r := hK1
                      have hE := Option.some.inj hE
                      subst hE
                      exact pr R 9999 [.as 10 true, .ix (Thing.enc v10), .new 2, .call false [] (.o (.c (.v (.bool v12)))) [] [], .as 18 false, .as 21 true, .ix (Thing.enc v16), .as 33 false, .call false [] (.o (.c (.v (.bool v19)))) [] [], .as 38 false, .as 41 true, .call false [] (.o (.c (.v (.bool v23)))) [] [], .as 47 false, .as 51 true, .as 55 false, .as 61 true] [] [] [] (And.intro h9 (And.intro (gi_map Thing.enc h11) (And.intro (impl_within_ok v10.Id 1 9999 v12 h13) (And.intro h14 (And.intro h15 (And.intro (gi_map Thing.enc h17) (And.intro h18 (And.intro (impl_within_ok v10.Own 1 30000 v19 h20) (And.intro h21 (And.intro h22 (And.intro (impl_within_ok v10.Room 1 1000000 v23 h24) (And.intro h25 (And.intro h26 (And.intro h27 (And.intro h28 True.intro))))))))))))))) (by kernel_rfl)
                    · rcases cond_cases hM with ⟨h29, hM⟩ | ⟨h29, hM⟩
                      · obtain ⟨v30, h31, hM⟩ := bind_some hM
                        rcases cond_cases hM with ⟨h32, hM⟩ | ⟨h32, hM⟩
                        · have hE : some (Ctl.ret false) = some c1 := hM
                          have hE := Option.some.inj hE
                          subst hE
                          have hE : some false = some r := hK1
                          have hE := Option.some.inj hE
                          subst hE
                          exact pr R 9999 [.as 10 true, .ix (Thing.enc v10), .new 2, .call false [] (.o (.c (.v (.bool v12)))) [] [], .as 18 false, .as 21 true, .ix (Thing.enc v16), .as 33 false, .call false [] (.o (.c (.v (.bool v19)))) [] [], .as 38 false, .as 41 true, .call false [] (.o (.c (.v (.bool v23)))) [] [], .as 47 false, .as 51 true, .as 55 false, .as 61 false, .as 65 true, .call false [] (.o (.c (.v (.bool v30)))) [] [], .as 72 true] [] [] [] (And.intro h9 (And.intro (gi_map Thing.enc h11) (And.intro (impl_within_ok v10.Id 1 9999 v12 h13) (And.intro h14 (And.intro h15 (And.intro (gi_map Thing.enc h17) (And.intro h18 (And.intro (impl_within_ok v10.Own 1 30000 v19 h20) (And.intro h21 (And.intro h22 (And.intro (impl_within_ok v10.Room 1 1000000 v23 h24) (And.intro h25 (And.intro h26 (And.intro h27 (And.intro h28 (And.intro h29 (And.intro (impl_isBox_ok a0 v10.In v30 h31) (And.intro h32 True.intro)))))))))))))))))) (by kernel_rfl)
                        · have hE : some (Ctl.next (w64 (s1 + 1))) = some c1 := hM
                          have hE := Option.some.inj hE
                          subst hE
                          exact pc R 9999 [.as 10 true, .ix (Thing.enc v10), .new 2, .call false [] (.o (.c (.v (.bool v12)))) [] [], .as 18 false, .as 21 true, .ix (Thing.enc v16), .as 33 false, .call false [] (.o (.c (.v (.bool v19)))) [] [], .as 38 false, .as 41 true, .call false [] (.o (.c (.v (.bool v23)))) [] [], .as 47 false, .as 51 true, .as 55 false, .as 61 false, .as 65 true, .call false [] (.o (.c (.v (.bool v30)))) [] [], .as 72 false] [.keep [0, 7, 8, 9] []] (And.intro h9 (And.intro (gi_map Thing.enc h11) (And.intro (impl_within_ok v10.Id 1 9999 v12 h13) (And.intro h14 (And.intro h15 (And.intro (gi_map Thing.enc h17) (And.intro h18 (And.intro (impl_within_ok v10.Own 1 30000 v19 h20) (And.intro h21 (And.intro h22 (And.intro (impl_within_ok v10.Room 1 1000000 v23 h24) (And.intro h25 (And.intro h26 (And.intro h27 (And.intro h28 (And.intro h29 (And.intro (impl_isBox_ok a0 v10.In v30 h31) (And.intro h32 True.intro)))))))))))))))))) (by kernel_rfl) (li (Sf := impl_areDeep_L1_S a0) (M := Mk (impl_areDeep_L1 a0) (impl_areDeep_L1_k a0) r) (k := [.blk 0, .code (cAt Try.f70 [1, 1])]) (Nat.lt_succ_self m1) hK1)
                      · have hE : some (Ctl.next (w64 (s1 + 1))) = some c1 := hM
                        have hE := Option.some.inj hE
                        subst hE
                        exact pc R 9999 [.as 10 true, .ix (Thing.enc v10), .new 2, .call false [] (.o (.c (.v (.bool v12)))) [] [], .as 18 false, .as 21 true, .ix (Thing.enc v16), .as 33 false, .call false [] (.o (.c (.v (.bool v19)))) [] [], .as 38 false, .as 41 true, .call false [] (.o (.c (.v (.bool v23)))) [] [], .as 47 false, .as 51 true, .as 55 false, .as 61 false, .as 65 false] [.keep [0, 7, 8, 9] []] (And.intro h9 (And.intro (gi_map Thing.enc h11) (And.intro (impl_within_ok v10.Id 1 9999 v12 h13) (And.intro h14 (And.intro h15 (And.intro (gi_map Thing.enc h17) (And.intro h18 (And.intro (impl_within_ok v10.Own 1 30000 v19 h20) (And.intro h21 (And.intro h22 (And.intro (impl_within_ok v10.Room 1 1000000 v23 h24) (And.intro h25 (And.intro h26 (And.intro h27 (And.intro h28 (And.intro h29 True.intro)))))))))))))))) (by kernel_rfl) (li (Sf := impl_areDeep_L1_S a0) (M := Mk (impl_areDeep_L1 a0) (impl_areDeep_L1_k a0) r) (k := [.blk 0, .code (cAt Try.f70 [1, 1])]) (Nat.lt_succ_self m1) hK1)
                · rcases cond_cases hM with ⟨h33, hM⟩ | ⟨h33, hM⟩
                  · obtain ⟨v34, h35, hM⟩ := bind_some hM
                    rcases cond_cases hM with ⟨h36, hM⟩ | ⟨h36, hM⟩
                    · have hE : some (Ctl.ret false) = some c1 := hM
                      have hE := Option.some.inj hE
                      subst hE
                      have hE : some false = some r := hK1
                      have hE := Option.some.inj hE
                      subst hE
                      exact pr R 9999 [.as 10 true, .ix (Thing.enc v10), .new 2, .call false [] (.o (.c (.v (.bool v12)))) [] [], .as 18 false, .as 21 true, .ix (Thing.enc v16), .as 33 false, .call false [] (.o (.c (.v (.bool v19)))) [] [], .as 38 false, .as 41 true, .call false [] (.o (.c (.v (.bool v23)))) [] [], .as 47 false, .as 51 false, .as 65 true, .call false [] (.o (.c (.v (.bool v34)))) [] [], .as 72 true] [] [] [] (And.intro h9 (And.intro (gi_map Thing.enc h11) (And.intro (impl_within_ok v10.Id 1 9999 v12 h13) (And.intro h14 (And.intro h15 (And.intro (gi_map Thing.enc h17) (And.intro h18 (And.intro (impl_within_ok v10.Own 1 30000 v19 h20) (And.intro h21 (And.intro h22 (And.intro (impl_within_ok v10.Room 1 1000000 v23 h24) (And.intro h25 (And.intro h26 (And.intro h33 (And.intro (impl_isBox_ok a0 v10.In v34 h35) (And.intro h36 True.intro)))))))))))))))) (by kernel_rfl)
                    · have hE : some (Ctl.next (w64 (s1 + 1))) = some c1 := hM
                      have hE := Option.some.inj hE
                      subst hE
                      exact pc R 9999 [.as 10 true, .ix (Thing.enc v10), .new 2, .call false [] (.o (.c (.v (.bool v12)))) [] [], .as 18 false, .as 21 true, .ix (Thing.enc v16), .as 33 false, .call false [] (.o (.c (.v (.bool v19)))) [] [], .as 38 false, .as 41 true, .call false [] (.o (.c (.v (.bool v23)))) [] [], .as 47 false, .as 51 false, .as 65 true, .call false [] (.o (.c (.v (.bool v34)))) [] [], .as 72 false] [.keep [0, 7, 8, 9] []] (And.intro h9 (And.intro (gi_map Thing.enc h11) (And.intro (impl_within_ok v10.Id 1 9999 v12 h13) (And.intro h14 (And.intro h15 (And.intro (gi_map Thing.enc h17) (And.intro h18 (And.intro (impl_within_ok v10.Own 1 30000 v19 h20) (And.intro h21 (And.intro h22 (And.intro (impl_within_ok v10.Room 1 1000000 v23 h24) (And.intro h25 (And.intro h26 (And.intro h33 (And.intro (impl_isBox_ok a0 v10.In v34 h35) (And.intro h36 True.intro)))))))))))))))) (by kernel_rfl) (li (Sf := impl_areDeep_L1_S a0) (M := Mk (impl_areDeep_L1 a0) (impl_areDeep_L1_k a0) r) (k := [.blk 0, .code (cAt Try.f70 [1, 1])]) (Nat.lt_succ_self m1) hK1)
                  · have hE : some (Ctl.next (w64 (s1 + 1))) = some c1 := hM
                    have hE := Option.some.inj hE
                    subst hE
                    exact pc R 9999 [.as 10 true, .ix (Thing.enc v10), .new 2, .call false [] (.o (.c (.v (.bool v12)))) [] [], .as 18 false, .as 21 true, .ix (Thing.enc v16), .as 33 false, .call false [] (.o (.c (.v (.bool v19)))) [] [], .as 38 false, .as 41 true, .call false [] (.o (.c (.v (.bool v23)))) [] [], .as 47 false, .as 51 false, .as 65 false] [.keep [0, 7, 8, 9] []] (And.intro h9 (And.intro (gi_map Thing.enc h11) (And.intro (impl_within_ok v10.Id 1 9999 v12 h13) (And.intro h14 (And.intro h15 (And.intro (gi_map Thing.enc h17) (And.intro h18 (And.intro (impl_within_ok v10.Own 1 30000 v19 h20) (And.intro h21 (And.intro h22 (And.intro (impl_within_ok v10.Room 1 1000000 v23 h24) (And.intro h25 (And.intro h26 (And.intro h33 True.intro)))))))))))))) (by kernel_rfl) (li (Sf := impl_areDeep_L1_S a0) (M := Mk (impl_areDeep_L1 a0) (impl_areDeep_L1_k a0) r) (k := [.blk 0, .code (cAt Try.f70 [1, 1])]) (Nat.lt_succ_self m1) hK1)
            · rcases cond_cases hM with ⟨h37, hM⟩ | ⟨h37, hM⟩
              · rcases cond_cases hM with ⟨h38, hM⟩ | ⟨h38, hM⟩
                · have hE : some (Ctl.ret false) = some c1 := hM
                  have hE := Option.some.inj hE
                  subst hE
                  have hE : some false = some r := hK1
                  have hE := Option.some.inj hE
                  subst hE
                  exact pr R 9999 [.as 10 true, .ix (Thing.enc v10), .new 2, .call false [] (.o (.c (.v (.bool v12)))) [] [], .as 18 false, .as 21 true, .ix (Thing.enc v16), .as 33 false, .call false [] (.o (.c (.v (.bool v19)))) [] [], .as 38 false, .as 41 false, .as 51 true, .as 55 true] [] [] [] (And.intro h9 (And.intro (gi_map Thing.enc h11) (And.intro (impl_within_ok v10.Id 1 9999 v12 h13) (And.intro h14 (And.intro h15 (And.intro (gi_map Thing.enc h17) (And.intro h18 (And.intro (impl_within_ok v10.Own 1 30000 v19 h20) (And.intro h21 (And.intro h22 (And.intro h37 (And.intro h38 True.intro)))))))))))) (by kernel_rfl)
                · rcases cond_cases hM with ⟨h39, hM⟩ | ⟨h39, hM⟩
                  · have hE : some (Ctl.ret false) = some c1 := hM
                    have hE := Option.some.inj hE
                    subst hE
                    have hE : some false = some r := hK1
                    have hE := Option.some.inj hE
                    subst hE
                    exact pr R 9999 [.as 10 true, .ix (Thing.enc v10), .new 2, .call false [] (.o (.c (.v (.bool v12)))) [] [], .as 18 false, .as 21 true, .ix (Thing.enc v16), .as 33 false, .call false [] (.o (.c (.v (.bool v19)))) [] [], .as 38 false, .as 41 false, .as 51 true, .as 55 false, .as 61 true] [] [] [] (And.intro h9 (And.intro (gi_map Thing.enc h11) (And.intro (impl_within_ok v10.Id 1 9999 v12 h13) (And.intro h14 (And.intro h15 (And.intro (gi_map Thing.enc h17) (And.intro h18 (And.intro (impl_within_ok v10.Own 1 30000 v19 h20) (And.intro h21 (And.intro h22 (And.intro h37 (And.intro h38 (And.intro h39 True.intro))))))))))))) (by kernel_rfl)
                  · rcases cond_cases hM with ⟨h40, hM⟩ | ⟨h40, hM⟩
                    · obtain ⟨v41, h42, hM⟩ := bind_some hM
                      rcases cond_cases hM with ⟨h43, hM⟩ | ⟨h43, hM⟩
                      · have hE : some (Ctl.ret false) = some c1 := hM
                        have hE := Option.some.inj hE
                        subst hE
                        have hE : some false = some r := hK1
                        have hE := Option.some.inj hE
                        subst hE
                        exact pr R 9999 [.as 10 true, .ix (Thing.enc v10), .new 2, .call false [] (.o (.c (.v (.bool v12)))) [] [], .as 18 false, .as 21 true, .ix (Thing.enc v16), .as 33 false, .call false [] (.o (.c (.v (.bool v19)))) [] [], .as 38 false, .as 41 false, .as 51 true, .as 55 false, .as 61 false, .as 65 true, .call false [] (.o (.c (.v (.bool v41)))) [] [], .as 72 true] [] [] [] (And.intro h9 (And.intro (gi_map Thing.enc h11) (And.intro (impl_within_ok v10.Id 1 9999 v12 h13) (And.intro h14 (And.intro h15 (And.intro (gi_map Thing.enc h17) (And.intro h18 (And.intro (impl_within_ok v10.Own 1 30000 v19 h20) (And.intro h21 (And.intro h22 (And.intro h37 (And.intro h38 (And.intro h39 (And.intro h40 (And.intro (impl_isBox_ok a0 v10.In v41 h42) (And.intro h43 True.intro)))))))))))))))) (by kernel_rfl)
                      · have hE : some (Ctl.next (w64 (s1 + 1))) = some c1 := hM
                        have hE := Option.some.inj hE
                        subst hE
                        exact pc R 9999 [.as 10 true, .ix (Thing.enc v10), .new 2, .call false [] (.o (.c (.v (.bool v12)))) [] [], .as 18 false, .as 21 true, .ix (Thing.enc v16), .as 33 false, .call false [] (.o (.c (.v (.bool v19)))) [] [], .as 38 false, .as 41 false, .as 51 true, .as 55 false, .as 61 false, .as 65 true, .call false [] (.o (.c (.v (.bool v41)))) [] [], .as 72 false] [.keep [0, 7, 8, 9] []] (And.intro h9 (And.intro (gi_map Thing.enc h11) (And.intro (impl_within_ok v10.Id 1 9999 v12 h13) (And.intro h14 (And.intro h15 (And.intro (gi_map Thing.enc h17) (And.intro h18 (And.intro (impl_within_ok v10.Own 1 30000 v19 h20) (And.intro h21 (And.intro h22 (And.intro h37 (And.intro h38 (And.intro h39 (And.intro h40 (And.intro (impl_isBox_ok a0 v10.In v41 h42) (And.intro h43 True.intro)))))))))))))))) (by kernel_rfl) (li (Sf := impl_areDeep_L1_S a0) (M := Mk (impl_areDeep_L1 a0) (impl_areDeep_L1_k a0) r) (k := [.blk 0, .code (cAt Try.f70 [1, 1])]) (Nat.lt_succ_self m1) hK1)
                    · have hE : some (Ctl.next (w64 (s1 + 1))) = some c1 := hM
                      have hE := Option.some.inj hE
                      subst hE
                      exact pc R 9999 [.as 10 true, .ix (Thing.enc v10), .new 2, .call false [] (.o (.c (.v (.bool v12)))) [] [], .as 18 false, .as 21 true, .ix (Thing.enc v16), .as 33 false, .call false [] (.o (.c (.v (.bool v19)))) [] [], .as 38 false, .as 41 false, .as 51 true, .as 55 false, .as 61 false, .as 65 false] [.keep [0, 7, 8, 9] []] (And.intro h9 (And.intro (gi_map Thing.enc h11) (And.intro (impl_within_ok v10.Id 1 9999 v12 h13) (And.intro h14 (And.intro h15 (And.intro (gi_map Thing.enc h17) (And.intro h18 (And.intro (impl_within_ok v10.Own 1 30000 v19 h20) (And.intro h21 (And.intro h22 (And.intro h37 (And.intro h38 (And.intro h39 (And.intro h40 True.intro)))))))))))))) (by kernel_rfl) (li (Sf := impl_areDeep_L1_S a0) (M := Mk (impl_areDeep_L1 a0) (impl_areDeep_L1_k a0) r) (k := [.blk 0, .code (cAt Try.f70 [1, 1])]) (Nat.lt_succ_self m1) hK1)
              · rcases cond_cases hM with ⟨h44, hM⟩ | ⟨h44, hM⟩
                · obtain ⟨v45, h46, hM⟩ := bind_some hM
                  rcases cond_cases hM with ⟨h47, hM⟩ | ⟨h47, hM⟩
                  · have hE : some (Ctl.ret false) = some c1 := hM
                    have hE := Option.some.inj hE
                    subst hE
                    have hE : some false = some r := hK1
                    have hE := Option.some.inj hE
                    subst hE
                    exact pr R 9999 [.as 10 true, .ix (Thing.enc v10), .new 2, .call false [] (.o (.c (.v (.bool v12)))) [] [], .as 18 false, .as 21 true, .ix (Thing.enc v16), .as 33 false, .call false [] (.o (.c (.v (.bool v19)))) [] [], .as 38 false, .as 41 false, .as 51 false, .as 65 true, .call false [] (.o (.c (.v (.bool v45)))) [] [], .as 72 true] [] [] [] (And.intro h9 (And.intro (gi_map Thing.enc h11) (And.intro (impl_within_ok v10.Id 1 9999 v12 h13) (And.intro h14 (And.intro h15 (And.intro (gi_map Thing.enc h17) (And.intro h18 (And.intro (impl_within_ok v10.Own 1 30000 v19 h20) (And.intro h21 (And.intro h22 (And.intro h37 (And.intro h44 (And.intro (impl_isBox_ok a0 v10.In v45 h46) (And.intro h47 True.intro)))))))))))))) (by kernel_rfl)
                  · have hE : some (Ctl.next (w64 (s1 + 1))) = some c1 := hM
                    have hE := Option.some.inj hE
                    subst hE
                    exact pc R 9999 [.as 10 true, .ix (Thing.enc v10), .new 2, .call false [] (.o (.c (.v (.bool v12)))) [] [], .as 18 false, .as 21 true, .ix (Thing.enc v16), .as 33 false, .call false [] (.o (.c (.v (.bool v19)))) [] [], .as 38 false, .as 41 false, .as 51 false, .as 65 true, .call false [] (.o (.c (.v (.bool v45)))) [] [], .as 72 false] [.keep [0, 7, 8, 9] []] (And.intro h9 (And.intro (gi_map Thing.enc h11) (And.intro (impl_within_ok v10.Id 1 9999 v12 h13) (And.intro h14 (And.intro h15 (And.intro (gi_map Thing.enc h17) (And.intro h18 (And.intro (impl_within_ok v10.Own 1 30000 v19 h20) (And.intro h21 (And.intro h22 (And.intro h37 (And.intro h44 (And.intro (impl_isBox_ok a0 v10.In v45 h46) (And.intro h47 True.intro)))))))))))))) (by kernel_rfl) (li (Sf := impl_areDeep_L1_S a0) (M := Mk (impl_areDeep_L1 a0) (impl_areDeep_L1_k a0) r) (k := [.blk 0, .code (cAt Try.f70 [1, 1])]) (Nat.lt_succ_self m1) hK1)
                · have hE : some (Ctl.next (w64 (s1 + 1))) = some c1 := hM
                  have hE := Option.some.inj hE
                  subst hE
                  exact pc R 9999 [.as 10 true, .ix (Thing.enc v10), .new 2, .call false [] (.o (.c (.v (.bool v12)))) [] [], .as 18 false, .as 21 true, .ix (Thing.enc v16), .as 33 false, .call false [] (.o (.c (.v (.bool v19)))) [] [], .as 38 false, .as 41 false, .as 51 false, .as 65 false] [.keep [0, 7, 8, 9] []] (And.intro h9 (And.intro (gi_map Thing.enc h11) (And.intro (impl_within_ok v10.Id 1 9999 v12 h13) (And.intro h14 (And.intro h15 (And.intro (gi_map Thing.enc h17) (And.intro h18 (And.intro (impl_within_ok v10.Own 1 30000 v19 h20) (And.intro h21 (And.intro h22 (And.intro h37 (And.intro h44 True.intro)))))))))))) (by kernel_rfl) (li (Sf := impl_areDeep_L1_S a0) (M := Mk (impl_areDeep_L1 a0) (impl_areDeep_L1_k a0) r) (k := [.blk 0, .code (cAt Try.f70 [1, 1])]) (Nat.lt_succ_self m1) hK1)
      · obtain ⟨v48, h49, hM⟩ := bind_some hM
        rcases cond_cases hM with ⟨h50, hM⟩ | ⟨h50, hM⟩
        · have hE : some (Ctl.ret false) = some c1 := hM
          have hE := Option.some.inj hE
          subst hE
          have hE : some false = some r := hK1
          have hE := Option.some.inj hE
          subst hE
          exact pr R 9999 [.as 10 true, .ix (Thing.enc v10), .new 2, .call false [] (.o (.c (.v (.bool v12)))) [] [], .as 18 false, .as 21 false, .call false [] (.o (.c (.v (.bool v48)))) [] [], .as 38 true] [] [] [] (And.intro h9 (And.intro (gi_map Thing.enc h11) (And.intro (impl_within_ok v10.Id 1 9999 v12 h13) (And.intro h14 (And.intro h15 (And.intro (impl_within_ok v10.Own 1 30000 v48 h49) (And.intro h50 True.intro))))))) (by kernel_rfl)
        · rcases cond_cases hM with ⟨h51, hM⟩ | ⟨h51, hM⟩
          · obtain ⟨v52, h53, hM⟩ := bind_some hM
            rcases cond_cases hM with ⟨h54, hM⟩ | ⟨h54, hM⟩
            · have hE : some (Ctl.ret false) = some c1 := hM
              have hE := Option.some.inj hE
              subst hE
              have hE : some false = some r := hK1
              have hE := Option.some.inj hE
              subst hE
              exact pr R 9999 [.as 10 true, .ix (Thing.enc v10), .new 2, .call false [] (.o (.c (.v (.bool v12)))) [] [], .as 18 false, .as 21 false, .call false [] (.o (.c (.v (.bool v48)))) [] [], .as 38 false, .as 41 true, .call false [] (.o (.c (.v (.bool v52)))) [] [], .as 47 true] [] [] [] (And.intro h9 (And.intro (gi_map Thing.enc h11) (And.intro (impl_within_ok v10.Id 1 9999 v12 h13) (And.intro h14 (And.intro h15 (And.intro (impl_within_ok v10.Own 1 30000 v48 h49) (And.intro h50 (And.intro h51 (And.intro (impl_within_ok v10.Room 1 1000000 v52 h53) (And.intro h54 True.intro)))))))))) (by kernel_rfl)
            · rcases cond_cases hM with ⟨h55, hM⟩ | ⟨h55, hM⟩
              · rcases cond_cases hM with ⟨h56, hM⟩ | ⟨h56, hM⟩
                · have hE : some (Ctl.ret false) = some c1 := hM
                  have hE := Option.some.inj hE
                  subst hE
                  have hE : some false = some r := hK1
                  have hE := Option.some.inj hE
                  subst hE
                  exact pr R 9999 [.as 10 true, .ix (Thing.enc v10), .new 2, .call false [] (.o (.c (.v (.bool v12)))) [] [], .as 18 false, .as 21 false, .call false [] (.o (.c (.v (.bool v48)))) [] [], .as 38 false, .as 41 true, .call false [] (.o (.c (.v (.bool v52)))) [] [], .as 47 false, .as 51 true, .as 55 true] [] [] [] (And.intro h9 (And.intro (gi_map Thing.enc h11) (And.intro (impl_within_ok v10.Id 1 9999 v12 h13) (And.intro h14 (And.intro h15 (And.intro (impl_within_ok v10.Own 1 30000 v48 h49) (And.intro h50 (And.intro h51 (And.intro (impl_within_ok v10.Room 1 1000000 v52 h53) (And.intro h54 (And.intro h55 (And.intro h56 True.intro)))))))))))) (by kernel_rfl)
                · rcases cond_cases hM with ⟨h57, hM⟩ | ⟨h57, hM⟩
                  · have hE : some (Ctl.ret false) = some c1 := hM
                    have hE := Option.some.inj hE
                    subst hE
                    have hE : some false = some r := hK1
                    have hE := Option.some.inj hE
                    subst hE
                    exact pr R 9999 [.as 10 true, .ix (Thing.enc v10), .new 2, .call false [] (.o (.c (.v (.bool v12)))) [] [], .as 18 false, .as 21 false, .call false [] (.o (.c (.v (.bool v48)))) [] [], .as 38 false, .as 41 true, .call false [] (.o (.c (.v (.bool v52)))) [] [], .as 47 false, .as 51 true, .as 55 false, .as 61 true] [] [] [] (And.intro h9 (And.intro (gi_map Thing.enc h11) (And.intro (impl_within_ok v10.Id 1 9999 v12 h13) (And.intro h14 (And.intro h15 (And.intro (impl_within_ok v10.Own 1 30000 v48 h49) (And.intro h50 (And.intro h51 (And.intro (impl_within_ok v10.Room 1 1000000 v52 h53) (And.intro h54 (And.intro h55 (And.intro h56 (And.intro h57 True.intro))))))))))))) (by kernel_rfl)
                  · rcases cond_cases hM with ⟨h58, hM⟩ | ⟨h58, hM⟩
                    · obtain ⟨v59, h60, hM⟩ := bind_some hM
                      rcases cond_cases hM with ⟨h61, hM⟩ | ⟨h61, hM⟩
                      · have hE : some (Ctl.ret false) = some c1 := hM
                        have hE := Option.some.inj hE
                        subst hE
                        have hE : some false = some r := hK1
                        have hE := Option.some.inj hE
                        subst hE
                        exact pr R 9999 [.as 10 true, .ix (Thing.enc v10), .new 2, .call false [] (.o (.c (.v (.bool v12)))) [] [], .as 18 false, .as 21 false, .call false [] (.o (.c (.v (.bool v48)))) [] [], .as 38 false, .as 41 true, .call false [] (.o (.c (.v (.bool v52)))) [] [], .as 47 false, .as 51 true, .as 55 false, .as 61 false, .as 65 true, .call false [] (.o (.c (.v (.bool v59)))) [] [], .as 72 true] [] [] [] (And.intro h9 (And.intro (gi_map Thing.enc h11) (And.intro (impl_within_ok v10.Id 1 9999 v12 h13) (And.intro h14 (And.intro h15 (And.intro (impl_within_ok v10.Own 1 30000 v48 h49) (And.intro h50 (And.intro h51 (And.intro (impl_within_ok v10.Room 1 1000000 v52 h53) (And.intro h54 (And.intro h55 (And.intro h56 (And.intro h57 (And.intro h58 (And.intro (impl_isBox_ok a0 v10.In v59 h60) (And.intro h61 True.intro)))))))))))))))) (by kernel_rfl)
                      · have hE : some (Ctl.next (w64 (s1 + 1))) = some c1 := hM
                        have hE := Option.some.inj hE
                        subst hE
                        exact pc R 9999 [.as 10 true, .ix (Thing.enc v10), .new 2, .call false [] (.o (.c (.v (.bool v12)))) [] [], .as 18 false, .as 21 false, .call false [] (.o (.c (.v (.bool v48)))) [] [], .as 38 false, .as 41 true, .call false [] (.o (.c (.v (.bool v52)))) [] [], .as 47 false, .as 51 true, .as 55 false, .as 61 false, .as 65 true, .call false [] (.o (.c (.v (.bool v59)))) [] [], .as 72 false] [.keep [0, 7, 8, 9] []] (And.intro h9 (And.intro (gi_map Thing.enc h11) (And.intro (impl_within_ok v10.Id 1 9999 v12 h13) (And.intro h14 (And.intro h15 (And.intro (impl_within_ok v10.Own 1 30000 v48 h49) (And.intro h50 (And.intro h51 (And.intro (impl_within_ok v10.Room 1 1000000 v52 h53) (And.intro h54 (And.intro h55 (And.intro h56 (And.intro h57 (And.intro h58 (And.intro (impl_isBox_ok a0 v10.In v59 h60) (And.intro h61 True.intro)))))))))))))))) (by kernel_rfl) (li (Sf := impl_areDeep_L1_S a0) (M := Mk (impl_areDeep_L1 a0) (impl_areDeep_L1_k a0) r) (k := [.blk 0, .code (cAt Try.f70 [1, 1])]) (Nat.lt_succ_self m1) hK1)
                    · have hE : some (Ctl.next (w64 (s1 + 1))) = some c1 := hM
                      have hE := Option.some.inj hE
                      subst hE
                      exact pc R 9999 [.as 10 true, .ix (Thing.enc v10), .new 2, .call false [] (.o (.c (.v (.bool v12)))) [] [], .as 18 false, .as 21 false, .call false [] (.o (.c (.v (.bool v48)))) [] [], .as 38 false, .as 41 true, .call false [] (.o (.c (.v (.bool v52)))) [] [], .as 47 false, .as 51 true, .as 55 false, .as 61 false, .as 65 false] [.keep [0, 7, 8, 9] []] (And.intro h9 (And.intro (gi_map Thing.enc h11) (And.intro (impl_within_ok v10.Id 1 9999 v12 h13) (And.intro h14 (And.intro h15 (And.intro (impl_within_ok v10.Own 1 30000 v48 h49) (And.intro h50 (And.intro h51 (And.intro (impl_within_ok v10.Room 1 1000000 v52 h53) (And.intro h54 (And.intro h55 (And.intro h56 (And.intro h57 (And.intro h58 True.intro)))))))))))))) (by kernel_rfl) (li (Sf := impl_areDeep_L1_S a0) (M := Mk (impl_areDeep_L1 a0) (impl_areDeep_L1_k a0) r) (k := [.blk 0, .code (cAt Try.f70 [1, 1])]) (Nat.lt_succ_self m1) hK1)
              · rcases cond_cases hM with ⟨h62, hM⟩ | ⟨h62, hM⟩
                · obtain ⟨v63, h64, hM⟩ := bind_some hM
                  rcases cond_cases hM with ⟨h65, hM⟩ | ⟨h65, hM⟩
                  · have hE : some (Ctl.ret false) = some c1 := hM
                    have hE := Option.some.inj hE
                    subst hE
                    have hE : some false = some r := hK1
                    have hE := Option.some.inj hE
                    subst hE
                    exact pr R 9999 [.as 10 true, .ix (Thing.enc v10), .new 2, .call false [] (.o (.c (.v (.bool v12)))) [] [], .as 18 false, .as 21 false, .call false [] (.o (.c (.v (.bool v48)))) [] [], .as 38 false, .as 41 true, .call false [] (.o (.c (.v (.bool v52)))) [] [], .as 47 false, .as 51 false, .as 65 true, .call false [] (.o (.c (.v (.bool v63)))) [] [], .as 72 true] [] [] [] (And.intro h9 (And.intro (gi_map Thing.enc h11) (And.intro (impl_within_ok v10.Id 1 9999 v12 h13) (And.intro h14 (And.intro h15 (And.intro (impl_within_ok v10.Own 1 30000 v48 h49) (And.intro h50 (And.intro h51 (And.intro (impl_within_ok v10.Room 1 1000000 v52 h53) (And.intro h54 (And.intro h55 (And.intro h62 (And.intro (impl_isBox_ok a0 v10.In v63 h64) (And.intro h65 True.intro)))))))))))))) (by kernel_rfl)
                  · have hE : some (Ctl.next (w64 (s1 + 1))) = some c1 := hM
                    have hE := Option.some.inj hE
                    subst hE
                    exact pc R 9999 [.as 10 true, .ix (Thing.enc v10), .new 2, .call false [] (.o (.c (.v (.bool v12)))) [] [], .as 18 false, .as 21 false, .call false [] (.o (.c (.v (.bool v48)))) [] [], .as 38 false, .as 41 true, .call false [] (.o (.c (.v (.bool v52)))) [] [], .as 47 false, .as 51 false, .as 65 true, .call false [] (.o (.c (.v (.bool v63)))) [] [], .as 72 false] [.keep [0, 7, 8, 9] []] (And.intro h9 (And.intro (gi_map Thing.enc h11) (And.intro (impl_within_ok v10.Id 1 9999 v12 h13) (And.intro h14 (And.intro h15 (And.intro (impl_within_ok v10.Own 1 30000 v48 h49) (And.intro h50 (And.intro h51 (And.intro (impl_within_ok v10.Room 1 1000000 v52 h53) (And.intro h54 (And.intro h55 (And.intro h62 (And.intro (impl_isBox_ok a0 v10.In v63 h64) (And.intro h65 True.intro)))))))))))))) (by kernel_rfl) (li (Sf := impl_areDeep_L1_S a0) (M := Mk (impl_areDeep_L1 a0) (impl_areDeep_L1_k a0) r) (k := [.blk 0, .code (cAt Try.f70 [1, 1])]) (Nat.lt_succ_self m1) hK1)
                · have hE : some (Ctl.next (w64 (s1 + 1))) = some c1 := hM
                  have hE := Option.some.inj hE
                  subst hE
                  exact pc R 9999 [.as 10 true, .ix (Thing.enc v10), .new 2, .call false [] (.o (.c (.v (.bool v12)))) [] [], .as 18 false, .as 21 false, .call false [] (.o (.c (.v (.bool v48)))) [] [], .as 38 false, .as 41 true, .call false [] (.o (.c (.v (.bool v52)))) [] [], .as 47 false, .as 51 false, .as 65 false] [.keep [0, 7, 8, 9] []] (And.intro h9 (And.intro (gi_map Thing.enc h11) (And.intro (impl_within_ok v10.Id 1 9999 v12 h13) (And.intro h14 (And.intro h15 (And.intro (impl_within_ok v10.Own 1 30000 v48 h49) (And.intro h50 (And.intro h51 (And.intro (impl_within_ok v10.Room 1 1000000 v52 h53) (And.intro h54 (And.intro h55 (And.intro h62 True.intro)))))))))))) (by kernel_rfl) (li (Sf := impl_areDeep_L1_S a0) (M := Mk (impl_areDeep_L1 a0) (impl_areDeep_L1_k a0) r) (k := [.blk 0, .code (cAt Try.f70 [1, 1])]) (Nat.lt_succ_self m1) hK1)
          · rcases cond_cases hM with ⟨h66, hM⟩ | ⟨h66, hM⟩
            · rcases cond_cases hM with ⟨h67, hM⟩ | ⟨h67, hM⟩
              · have hE : some (Ctl.ret false) = some c1 := hM
                have hE := Option.some.inj hE
                subst hE
                have hE : some false = some r := hK1
                have hE := Option.some.inj hE
                subst hE
                exact pr R 9999 [.as 10 true, .ix (Thing.enc v10), .new 2, .call false [] (.o (.c (.v (.bool v12)))) [] [], .as 18 false, .as 21 false, .call false [] (.o (.c (.v (.bool v48)))) [] [], .as 38 false, .as 41 false, .as 51 true, .as 55 true] [] [] [] (And.intro h9 (And.intro (gi_map Thing.enc h11) (And.intro (impl_within_ok v10.Id 1 9999 v12 h13) (And.intro h14 (And.intro h15 (And.intro (impl_within_ok v10.Own 1 30000 v48 h49) (And.intro h50 (And.intro h51 (And.intro h66 (And.intro h67 True.intro)))))))))) (by kernel_rfl)
              · rcases cond_cases hM with ⟨h68, hM⟩ | ⟨h68, hM⟩
                · have hE : some (Ctl.ret false) = some c1 := hM
                  have hE := Option.some.inj hE
                  subst hE
                  have hE : some false = some r := hK1
                  have hE := Option.some.inj hE
                  subst hE
                  exact pr R 9999 [.as 10 true, .ix (Thing.enc v10), .new 2, .call false [] (.o (.c (.v (.bool v12)))) [] [], .as 18 false, .as 21 false, .call false [] (.o (.c (.v (.bool v48)))) [] [], .as 38 false, .as 41 false, .as 51 true, .as 55 false, .as 61 true] [] [] [] (And.intro h9 (And.intro (gi_map Thing.enc h11) (And.intro (impl_within_ok v10.Id 1 9999 v12 h13) (And.intro h14 (And.intro h15 (And.intro (impl_within_ok v10.Own 1 30000 v48 h49) (And.intro h50 (And.intro h51 (And.intro h66 (And.intro h67 (And.intro h68 True.intro))))))))))) (by kernel_rfl)
                · rcases cond_cases hM with ⟨h69, hM⟩ | ⟨h69, hM⟩
                  · obtain ⟨v70, h71, hM⟩ := bind_some hM
                    rcases cond_cases hM with ⟨h72, hM⟩ | ⟨h72, hM⟩
                    · have hE : some (Ctl.ret false) = some c1 := hM
                      have hE := Option.some.inj hE
                      subst hE
                      have hE : some false = some r := hK1
                      have hE := Option.some.inj hE
                      subst hE
                      exact pr R 9999 [.as 10 true, .ix (Thing.enc v10), .new 2, .call false [] (.o (.c (.v (.bool v12)))) [] [], .as 18 false, .as 21 false, .call false [] (.o (.c (.v (.bool v48)))) [] [], .as 38 false, .as 41 false, .as 51 true, .as 55 false, .as 61 false, .as 65 true, .call false [] (.o (.c (.v (.bool v70)))) [] [], .as 72 true] [] [] [] (And.intro h9 (And.intro (gi_map Thing.enc h11) (And.intro (impl_within_ok v10.Id 1 9999 v12 h13) (And.intro h14 (And.intro h15 (And.intro (impl_within_ok v10.Own 1 30000 v48 h49) (And.intro h50 (And.intro h51 (And.intro h66 (And.intro h67 (And.intro h68 (And.intro h69 (And.intro (impl_isBox_ok a0 v10.In v70 h71) (And.intro h72 True.intro)))))))))))))) (by kernel_rfl)
                    · have hE : some (Ctl.next (w64 (s1 + 1))) = some c1 := hM
                      have hE := Option.some.inj hE
                      subst hE
                      exact pc R 9999 [.as 10 true, .ix (Thing.enc v10), .new 2, .call false [] (.o (.c (.v (.bool v12)))) [] [], .as 18 false, .as 21 false, .call false [] (.o (.c (.v (.bool v48)))) [] [], .as 38 false, .as 41 false, .as 51 true, .as 55 false, .as 61 false, .as 65 true, .call false [] (.o (.c (.v (.bool v70)))) [] [], .as 72 false] [.keep [0, 7, 8, 9] []] (And.intro h9 (And.intro (gi_map Thing.enc h11) (And.intro (impl_within_ok v10.Id 1 9999 v12 h13) (And.intro h14 (And.intro h15 (And.intro (impl_within_ok v10.Own 1 30000 v48 h49) (And.intro h50 (And.intro h51 (And.intro h66 (And.intro h67 (And.intro h68 (And.intro h69 (And.intro (impl_isBox_ok a0 v10.In v70 h71) (And.intro h72 True.intro)))))))))))))) (by kernel_rfl) (li (Sf := impl_areDeep_L1_S a0) (M := Mk (impl_areDeep_L1 a0) (impl_areDeep_L1_k a0) r) (k := [.blk 0, .code (cAt Try.f70 [1, 1])]) (Nat.lt_succ_self m1) hK1)
                  · have hE : some (Ctl.next (w64 (s1 + 1))) = some c1 := hM
                    have hE := Option.some.inj hE
                    subst hE
                    exact pc R 9999 [.as 10 true, .ix (Thing.enc v10), .new 2, .call false [] (.o (.c (.v (.bool v12)))) [] [], .as 18 false, .as 21 false, .call false [] (.o (.c (.v (.bool v48)))) [] [], .as 38 false, .as 41 false, .as 51 true, .as 55 false, .as 61 false, .as 65 false] [.keep [0, 7, 8, 9] []] (And.intro h9 (And.intro (gi_map Thing.enc h11) (And.intro (impl_within_ok v10.Id 1 9999 v12 h13) (And.intro h14 (And.intro h15 (And.intro (impl_within_ok v10.Own 1 30000 v48 h49) (And.intro h50 (And.intro h51 (And.intro h66 (And.intro h67 (And.intro h68 (And.intro h69 True.intro)))))))))))) (by kernel_rfl) (li (Sf := impl_areDeep_L1_S a0) (M := Mk (impl_areDeep_L1 a0) (impl_areDeep_L1_k a0) r) (k := [.blk 0, .code (cAt Try.f70 [1, 1])]) (Nat.lt_succ_self m1) hK1)
            · rcases cond_cases hM with ⟨h73, hM⟩ | ⟨h73, hM⟩
              · obtain ⟨v74, h75, hM⟩ := bind_some hM
                rcases cond_cases hM with ⟨h76, hM⟩ | ⟨h76, hM⟩
                · have hE : some (Ctl.ret false) = some c1 := hM
                  have hE := Option.some.inj hE
                  subst hE
                  have hE : some false = some r := hK1
                  have hE := Option.some.inj hE
                  subst hE
                  exact pr R 9999 [.as 10 true, .ix (Thing.enc v10), .new 2, .call false [] (.o (.c (.v (.bool v12)))) [] [], .as 18 false, .as 21 false, .call false [] (.o (.c (.v (.bool v48)))) [] [], .as 38 false, .as 41 false, .as 51 false, .as 65 true, .call false [] (.o (.c (.v (.bool v74)))) [] [], .as 72 true] [] [] [] (And.intro h9 (And.intro (gi_map Thing.enc h11) (And.intro (impl_within_ok v10.Id 1 9999 v12 h13) (And.intro h14 (And.intro h15 (And.intro (impl_within_ok v10.Own 1 30000 v48 h49) (And.intro h50 (And.intro h51 (And.intro h66 (And.intro h73 (And.intro (impl_isBox_ok a0 v10.In v74 h75) (And.intro h76 True.intro)))))))))))) (by kernel_rfl)
                · have hE : some (Ctl.next (w64 (s1 + 1))) = some c1 := hM
                  have hE := Option.some.inj hE
                  subst hE
                  exact pc R 9999 [.as 10 true, .ix (Thing.enc v10), .new 2, .call false [] (.o (.c (.v (.bool v12)))) [] [], .as 18 false, .as 21 false, .call false [] (.o (.c (.v (.bool v48)))) [] [], .as 38 false, .as 41 false, .as 51 false, .as 65 true, .call false [] (.o (.c (.v (.bool v74)))) [] [], .as 72 false] [.keep [0, 7, 8, 9] []] (And.intro h9 (And.intro (gi_map Thing.enc h11) (And.intro (impl_within_ok v10.Id 1 9999 v12 h13) (And.intro h14 (And.intro h15 (And.intro (impl_within_ok v10.Own 1 30000 v48 h49) (And.intro h50 (And.intro h51 (And.intro h66 (And.intro h73 (And.intro (impl_isBox_ok a0 v10.In v74 h75) (And.intro h76 True.intro)))))))))))) (by kernel_rfl) (li (Sf := impl_areDeep_L1_S a0) (M := Mk (impl_areDeep_L1 a0) (impl_areDeep_L1_k a0) r) (k := [.blk 0, .code (cAt Try.f70 [1, 1])]) (Nat.lt_succ_self m1) hK1)
              · have hE : some (Ctl.next (w64 (s1 + 1))) = some c1 := hM
                have hE := Option.some.inj hE
                subst hE
                exact pc R 9999 [.as 10 true, .ix (Thing.enc v10), .new 2, .call false [] (.o (.c (.v (.bool v12)))) [] [], .as 18 false, .as 21 false, .call false [] (.o (.c (.v (.bool v48)))) [] [], .as 38 false, .as 41 false, .as 51 false, .as 65 false] [.keep [0, 7, 8, 9] []] (And.intro h9 (And.intro (gi_map Thing.enc h11) (And.intro (impl_within_ok v10.Id 1 9999 v12 h13) (And.intro h14 (And.intro h15 (And.intro (impl_within_ok v10.Own 1 30000 v48 h49) (And.intro h50 (And.intro h51 (And.intro h66 (And.intro h73 True.intro)))))))))) (by kernel_rfl) (li (Sf := impl_areDeep_L1_S a0) (M := Mk (impl_areDeep_L1 a0) (impl_areDeep_L1_k a0) r) (k := [.blk 0, .code (cAt Try.f70 [1, 1])]) (Nat.lt_succ_self m1) hK1)
  · have hE : some (Ctl.brk ()) = some c1 := hM
    have hE := Option.some.inj hE
    subst hE
    exact pc R 5 [.as 10 false] [.keep [0] []] (And.intro h9 True.intro) (by kernel_rfl) (K1 () hK1)

-- loop.example/g03014/impl.gross
def impl_gross_L1_b (self : (List Thing) → Int → Option Int) (a0 : (List Thing)) (a1 : Int) (s3 : Int) (s4 : Int) : Option (Ctl (Int × Int) Int Int) :=
  bif (decide (s4 < (a0.length : Int))) then
  (gi a0 s4).bind fun v7 =>
  (gi a0 a1).bind fun v9 =>
  bif (v7.In == v9.Id) then
  (self a0 s4).bind fun v12 =>
  some (.next (w64 (s3 + v12), w64 (s4 + 1)))
  else
  some (.next (s3, w64 (s4 + 1)))
  else
  some (.brk s3)
def impl_gross_L1 (self : (List Thing) → Int → Option Int) (a0 : (List Thing)) (a1 : Int) (s : Int × Int) : Option (Ctl (Int × Int) Int Int) := impl_gross_L1_b self a0 a1 s.1 s.2
def impl_gross_L1_s (a0 : (List Thing)) (a1 : Int) (s3 : Int) (s4 : Int) : St := ⟨[(0, .o (.c (.rs 6 (a0.map Thing.enc)))), (1, .o (.c (.v (.int .i64 a1)))), (5, .o (.c (.v (.int .i64 s3)))), (13, .o (.c (.rs 6 (a0.map Thing.enc)))), (14, .o (.c (.v (.int .i64 (a0.length : Int))))), (15, .o (.c (.v (.int .i64 s4))))], []⟩
def impl_gross_L1_S (a0 : (List Thing)) (a1 : Int) (s : Int × Int) : St := impl_gross_L1_s a0 a1 s.1 s.2
def impl_gross_L1_a (s5 : Int) : Option Int :=
  some s5
def impl_gross_L1_k (x : (Int) ⊕ (Int)) : Option Int := match x with
  | .inl t => impl_gross_L1_a t
  | .inr y => some y
def impl_gross_F (self : (List Thing) → Int → Option Int) (a0 : (List Thing)) (a1 : Int) : Option Int :=
  (gi a0 a1).bind fun v1 =>
  (loopM (impl_gross_L1 self a0 a1) big (v1.Own, 0)).bind (impl_gross_L1_k)
def impl_gross_n : Nat → (List Thing) → Int → Option Int
  | 0, _, _ => none
  | n + 1, a0, a1 => impl_gross_F (impl_gross_n n) a0 a1
def impl_gross (a0 : (List Thing)) (a1 : Int) : Option Int := impl_gross_n big a0 a1
theorem impl_gross_step (self : (List Thing) → Int → Option Int) (ih : ∀ (a0 : (List Thing)) (a1 : Int) (r : Int), self a0 a1 = some r →
    Con Try.prog 71 [.c (.rs 6 (a0.map Thing.enc)), .c (.v (.int .i64 a1))] [] (.o (.c (.v (.int .i64 r)))) [] [])
     (a0 : (List Thing)) (a1 : Int) (r : Int) (hM : impl_gross_F self a0 a1 = some r) :
    Con Try.prog 71 [.c (.rs 6 (a0.map Thing.enc)), .c (.v (.int .i64 a1))] [] (.o (.c (.v (.int .i64 r)))) [] [] := by
  unfold impl_gross_F at hM
  refine cn (N := 35) (pids := []) Try_mixed Try.func71 (by kernel_rfl) (by kernel_rfl) (by kernel_rfl) rfl fun ρ g w R => ?_
  obtain ⟨v1, h2, hM⟩ := bind_some hM
  have K1 : ∀ (s5 : Int), impl_gross_L1_a s5 = some r → Gr R [.code (cAt Try.f71 [1, 1, 1])] (⟨[(5, .o (.c (.v (.int .i64 s5))))], []⟩) := by
    intro s5 hM
    unfold impl_gross_L1_a at hM
    have hE : some s5 = some r := hM
    have hE := Option.some.inj hE
    subst hE
    exact pr R 9999 [] [] [] [] True.intro (by kernel_rfl)
  refine pc R 9999 [.ix (Thing.enc v1), .ln (a0.length)] [.keep [0, 1, 5, 13, 14, 15] []] (k' := [.code (.loop (cAt Try.f71 [1, 1, 0, 1, 0, 0])), .blk 0, .code (cAt Try.f71 [1, 1, 1])]) (S' := impl_gross_L1_S a0 a1 (v1.Own, 0)) (And.intro (gi_map Thing.enc h2) (And.intro (lenm Thing.enc a0) True.intro)) (by kernel_rfl) ?_
  refine lq (impl_gross_L1_S a0 a1) (body := impl_gross_L1 self a0 a1) (k := impl_gross_L1_k) hM fun m1 s c1 hM hK1 => ?_
  obtain ⟨s3, s4⟩ := s
  have hM : impl_gross_L1_b self a0 a1 s3 s4 = some c1 := hM
  unfold impl_gross_L1_b at hM
  rcases cond_cases hM with ⟨h6, hM⟩ | ⟨h6, hM⟩
  · obtain ⟨v7, h8, hM⟩ := bind_some hM
    obtain ⟨v9, h10, hM⟩ := bind_some hM
    rcases cond_cases hM with ⟨h11, hM⟩ | ⟨h11, hM⟩
    · obtain ⟨v12, h13, hM⟩ := bind_some hM
      have hE : some (Ctl.next (w64 (s3 + v12), w64 (s4 + 1))) = some c1 := hM
      have hE := Option.some.inj hE
      subst hE
      exact pc R 9999 [.as 16 true, .ix (Thing.enc v7), .new 0, .ix (Thing.enc v9), .as 27 true, .call false [] (.o (.c (.v (.int .i64 v12)))) [] []] [.keep [0, 1, 5, 13, 14, 15] []] (And.intro h6 (And.intro (gi_map Thing.enc h8) (And.intro (gi_map Thing.enc h10) (And.intro h11 (And.intro (ih a0 s4 v12 h13) True.intro))))) (by kernel_rfl) (li (Sf := impl_gross_L1_S a0 a1) (M := Mk (impl_gross_L1 self a0 a1) (impl_gross_L1_k) r) (k := [.blk 0, .code (cAt Try.f71 [1, 1, 1])]) (Nat.lt_succ_self m1) hK1)
    · have hE : some (Ctl.next (s3, w64 (s4 + 1))) = some c1 := hM
      have hE := Option.some.inj hE
      subst hE
      exact pc R 9999 [.as 16 true, .ix (Thing.enc v7), .new 0, .ix (Thing.enc v9), .as 27 false] [.keep [0, 1, 5, 13, 14, 15] []] (And.intro h6 (And.intro (gi_map Thing.enc h8) (And.intro (gi_map Thing.enc h10) (And.intro h11 True.intro)))) (by kernel_rfl) (li (Sf := impl_gross_L1_S a0 a1) (M := Mk (impl_gross_L1 self a0 a1) (impl_gross_L1_k) r) (k := [.blk 0, .code (cAt Try.f71 [1, 1, 1])]) (Nat.lt_succ_self m1) hK1)
  · have hE : some (Ctl.brk s3) = some c1 := hM
    have hE := Option.some.inj hE
    subst hE
    exact pc R 5 [.as 16 false] [.keep [5] []] (And.intro h6 True.intro) (by kernel_rfl) (K1 s3 hK1)
theorem impl_gross_nok : ∀ (n : Nat) (a0 : (List Thing)) (a1 : Int) (r : Int), impl_gross_n n a0 a1 = some r →
    Con Try.prog 71 [.c (.rs 6 (a0.map Thing.enc)), .c (.v (.int .i64 a1))] [] (.o (.c (.v (.int .i64 r)))) [] []
  | 0, _, _, _, h => by cases h
  | n + 1, a0, a1, r, h => impl_gross_step (impl_gross_n n) (impl_gross_nok n) a0 a1 r h
theorem impl_gross_ok (a0 : (List Thing)) (a1 : Int) (r : Int) (h : impl_gross a0 a1 = some r) :
    Con Try.prog 71 [.c (.rs 6 (a0.map Thing.enc)), .c (.v (.int .i64 a1))] [] (.o (.c (.v (.int .i64 r)))) [] [] := impl_gross_nok big a0 a1 r h

-- loop.example/g03014/impl.AreThings
def impl_AreThings_L1_b (a0 : (List Thing)) (s5 : Int) : Option (Ctl Int Unit Bool) :=
  bif (decide (s5 < (a0.length : Int))) then
  (gi a0 s5).bind fun v7 =>
  bif v7.Box then
  (impl_gross a0 s5).bind fun v10 =>
  bif (decide ((w64 (v10 - v7.Own)) > v7.Room)) then
  some (.ret false)
  else
  some (.next (w64 (s5 + 1)))
  else
  some (.next (w64 (s5 + 1)))
  else
  some (.brk ())
def impl_AreThings_L1 (a0 : (List Thing)) (s : Int) : Option (Ctl Int Unit Bool) := impl_AreThings_L1_b a0 s
def impl_AreThings_L1_s (a0 : (List Thing)) (s5 : Int) : St := ⟨[(0, .o (.c (.rs 6 (a0.map Thing.enc)))), (13, .o (.c (.rs 6 (a0.map Thing.enc)))), (14, .o (.c (.v (.int .i64 (a0.length : Int))))), (15, .o (.c (.v (.int .i64 s5))))], []⟩
def impl_AreThings_L1_S (a0 : (List Thing)) (s : Int) : St := impl_AreThings_L1_s a0 s
def impl_AreThings_L1_a : Option Bool :=
  some true
def impl_AreThings_L1_k (x : (Unit) ⊕ (Bool)) : Option Bool := match x with
  | .inl t => impl_AreThings_L1_a
  | .inr y => some y
def impl_AreThings (a0 : (List Thing)) : Option Bool :=
  bif (decide ((a0.length : Int) > 40)) then
  some false
  else
  (impl_areDeep a0).bind fun v2 =>
  bif (!v2) then
  some false
  else
  (loopM (impl_AreThings_L1 a0) big 0).bind (impl_AreThings_L1_k)
theorem impl_AreThings_ok (a0 : (List Thing)) (r : Bool) (hM : impl_AreThings a0 = some r) :
    Con Try.prog 28 [.c (.rs 6 (a0.map Thing.enc))] [] (.o (.c (.v (.bool r)))) [] [] := by
  unfold impl_AreThings at hM
  refine cn (N := 34) (pids := []) Try_mixed Try.func28 (by kernel_rfl) (by kernel_rfl) (by kernel_rfl) rfl fun ρ g w R => ?_
  rcases cond_cases hM with ⟨h1, hM⟩ | ⟨h1, hM⟩
  · have hE : some false = some r := hM
    have hE := Option.some.inj hE
    subst hE
    exact pr R 9999 [.ln (a0.length), .as 8 true] [] [] [] (And.intro (lenm Thing.enc a0) (And.intro h1 True.intro)) (by kernel_rfl)
  · obtain ⟨v2, h3, hM⟩ := bind_some hM
    rcases cond_cases hM with ⟨h4, hM⟩ | ⟨h4, hM⟩
    · have hE : some false = some r := hM
      have hE := Option.some.inj hE
      subst hE
      exact pr R 9999 [.ln (a0.length), .as 8 false, .call false [] (.o (.c (.v (.bool v2)))) [] [], .as 12 true] [] [] [] (And.intro (lenm Thing.enc a0) (And.intro h1 (And.intro (impl_areDeep_ok a0 v2 h3) (And.intro h4 True.intro)))) (by kernel_rfl)
    · have K1 : ∀ (_ : Unit), impl_AreThings_L1_a = some r → Gr R [.code (cAt Try.f28 [1, 1, 1])] (⟨[], []⟩) := by
        intro _ hM
        unfold impl_AreThings_L1_a at hM
        have hE : some true = some r := hM
        have hE := Option.some.inj hE
        subst hE
        exact pr R 9999 [] [] [] [] True.intro (by kernel_rfl)
      refine pc R 9999 [.ln (a0.length), .as 8 false, .call false [] (.o (.c (.v (.bool v2)))) [] [], .as 12 false, .ln (a0.length)] [.keep [0, 13, 14, 15] []] (k' := [.code (.loop (cAt Try.f28 [1, 1, 0, 1, 0, 0])), .blk 0, .code (cAt Try.f28 [1, 1, 1])]) (S' := impl_AreThings_L1_S a0 0) (And.intro (lenm Thing.enc a0) (And.intro h1 (And.intro (impl_areDeep_ok a0 v2 h3) (And.intro h4 (And.intro (lenm Thing.enc a0) True.intro))))) (by kernel_rfl) ?_
      refine lq (impl_AreThings_L1_S a0) (body := impl_AreThings_L1 a0) (k := impl_AreThings_L1_k) hM fun m1 s c1 hM hK1 => ?_
      obtain ⟨s5, hs⟩ : ∃ z, z = s := ⟨_, rfl⟩
      subst hs
      have hM : impl_AreThings_L1_b a0 s5 = some c1 := hM
      unfold impl_AreThings_L1_b at hM
      rcases cond_cases hM with ⟨h6, hM⟩ | ⟨h6, hM⟩
      · obtain ⟨v7, h8, hM⟩ := bind_some hM
        rcases cond_cases hM with ⟨h9, hM⟩ | ⟨h9, hM⟩
        · obtain ⟨v10, h11, hM⟩ := bind_some hM
          rcases cond_cases hM with ⟨h12, hM⟩ | ⟨h12, hM⟩
          · have hE : some (Ctl.ret false) = some c1 := hM
            have hE := Option.some.inj hE
            subst hE
            have hE : some false = some r := hK1
            have hE := Option.some.inj hE
            subst hE
            exact pr R 9999 [.as 16 true, .ix (Thing.enc v7), .new 0, .as 22 true, .call false [] (.o (.c (.v (.int .i64 v10)))) [] [], .as 32 true] [] [] [] (And.intro h6 (And.intro (gi_map Thing.enc h8) (And.intro h9 (And.intro (impl_gross_ok a0 s5 v10 h11) (And.intro h12 True.intro))))) (by kernel_rfl)
          · have hE : some (Ctl.next (w64 (s5 + 1))) = some c1 := hM
            have hE := Option.some.inj hE
            subst hE
            exact pc R 9999 [.as 16 true, .ix (Thing.enc v7), .new 0, .as 22 true, .call false [] (.o (.c (.v (.int .i64 v10)))) [] [], .as 32 false] [.keep [0, 13, 14, 15] []] (And.intro h6 (And.intro (gi_map Thing.enc h8) (And.intro h9 (And.intro (impl_gross_ok a0 s5 v10 h11) (And.intro h12 True.intro))))) (by kernel_rfl) (li (Sf := impl_AreThings_L1_S a0) (M := Mk (impl_AreThings_L1 a0) (impl_AreThings_L1_k) r) (k := [.blk 0, .code (cAt Try.f28 [1, 1, 1])]) (Nat.lt_succ_self m1) hK1)
        · have hE : some (Ctl.next (w64 (s5 + 1))) = some c1 := hM
          have hE := Option.some.inj hE
          subst hE
          exact pc R 9999 [.as 16 true, .ix (Thing.enc v7), .new 0, .as 22 false] [.keep [0, 13, 14, 15] []] (And.intro h6 (And.intro (gi_map Thing.enc h8) (And.intro h9 True.intro))) (by kernel_rfl) (li (Sf := impl_AreThings_L1_S a0) (M := Mk (impl_AreThings_L1 a0) (impl_AreThings_L1_k) r) (k := [.blk 0, .code (cAt Try.f28 [1, 1, 1])]) (Nat.lt_succ_self m1) hK1)
      · have hE : some (Ctl.brk ()) = some c1 := hM
        have hE := Option.some.inj hE
        subst hE
        exact pc R 5 [.as 16 false] [.keep [] []] (And.intro h6 True.intro) (by kernel_rfl) (K1 () hK1)

-- loop.example/g03014/impl.isThing
def impl_isThing (a0 : (List Thing)) (a1 : Int) : Option Bool :=
  (impl_AreThings a0).bind fun v1 =>
  bif v1 then
  (impl_FindThing a0 a1).bind fun v4 =>
  some (decide (v4 ≥ 0))
  else
  some false
theorem impl_isThing_ok (a0 : (List Thing)) (a1 : Int) (r : Bool) (hM : impl_isThing a0 a1 = some r) :
    Con Try.prog 72 [.c (.rs 6 (a0.map Thing.enc)), .c (.v (.int .i64 a1))] [] (.o (.c (.v (.bool r)))) [] [] := by
  unfold impl_isThing at hM
  refine cn (N := 13) (pids := []) Try_mixed Try.func72 (by kernel_rfl) (by kernel_rfl) (by kernel_rfl) rfl fun ρ g w R => ?_
  obtain ⟨v1, h2, hM⟩ := bind_some hM
  rcases cond_cases hM with ⟨h3, hM⟩ | ⟨h3, hM⟩
  · obtain ⟨v4, h5, hM⟩ := bind_some hM
    have hE : some (decide (v4 ≥ 0)) = some r := hM
    have hE := Option.some.inj hE
    subst hE
    exact pr R 9999 [.call false [] (.o (.c (.v (.bool v1)))) [] [], .as 7 true, .call false [] (.o (.c (.v (.int .i64 v4)))) [] []] [] [] [] (And.intro (impl_AreThings_ok a0 v1 h2) (And.intro h3 (And.intro (impl_FindThing_ok a0 a1 v4 h5) True.intro))) (by kernel_rfl)
  · have hE : some false = some r := hM
    have hE := Option.some.inj hE
    subst hE
    exact pr R 9999 [.call false [] (.o (.c (.v (.bool v1)))) [] [], .as 7 false] [] [] [] (And.intro (impl_AreThings_ok a0 v1 h2) (And.intro h3 True.intro)) (by kernel_rfl)

-- loop.example/g03014/impl.hasInt
def impl_hasInt_L1_b (a0 : (List Int)) (a1 : Int) (s1 : Int) : Option (Ctl Int Unit Bool) :=
  bif (decide (s1 < (a0.length : Int))) then
  (gi a0 s1).bind fun v3 =>
  bif (v3 == a1) then
  some (.ret true)
  else
  some (.next (w64 (s1 + 1)))
  else
  some (.brk ())
def impl_hasInt_L1 (a0 : (List Int)) (a1 : Int) (s : Int) : Option (Ctl Int Unit Bool) := impl_hasInt_L1_b a0 a1 s
def impl_hasInt_L1_s (a0 : (List Int)) (a1 : Int) (s1 : Int) : St := ⟨[(1, .o (.c (.v (.int .i64 a1)))), (7, .o (.c (.rs 1 (a0.map encI)))), (8, .o (.c (.v (.int .i64 (a0.length : Int))))), (9, .o (.c (.v (.int .i64 s1))))], []⟩
def impl_hasInt_L1_S (a0 : (List Int)) (a1 : Int) (s : Int) : St := impl_hasInt_L1_s a0 a1 s
def impl_hasInt_L1_a : Option Bool :=
  some false
def impl_hasInt_L1_k (x : (Unit) ⊕ (Bool)) : Option Bool := match x with
  | .inl t => impl_hasInt_L1_a
  | .inr y => some y
def impl_hasInt (a0 : (List Int)) (a1 : Int) : Option Bool :=
  (loopM (impl_hasInt_L1 a0 a1) big 0).bind (impl_hasInt_L1_k)
theorem impl_hasInt_ok (a0 : (List Int)) (a1 : Int) (r : Bool) (hM : impl_hasInt a0 a1 = some r) :
    Con Try.prog 77 [.c (.rs 1 (a0.map encI)), .c (.v (.int .i64 a1))] [] (.o (.c (.v (.bool r)))) [] [] := by
  unfold impl_hasInt at hM
  refine cn (N := 17) (pids := []) Try_mixed Try.func77 (by kernel_rfl) (by kernel_rfl) (by kernel_rfl) rfl fun ρ g w R => ?_
  have K1 : ∀ (_ : Unit), impl_hasInt_L1_a = some r → Gr R [.code (cAt Try.f77 [1, 1])] (⟨[], []⟩) := by
    intro _ hM
    unfold impl_hasInt_L1_a at hM
    have hE : some false = some r := hM
    have hE := Option.some.inj hE
    subst hE
    exact pr R 9999 [] [] [] [] True.intro (by kernel_rfl)
  refine pc R 9999 [.ln (a0.length)] [.keep [1, 7, 8, 9] []] (k' := [.code (.loop (cAt Try.f77 [1, 0, 1, 0, 0])), .blk 0, .code (cAt Try.f77 [1, 1])]) (S' := impl_hasInt_L1_S a0 a1 0) (And.intro (lenm encI a0) True.intro) (by kernel_rfl) ?_
  refine lq (impl_hasInt_L1_S a0 a1) (body := impl_hasInt_L1 a0 a1) (k := impl_hasInt_L1_k) hM fun m1 s c1 hM hK1 => ?_
  obtain ⟨s1, hs⟩ : ∃ z, z = s := ⟨_, rfl⟩
  subst hs
  have hM : impl_hasInt_L1_b a0 a1 s1 = some c1 := hM
  unfold impl_hasInt_L1_b at hM
  rcases cond_cases hM with ⟨h2, hM⟩ | ⟨h2, hM⟩
  · obtain ⟨v3, h4, hM⟩ := bind_some hM
    rcases cond_cases hM with ⟨h5, hM⟩ | ⟨h5, hM⟩
    · have hE : some (Ctl.ret true) = some c1 := hM
      have hE := Option.some.inj hE
      subst hE
      have hE : some true = some r := hK1
      have hE := Option.some.inj hE
      subst hE
      exact pr R 9999 [.as 10 true, .ix (encI v3), .as 15 true] [] [] [] (And.intro h2 (And.intro (gi_map encI h4) (And.intro h5 True.intro))) (by kernel_rfl)
    · have hE : some (Ctl.next (w64 (s1 + 1))) = some c1 := hM
      have hE := Option.some.inj hE
      subst hE
      exact pc R 9999 [.as 10 true, .ix (encI v3), .as 15 false] [.keep [1, 7, 8, 9] []] (And.intro h2 (And.intro (gi_map encI h4) (And.intro h5 True.intro))) (by kernel_rfl) (li (Sf := impl_hasInt_L1_S a0 a1) (M := Mk (impl_hasInt_L1 a0 a1) (impl_hasInt_L1_k) r) (k := [.blk 0, .code (cAt Try.f77 [1, 1])]) (Nat.lt_succ_self m1) hK1)
  · have hE : some (Ctl.brk ()) = some c1 := hM
    have hE := Option.some.inj hE
    subst hE
    exact pc R 5 [.as 10 false] [.keep [] []] (And.intro h2 True.intro) (by kernel_rfl) (K1 () hK1)

-- loop.example/g03014/impl.AllInside
def impl_AllInside_L1_b (a0 : (List Thing)) (a1 : Int) (s4 : (List Int)) (s5 : Int) : Option (Ctl ((List Int) × Int) (List Int) (List Int)) :=
  bif (decide (s5 < (a0.length : Int))) then
  (gi a0 s5).bind fun v8 =>
  (impl_around a0 v8.Id).bind fun v10 =>
  (impl_hasInt v10 a1).bind fun v12 =>
  bif v12 then
  (ap 8 s4 ([v8.Id] : List Int)).bind fun v15 =>
  some (.next (v15, w64 (s5 + 1)))
  else
  some (.next (s4, w64 (s5 + 1)))
  else
  some (.brk s4)
def impl_AllInside_L1 (a0 : (List Thing)) (a1 : Int) (s : (List Int) × Int) : Option (Ctl ((List Int) × Int) (List Int) (List Int)) := impl_AllInside_L1_b a0 a1 s.1 s.2
def impl_AllInside_L1_s (a0 : (List Thing)) (a1 : Int) (s4 : (List Int)) (s5 : Int) : St := ⟨[(0, .o (.c (.rs 6 (a0.map Thing.enc)))), (1, .o (.c (.v (.int .i64 a1)))), (5, .o (.c (.sl 0))), (14, .o (.c (.rs 6 (a0.map Thing.enc)))), (15, .o (.c (.v (.int .i64 (a0.length : Int))))), (16, .o (.c (.v (.int .i64 s5))))], [(0, .row 3 1 (s4.map encI))]⟩
def impl_AllInside_L1_S (a0 : (List Thing)) (a1 : Int) (s : (List Int) × Int) : St := impl_AllInside_L1_s a0 a1 s.1 s.2
def impl_AllInside_L1_a (s6 : (List Int)) : Option (List Int) :=
  some s6
def impl_AllInside_L1_k (x : ((List Int)) ⊕ ((List Int))) : Option (List Int) := match x with
  | .inl t => impl_AllInside_L1_a t
  | .inr y => some y
def impl_AllInside (a0 : (List Thing)) (a1 : Int) : Option (List Int) :=
  (impl_isThing a0 a1).bind fun v1 =>
  bif (!v1) then
  some ([] : List Int)
  else
  (loopM (impl_AllInside_L1 a0 a1) big (([] : List Int), 0)).bind (impl_AllInside_L1_k)
theorem impl_AllInside_ok (a0 : (List Thing)) (a1 : Int) (r : (List Int)) (hM : impl_AllInside a0 a1 = some r) :
    Con Try.prog 44 [.c (.rs 6 (a0.map Thing.enc)), .c (.v (.int .i64 a1))] [] (.o (.c (.sl 1000))) [] [(1000, .row 3 1 (r.map encI))] := by
  unfold impl_AllInside at hM
  refine cn (N := 33) (pids := []) Try_mixed Try.func44 (by kernel_rfl) (by kernel_rfl) (by kernel_rfl) rfl fun ρ g w R => ?_
  obtain ⟨v1, h2, hM⟩ := bind_some hM
  rcases cond_cases hM with ⟨h3, hM⟩ | ⟨h3, hM⟩
  · have hE : some ([] : List Int) = some r := hM
    have hE := Option.some.inj hE
    subst hE
    exact pr R 9999 [.new 0, .call false [] (.o (.c (.v (.bool v1)))) [] [], .as 12 true] [.sw 0 1000] [] [1000] (And.intro (impl_isThing_ok a0 a1 v1 h2) (And.intro h3 True.intro)) (by kernel_rfl)
  · have K1 : ∀ (s6 : (List Int)), impl_AllInside_L1_a s6 = some r → Gr R [.code (cAt Try.f44 [1, 1, 1, 1])] (⟨[(5, .o (.c (.sl 0)))], [(0, .row 3 1 (s6.map encI))]⟩) := by
      intro s6 hM
      unfold impl_AllInside_L1_a at hM
      have hE : some s6 = some r := hM
      have hE := Option.some.inj hE
      subst hE
      exact pr R 9999 [] [.sw 0 1000] [] [1000] True.intro (by kernel_rfl)
    refine pc R 9999 [.new 0, .call false [] (.o (.c (.v (.bool v1)))) [] [], .as 12 false, .ln (a0.length)] [.keep [0, 1, 5, 14, 15, 16] [0]] (k' := [.code (.loop (cAt Try.f44 [1, 1, 1, 0, 1, 0, 0])), .blk 0, .code (cAt Try.f44 [1, 1, 1, 1])]) (S' := impl_AllInside_L1_S a0 a1 (([] : List Int), 0)) (And.intro (impl_isThing_ok a0 a1 v1 h2) (And.intro h3 (And.intro (lenm Thing.enc a0) True.intro))) (by kernel_rfl) ?_
    refine lq (impl_AllInside_L1_S a0 a1) (body := impl_AllInside_L1 a0 a1) (k := impl_AllInside_L1_k) hM fun m1 s c1 hM hK1 => ?_
    obtain ⟨s4, s5⟩ := s
    have hM : impl_AllInside_L1_b a0 a1 s4 s5 = some c1 := hM
    unfold impl_AllInside_L1_b at hM
    rcases cond_cases hM with ⟨h7, hM⟩ | ⟨h7, hM⟩
    · obtain ⟨v8, h9, hM⟩ := bind_some hM
      obtain ⟨v10, h11, hM⟩ := bind_some hM
      obtain ⟨v12, h13, hM⟩ := bind_some hM
      rcases cond_cases hM with ⟨h14, hM⟩ | ⟨h14, hM⟩
      · obtain ⟨v15, h16, hM⟩ := bind_some hM
        have hE : some (Ctl.next (v15, w64 (s5 + 1))) = some c1 := hM
        have hE := Option.some.inj hE
        subst hE
        exact pc R 9999 [.as 17 true, .ix (Thing.enc v8), .new 1, .call false [] (.o (.c (.sl 2))) [] [(2, .row 3 1 (v10.map encI))], .call false [] (.o (.c (.v (.bool v12)))) [] [], .as 25 true, .new 3, .new 4, .nm (v15.map encI)] [.sw 4 0, .keep [0, 1, 5, 14, 15, 16] [0]] (And.intro h7 (And.intro (gi_map Thing.enc h9) (And.intro (And.intro (con_sw 1000 2 (impl_around_ok a0 v8.Id v10 h11)) (rfl : ([] : List Nat) = [])) (And.intro (impl_hasInt_ok v10 a1 v12 h13) (And.intro h14 (And.intro (ap_ok encI h16) True.intro)))))) (by kernel_rfl) (li (Sf := impl_AllInside_L1_S a0 a1) (M := Mk (impl_AllInside_L1 a0 a1) (impl_AllInside_L1_k) r) (k := [.blk 0, .code (cAt Try.f44 [1, 1, 1, 1])]) (Nat.lt_succ_self m1) hK1)
      · have hE : some (Ctl.next (s4, w64 (s5 + 1))) = some c1 := hM
        have hE := Option.some.inj hE
        subst hE
        exact pc R 9999 [.as 17 true, .ix (Thing.enc v8), .new 1, .call false [] (.o (.c (.sl 2))) [] [(2, .row 3 1 (v10.map encI))], .call false [] (.o (.c (.v (.bool v12)))) [] [], .as 25 false] [.keep [0, 1, 5, 14, 15, 16] [0]] (And.intro h7 (And.intro (gi_map Thing.enc h9) (And.intro (And.intro (con_sw 1000 2 (impl_around_ok a0 v8.Id v10 h11)) (rfl : ([] : List Nat) = [])) (And.intro (impl_hasInt_ok v10 a1 v12 h13) (And.intro h14 True.intro))))) (by kernel_rfl) (li (Sf := impl_AllInside_L1_S a0 a1) (M := Mk (impl_AllInside_L1 a0 a1) (impl_AllInside_L1_k) r) (k := [.blk 0, .code (cAt Try.f44 [1, 1, 1, 1])]) (Nat.lt_succ_self m1) hK1)
    · have hE : some (Ctl.brk s4) = some c1 := hM
      have hE := Option.some.inj hE
      subst hE
      exact pc R 5 [.as 17 false] [.keep [5] [0]] (And.intro h7 True.intro) (by kernel_rfl) (K1 s4 hK1)

-- loop.example/g03014/spec.AllInside
def spec_AllInside_L1_b (a0 : (List Thing)) (a1 : Int) (s7 : (List Int)) (s8 : Int) : Option (Ctl ((List Int) × Int) (List Int) (List Int)) :=
  bif (decide (s8 < (a0.length : Int))) then
  (gi a0 s8).bind fun v11 =>
  (spec_l5Around a0 v11.Id a1).bind fun v13 =>
  bif v13 then
  (gi a0 s8).bind fun v16 =>
  (ap 8 s7 ([v16.Id] : List Int)).bind fun v18 =>
  some (.next (v18, w64 (s8 + 1)))
  else
  some (.next (s7, w64 (s8 + 1)))
  else
  some (.brk s7)
def spec_AllInside_L1 (a0 : (List Thing)) (a1 : Int) (s : (List Int) × Int) : Option (Ctl ((List Int) × Int) (List Int) (List Int)) := spec_AllInside_L1_b a0 a1 s.1 s.2
def spec_AllInside_L1_s (a0 : (List Thing)) (a1 : Int) (s7 : (List Int)) (s8 : Int) : St := ⟨[(0, .o (.c (.rs 6 (a0.map Thing.enc)))), (1, .o (.c (.v (.int .i64 a1)))), (5, .o (.c (.sl 0))), (6, .o (.c (.v (.int .i64 s8))))], [(0, .row 3 1 (s7.map encI))]⟩
def spec_AllInside_L1_S (a0 : (List Thing)) (a1 : Int) (s : (List Int) × Int) : St := spec_AllInside_L1_s a0 a1 s.1 s.2
def spec_AllInside_L1_a (s9 : (List Int)) : Option (List Int) :=
  some s9
def spec_AllInside_L1_k (x : ((List Int)) ⊕ ((List Int))) : Option (List Int) := match x with
  | .inl t => spec_AllInside_L1_a t
  | .inr y => some y
def spec_AllInside (a0 : (List Thing)) (a1 : Int) : Option (List Int) :=
  (spec_AreThings a0).bind fun v1 =>
  bif (!v1) then
  some ([] : List Int)
  else
  (spec_FindThing a0 a1).bind fun v4 =>
  bif (decide (v4 < 0)) then
  some ([] : List Int)
  else
  (loopM (spec_AllInside_L1 a0 a1) big (([] : List Int), 0)).bind (spec_AllInside_L1_k)
theorem spec_AllInside_ok (a0 : (List Thing)) (a1 : Int) (r : (List Int)) (hM : spec_AllInside a0 a1 = some r) :
    Con Try.prog 43 [.c (.rs 6 (a0.map Thing.enc)), .c (.v (.int .i64 a1))] [] (.o (.c (.sl 1000))) [] [(1000, .row 3 1 (r.map encI))] := by
  unfold spec_AllInside at hM
  refine cn (N := 41) (pids := []) Try_mixed Try.func43 (by kernel_rfl) (by kernel_rfl) (by kernel_rfl) rfl fun ρ g w R => ?_
  obtain ⟨v1, h2, hM⟩ := bind_some hM
  rcases cond_cases hM with ⟨h3, hM⟩ | ⟨h3, hM⟩
  · have hE : some ([] : List Int) = some r := hM
    have hE := Option.some.inj hE
    subst hE
    exact pr R 9999 [.new 0, .call false [] (.o (.c (.v (.bool v1)))) [] [], .as 11 true] [.sw 0 1000] [] [1000] (And.intro (spec_AreThings_ok a0 v1 h2) (And.intro h3 True.intro)) (by kernel_rfl)
  · obtain ⟨v4, h5, hM⟩ := bind_some hM
    rcases cond_cases hM with ⟨h6, hM⟩ | ⟨h6, hM⟩
    · have hE : some ([] : List Int) = some r := hM
      have hE := Option.some.inj hE
      subst hE
      exact pr R 9999 [.new 0, .call false [] (.o (.c (.v (.bool v1)))) [] [], .as 11 false, .call false [] (.o (.c (.v (.int .i64 v4)))) [] [], .as 16 true] [.sw 0 1000] [] [1000] (And.intro (spec_AreThings_ok a0 v1 h2) (And.intro h3 (And.intro (spec_FindThing_ok a0 a1 v4 h5) (And.intro h6 True.intro)))) (by kernel_rfl)
    · have K1 : ∀ (s9 : (List Int)), spec_AllInside_L1_a s9 = some r → Gr R [.code (cAt Try.f43 [1, 1, 1, 1])] (⟨[(5, .o (.c (.sl 0)))], [(0, .row 3 1 (s9.map encI))]⟩) := by
        intro s9 hM
        unfold spec_AllInside_L1_a at hM
        have hE : some s9 = some r := hM
        have hE := Option.some.inj hE
        subst hE
        exact pr R 9999 [] [.sw 0 1000] [] [1000] True.intro (by kernel_rfl)
      refine pc R 9999 [.new 0, .call false [] (.o (.c (.v (.bool v1)))) [] [], .as 11 false, .call false [] (.o (.c (.v (.int .i64 v4)))) [] [], .as 16 false] [.keep [0, 1, 5, 6] [0]] (k' := [.code (.loop (cAt Try.f43 [1, 1, 1, 0, 1, 0, 0])), .blk 0, .code (cAt Try.f43 [1, 1, 1, 1])]) (S' := spec_AllInside_L1_S a0 a1 (([] : List Int), 0)) (And.intro (spec_AreThings_ok a0 v1 h2) (And.intro h3 (And.intro (spec_FindThing_ok a0 a1 v4 h5) (And.intro h6 True.intro)))) (by kernel_rfl) ?_
      refine lq (spec_AllInside_L1_S a0 a1) (body := spec_AllInside_L1 a0 a1) (k := spec_AllInside_L1_k) hM fun m1 s c1 hM hK1 => ?_
      obtain ⟨s7, s8⟩ := s
      have hM : spec_AllInside_L1_b a0 a1 s7 s8 = some c1 := hM
      unfold spec_AllInside_L1_b at hM
      rcases cond_cases hM with ⟨h10, hM⟩ | ⟨h10, hM⟩
      · obtain ⟨v11, h12, hM⟩ := bind_some hM
        obtain ⟨v13, h14, hM⟩ := bind_some hM
        rcases cond_cases hM with ⟨h15, hM⟩ | ⟨h15, hM⟩
        · obtain ⟨v16, h17, hM⟩ := bind_some hM
          obtain ⟨v18, h19, hM⟩ := bind_some hM
          have hE : some (Ctl.next (v18, w64 (s8 + 1))) = some c1 := hM
          have hE := Option.some.inj hE
          subst hE
          exact pc R 9999 [.ln (a0.length), .as 21 true, .ix (Thing.enc v11), .call false [] (.o (.c (.v (.bool v13)))) [] [], .as 31 true, .ix (Thing.enc v16), .new 1, .new 2, .nm (v18.map encI)] [.sw 2 0, .keep [0, 1, 5, 6] [0]] (And.intro (lenm Thing.enc a0) (And.intro h10 (And.intro (gi_map Thing.enc h12) (And.intro (spec_l5Around_ok a0 v11.Id a1 v13 h14) (And.intro h15 (And.intro (gi_map Thing.enc h17) (And.intro (ap_ok encI h19) True.intro))))))) (by kernel_rfl) (li (Sf := spec_AllInside_L1_S a0 a1) (M := Mk (spec_AllInside_L1 a0 a1) (spec_AllInside_L1_k) r) (k := [.blk 0, .code (cAt Try.f43 [1, 1, 1, 1])]) (Nat.lt_succ_self m1) hK1)
        · have hE : some (Ctl.next (s7, w64 (s8 + 1))) = some c1 := hM
          have hE := Option.some.inj hE
          subst hE
          exact pc R 9999 [.ln (a0.length), .as 21 true, .ix (Thing.enc v11), .call false [] (.o (.c (.v (.bool v13)))) [] [], .as 31 false] [.keep [0, 1, 5, 6] [0]] (And.intro (lenm Thing.enc a0) (And.intro h10 (And.intro (gi_map Thing.enc h12) (And.intro (spec_l5Around_ok a0 v11.Id a1 v13 h14) (And.intro h15 True.intro))))) (by kernel_rfl) (li (Sf := spec_AllInside_L1_S a0 a1) (M := Mk (spec_AllInside_L1 a0 a1) (spec_AllInside_L1_k) r) (k := [.blk 0, .code (cAt Try.f43 [1, 1, 1, 1])]) (Nat.lt_succ_self m1) hK1)
      · have hE : some (Ctl.brk s7) = some c1 := hM
        have hE := Option.some.inj hE
        subst hE
        exact pc R 5 [.ln (a0.length), .as 21 false] [.keep [5] [0]] (And.intro (lenm Thing.enc a0) (And.intro h10 True.intro)) (by kernel_rfl) (K1 s7 hK1)

-- loop.example/g03014/impl.InsideOf
def impl_InsideOf_L1_b (a0 : (List Thing)) (a1 : Int) (s4 : (List Int)) (s5 : Int) : Option (Ctl ((List Int) × Int) (List Int) (List Int)) :=
  bif (decide (s5 < (a0.length : Int))) then
  (gi a0 s5).bind fun v8 =>
  bif (v8.In == a1) then
  (ap 8 s4 ([v8.Id] : List Int)).bind fun v11 =>
  some (.next (v11, w64 (s5 + 1)))
  else
  some (.next (s4, w64 (s5 + 1)))
  else
  some (.brk s4)
def impl_InsideOf_L1 (a0 : (List Thing)) (a1 : Int) (s : (List Int) × Int) : Option (Ctl ((List Int) × Int) (List Int) (List Int)) := impl_InsideOf_L1_b a0 a1 s.1 s.2
def impl_InsideOf_L1_s (a0 : (List Thing)) (a1 : Int) (s4 : (List Int)) (s5 : Int) : St := ⟨[(1, .o (.c (.v (.int .i64 a1)))), (5, .o (.c (.sl 0))), (14, .o (.c (.rs 6 (a0.map Thing.enc)))), (15, .o (.c (.v (.int .i64 (a0.length : Int))))), (16, .o (.c (.v (.int .i64 s5))))], [(0, .row 3 1 (s4.map encI))]⟩
def impl_InsideOf_L1_S (a0 : (List Thing)) (a1 : Int) (s : (List Int) × Int) : St := impl_InsideOf_L1_s a0 a1 s.1 s.2
def impl_InsideOf_L1_a (s6 : (List Int)) : Option (List Int) :=
  some s6
def impl_InsideOf_L1_k (x : ((List Int)) ⊕ ((List Int))) : Option (List Int) := match x with
  | .inl t => impl_InsideOf_L1_a t
  | .inr y => some y
def impl_InsideOf (a0 : (List Thing)) (a1 : Int) : Option (List Int) :=
  (impl_isThing a0 a1).bind fun v1 =>
  bif (!v1) then
  some ([] : List Int)
  else
  (loopM (impl_InsideOf_L1 a0 a1) big (([] : List Int), 0)).bind (impl_InsideOf_L1_k)
theorem impl_InsideOf_ok (a0 : (List Thing)) (a1 : Int) (r : (List Int)) (hM : impl_InsideOf a0 a1 = some r) :
    Con Try.prog 38 [.c (.rs 6 (a0.map Thing.enc)), .c (.v (.int .i64 a1))] [] (.o (.c (.sl 1000))) [] [(1000, .row 3 1 (r.map encI))] := by
  unfold impl_InsideOf at hM
  refine cn (N := 31) (pids := []) Try_mixed Try.func38 (by kernel_rfl) (by kernel_rfl) (by kernel_rfl) rfl fun ρ g w R => ?_
  obtain ⟨v1, h2, hM⟩ := bind_some hM
  rcases cond_cases hM with ⟨h3, hM⟩ | ⟨h3, hM⟩
  · have hE : some ([] : List Int) = some r := hM
    have hE := Option.some.inj hE
    subst hE
    exact pr R 9999 [.new 0, .call false [] (.o (.c (.v (.bool v1)))) [] [], .as 12 true] [.sw 0 1000] [] [1000] (And.intro (impl_isThing_ok a0 a1 v1 h2) (And.intro h3 True.intro)) (by kernel_rfl)
  · have K1 : ∀ (s6 : (List Int)), impl_InsideOf_L1_a s6 = some r → Gr R [.code (cAt Try.f38 [1, 1, 1, 1])] (⟨[(5, .o (.c (.sl 0)))], [(0, .row 3 1 (s6.map encI))]⟩) := by
      intro s6 hM
      unfold impl_InsideOf_L1_a at hM
      have hE : some s6 = some r := hM
      have hE := Option.some.inj hE
      subst hE
      exact pr R 9999 [] [.sw 0 1000] [] [1000] True.intro (by kernel_rfl)
    refine pc R 9999 [.new 0, .call false [] (.o (.c (.v (.bool v1)))) [] [], .as 12 false, .ln (a0.length)] [.keep [1, 5, 14, 15, 16] [0]] (k' := [.code (.loop (cAt Try.f38 [1, 1, 1, 0, 1, 0, 0])), .blk 0, .code (cAt Try.f38 [1, 1, 1, 1])]) (S' := impl_InsideOf_L1_S a0 a1 (([] : List Int), 0)) (And.intro (impl_isThing_ok a0 a1 v1 h2) (And.intro h3 (And.intro (lenm Thing.enc a0) True.intro))) (by kernel_rfl) ?_
    refine lq (impl_InsideOf_L1_S a0 a1) (body := impl_InsideOf_L1 a0 a1) (k := impl_InsideOf_L1_k) hM fun m1 s c1 hM hK1 => ?_
    obtain ⟨s4, s5⟩ := s
    have hM : impl_InsideOf_L1_b a0 a1 s4 s5 = some c1 := hM
    unfold impl_InsideOf_L1_b at hM
    rcases cond_cases hM with ⟨h7, hM⟩ | ⟨h7, hM⟩
    · obtain ⟨v8, h9, hM⟩ := bind_some hM
      rcases cond_cases hM with ⟨h10, hM⟩ | ⟨h10, hM⟩
      · obtain ⟨v11, h12, hM⟩ := bind_some hM
        have hE : some (Ctl.next (v11, w64 (s5 + 1))) = some c1 := hM
        have hE := Option.some.inj hE
        subst hE
        exact pc R 9999 [.as 17 true, .ix (Thing.enc v8), .new 1, .as 23 true, .new 2, .new 3, .nm (v11.map encI)] [.sw 3 0, .keep [1, 5, 14, 15, 16] [0]] (And.intro h7 (And.intro (gi_map Thing.enc h9) (And.intro h10 (And.intro (ap_ok encI h12) True.intro)))) (by kernel_rfl) (li (Sf := impl_InsideOf_L1_S a0 a1) (M := Mk (impl_InsideOf_L1 a0 a1) (impl_InsideOf_L1_k) r) (k := [.blk 0, .code (cAt Try.f38 [1, 1, 1, 1])]) (Nat.lt_succ_self m1) hK1)
      · have hE : some (Ctl.next (s4, w64 (s5 + 1))) = some c1 := hM
        have hE := Option.some.inj hE
        subst hE
        exact pc R 9999 [.as 17 true, .ix (Thing.enc v8), .new 1, .as 23 false] [.keep [1, 5, 14, 15, 16] [0]] (And.intro h7 (And.intro (gi_map Thing.enc h9) (And.intro h10 True.intro))) (by kernel_rfl) (li (Sf := impl_InsideOf_L1_S a0 a1) (M := Mk (impl_InsideOf_L1 a0 a1) (impl_InsideOf_L1_k) r) (k := [.blk 0, .code (cAt Try.f38 [1, 1, 1, 1])]) (Nat.lt_succ_self m1) hK1)
    · have hE : some (Ctl.brk s4) = some c1 := hM
      have hE := Option.some.inj hE
      subst hE
      exact pc R 5 [.as 17 false] [.keep [5] [0]] (And.intro h7 True.intro) (by kernel_rfl) (K1 s4 hK1)

-- loop.example/g03014/laws.has
def laws_has_L1_b (a0 : (List Int)) (a1 : Int) (s1 : Int) : Option (Ctl Int Unit Bool) :=
  bif (decide (s1 < (a0.length : Int))) then
  (gi a0 s1).bind fun v3 =>
  bif (v3 == a1) then
  some (.ret true)
  else
  some (.next (w64 (s1 + 1)))
  else
  some (.brk ())
def laws_has_L1 (a0 : (List Int)) (a1 : Int) (s : Int) : Option (Ctl Int Unit Bool) := laws_has_L1_b a0 a1 s
def laws_has_L1_s (a0 : (List Int)) (a1 : Int) (s1 : Int) : St := ⟨[(0, .o (.c (.rs 1 (a0.map encI)))), (1, .o (.c (.v (.int .i64 a1)))), (5, .o (.c (.v (.int .i64 s1))))], []⟩
def laws_has_L1_S (a0 : (List Int)) (a1 : Int) (s : Int) : St := laws_has_L1_s a0 a1 s
def laws_has_L1_a : Option Bool :=
  some false
def laws_has_L1_k (x : (Unit) ⊕ (Bool)) : Option Bool := match x with
  | .inl t => laws_has_L1_a
  | .inr y => some y
def laws_has (a0 : (List Int)) (a1 : Int) : Option Bool :=
  (loopM (laws_has_L1 a0 a1) big 0).bind (laws_has_L1_k)
theorem laws_has_ok (a0 : (List Int)) (a1 : Int) (r : Bool) (hM : laws_has a0 a1 = some r) :
    Con Try.prog 56 [.c (.rs 1 (a0.map encI)), .c (.v (.int .i64 a1))] [] (.o (.c (.v (.bool r)))) [] [] := by
  unfold laws_has at hM
  refine cn (N := 18) (pids := []) Try_mixed Try.func56 (by kernel_rfl) (by kernel_rfl) (by kernel_rfl) rfl fun ρ g w R => ?_
  have K1 : ∀ (_ : Unit), laws_has_L1_a = some r → Gr R [.code (cAt Try.f56 [1, 1])] (⟨[], []⟩) := by
    intro _ hM
    unfold laws_has_L1_a at hM
    have hE : some false = some r := hM
    have hE := Option.some.inj hE
    subst hE
    exact pr R 9999 [] [] [] [] True.intro (by kernel_rfl)
  refine pc R 9999 [] [.keep [0, 1, 5] []] (k' := [.code (.loop (cAt Try.f56 [1, 0, 1, 0, 0])), .blk 0, .code (cAt Try.f56 [1, 1])]) (S' := laws_has_L1_S a0 a1 0) True.intro (by kernel_rfl) ?_
  refine lq (laws_has_L1_S a0 a1) (body := laws_has_L1 a0 a1) (k := laws_has_L1_k) hM fun m1 s c1 hM hK1 => ?_
  obtain ⟨s1, hs⟩ : ∃ z, z = s := ⟨_, rfl⟩
  subst hs
  have hM : laws_has_L1_b a0 a1 s1 = some c1 := hM
  unfold laws_has_L1_b at hM
  rcases cond_cases hM with ⟨h2, hM⟩ | ⟨h2, hM⟩
  · obtain ⟨v3, h4, hM⟩ := bind_some hM
    rcases cond_cases hM with ⟨h5, hM⟩ | ⟨h5, hM⟩
    · have hE : some (Ctl.ret true) = some c1 := hM
      have hE := Option.some.inj hE
      subst hE
      have hE : some true = some r := hK1
      have hE := Option.some.inj hE
      subst hE
      exact pr R 9999 [.ln (a0.length), .as 9 true, .ix (encI v3), .as 17 true] [] [] [] (And.intro (lenm encI a0) (And.intro h2 (And.intro (gi_map encI h4) (And.intro h5 True.intro)))) (by kernel_rfl)
    · have hE : some (Ctl.next (w64 (s1 + 1))) = some c1 := hM
      have hE := Option.some.inj hE
      subst hE
      exact pc R 9999 [.ln (a0.length), .as 9 true, .ix (encI v3), .as 17 false] [.keep [0, 1, 5] []] (And.intro (lenm encI a0) (And.intro h2 (And.intro (gi_map encI h4) (And.intro h5 True.intro)))) (by kernel_rfl) (li (Sf := laws_has_L1_S a0 a1) (M := Mk (laws_has_L1 a0 a1) (laws_has_L1_k) r) (k := [.blk 0, .code (cAt Try.f56 [1, 1])]) (Nat.lt_succ_self m1) hK1)
  · have hE : some (Ctl.brk ()) = some c1 := hM
    have hE := Option.some.inj hE
    subst hE
    exact pc R 5 [.ln (a0.length), .as 9 false] [.keep [] []] (And.intro (lenm encI a0) (And.intro h2 True.intro)) (by kernel_rfl) (K1 () hK1)

-- loop.example/g03014/impl.DepthOf
def impl_DepthOf (a0 : (List Thing)) (a1 : Int) : Option Int :=
  (impl_isThing a0 a1).bind fun v1 =>
  bif (!v1) then
  some (-1)
  else
  (impl_around a0 a1).bind fun v4 =>
  some (v4.length : Int)
theorem impl_DepthOf_ok (a0 : (List Thing)) (a1 : Int) (r : Int) (hM : impl_DepthOf a0 a1 = some r) :
    Con Try.prog 30 [.c (.rs 6 (a0.map Thing.enc)), .c (.v (.int .i64 a1))] [] (.o (.c (.v (.int .i64 r)))) [] [] := by
  unfold impl_DepthOf at hM
  refine cn (N := 13) (pids := []) Try_mixed Try.func30 (by kernel_rfl) (by kernel_rfl) (by kernel_rfl) rfl fun ρ g w R => ?_
  obtain ⟨v1, h2, hM⟩ := bind_some hM
  rcases cond_cases hM with ⟨h3, hM⟩ | ⟨h3, hM⟩
  · have hE : some (-1) = some r := hM
    have hE := Option.some.inj hE
    subst hE
    exact pr R 9999 [.call false [] (.o (.c (.v (.bool v1)))) [] [], .as 8 true] [] [] [] (And.intro (impl_isThing_ok a0 a1 v1 h2) (And.intro h3 True.intro)) (by kernel_rfl)
  · obtain ⟨v4, h5, hM⟩ := bind_some hM
    have hE : some (v4.length : Int) = some r := hM
    have hE := Option.some.inj hE
    subst hE
    exact pr R 9999 [.call false [] (.o (.c (.v (.bool v1)))) [] [], .as 8 false, .call false [] (.o (.c (.sl 0))) [] [(0, .row 3 1 (v4.map encI))], .ln (v4.length)] [] [] [] (And.intro (impl_isThing_ok a0 a1 v1 h2) (And.intro h3 (And.intro (And.intro (con_sw 1000 0 (impl_around_ok a0 a1 v4 h5)) (rfl : ([] : List Nat) = [])) (And.intro (lenm encI v4) True.intro)))) (by kernel_rfl)

-- loop.example/g03014/impl.OuterOf
def impl_OuterOf (a0 : (List Thing)) (a1 : Int) : Option Int :=
  (impl_isThing a0 a1).bind fun v1 =>
  bif (!v1) then
  some 0
  else
  (impl_around a0 a1).bind fun v4 =>
  bif ((v4.length : Int) == 0) then
  some a1
  else
  (gi v4 (w64 ((v4.length : Int) - 1))).bind fun v7 =>
  some v7
theorem impl_OuterOf_ok (a0 : (List Thing)) (a1 : Int) (r : Int) (hM : impl_OuterOf a0 a1 = some r) :
    Con Try.prog 34 [.c (.rs 6 (a0.map Thing.enc)), .c (.v (.int .i64 a1))] [] (.o (.c (.v (.int .i64 r)))) [] [] := by
  unfold impl_OuterOf at hM
  refine cn (N := 23) (pids := []) Try_mixed Try.func34 (by kernel_rfl) (by kernel_rfl) (by kernel_rfl) rfl fun ρ g w R => ?_
  obtain ⟨v1, h2, hM⟩ := bind_some hM
  rcases cond_cases hM with ⟨h3, hM⟩ | ⟨h3, hM⟩
  · have hE : some 0 = some r := hM
    have hE := Option.some.inj hE
    subst hE
    exact pr R 9999 [.call false [] (.o (.c (.v (.bool v1)))) [] [], .as 9 true] [] [] [] (And.intro (impl_isThing_ok a0 a1 v1 h2) (And.intro h3 True.intro)) (by kernel_rfl)
  · obtain ⟨v4, h5, hM⟩ := bind_some hM
    rcases cond_cases hM with ⟨h6, hM⟩ | ⟨h6, hM⟩
    · have hE : some a1 = some r := hM
      have hE := Option.some.inj hE
      subst hE
      exact pr R 9999 [.call false [] (.o (.c (.v (.bool v1)))) [] [], .as 9 false, .call false [] (.o (.c (.sl 0))) [] [(0, .row 3 1 (v4.map encI))], .ln (v4.length), .as 15 true] [] [] [] (And.intro (impl_isThing_ok a0 a1 v1 h2) (And.intro h3 (And.intro (And.intro (con_sw 1000 0 (impl_around_ok a0 a1 v4 h5)) (rfl : ([] : List Nat) = [])) (And.intro (lenm encI v4) (And.intro h6 True.intro))))) (by kernel_rfl)
    · obtain ⟨v7, h8, hM⟩ := bind_some hM
      have hE : some v7 = some r := hM
      have hE := Option.some.inj hE
      subst hE
      exact pr R 9999 [.call false [] (.o (.c (.v (.bool v1)))) [] [], .as 9 false, .call false [] (.o (.c (.sl 0))) [] [(0, .row 3 1 (v4.map encI))], .ln (v4.length), .as 15 false, .ln (v4.length), .ix (encI v7)] [] [] [] (And.intro (impl_isThing_ok a0 a1 v1 h2) (And.intro h3 (And.intro (And.intro (con_sw 1000 0 (impl_around_ok a0 a1 v4 h5)) (rfl : ([] : List Nat) = [])) (And.intro (lenm encI v4) (And.intro h6 (And.intro (lenm encI v4) (And.intro (gi_lt encI h8) (And.intro ((gi_map encI h8).2) True.intro)))))))) (by kernel_rfl)

-- loop.example/g03014/laws.FnInside
def laws_FnInside_L2_b (v4 : ((List Thing) × Int)) (v6 : (List Int)) (s16 : Int) : Option (Ctl Int Unit Bool) :=
  bif (decide (s16 < (v6.length : Int))) then
  (gi v6 s16).bind fun v18 =>
  (impl_OuterOf v4.1 v18).bind fun v20 =>
  (impl_OuterOf v4.1 v4.2).bind fun v22 =>
  bif (v20 != v22) then
  some (.ret false)
  else
  bif (decide (s16 > 0)) then
  (gi v6 (w64 (s16 - 1))).bind fun v26 =>
  (gi v6 s16).bind fun v28 =>
  bif (decide (v26 ≥ v28)) then
  some (.ret false)
  else
  some (.next (w64 (s16 + 1)))
  else
  some (.next (w64 (s16 + 1)))
  else
  some (.brk ())
def laws_FnInside_L2 (v4 : ((List Thing) × Int)) (v6 : (List Int)) (s : Int) : Option (Ctl Int Unit Bool) := laws_FnInside_L2_b v4 v6 s
def laws_FnInside_L2_s (v4 : ((List Thing) × Int)) (v6 : (List Int)) (s15 : Int) (s16 : Int) : St := ⟨[(3, .o (.c (.sl 0))), (4, .o (.c (.v (.int .i64 v4.2)))), (5, .o (.c (.sl 1))), (7, .o (.c (.v (.int .i64 s15)))), (11, .o (.c (.v (.int .i64 s16))))], [(0, .row 49 6 (v4.1.map Thing.enc)), (1, .row 3 1 (v6.map encI))]⟩
def laws_FnInside_L2_S (v4 : ((List Thing) × Int)) (v6 : (List Int)) (s15 : Int) (s : Int) : St := laws_FnInside_L2_s v4 v6 s15 s
def laws_FnInside_L2_a (v6 : (List Int)) (s15 : Int) : Option Bool :=
  some (s15 == (v6.length : Int))
def laws_FnInside_L2_k (v6 : (List Int)) (s15 : Int) (x : (Unit) ⊕ (Bool)) : Option Bool := match x with
  | .inl t => laws_FnInside_L2_a v6 s15
  | .inr y => some y
def laws_FnInside_L3_b (v6 : (List Int)) (v34 : (List Int)) (s36 : Int) : Option (Ctl Int Unit Bool) :=
  bif (decide (s36 < (v34.length : Int))) then
  (gi v34 s36).bind fun v50 =>
  (laws_has v6 v50).bind fun v52 =>
  bif (!v52) then
  some (.ret false)
  else
  some (.next (w64 (s36 + 1)))
  else
  some (.brk ())
def laws_FnInside_L3 (v6 : (List Int)) (v34 : (List Int)) (s : Int) : Option (Ctl Int Unit Bool) := laws_FnInside_L3_b v6 v34 s
def laws_FnInside_L3_s (v4 : ((List Thing) × Int)) (v6 : (List Int)) (v11 : (List Int)) (s13 : Int) (s14 : Int) (v34 : (List Int)) (s36 : Int) : St := ⟨[(3, .o (.c (.sl 0))), (4, .o (.c (.v (.int .i64 v4.2)))), (5, .o (.c (.sl 1))), (6, .o (.c (.sl 3))), (7, .o (.c (.v (.int .i64 (w64 (s13 + (v34.length : Int))))))), (8, .o (.c (.v (.int .i64 s14)))), (9, .o (.c (.sl 4))), (10, .o (.c (.v (.int .i64 s36))))], [(0, .row 49 6 (v4.1.map Thing.enc)), (1, .row 3 1 (v6.map encI)), (3, .row 3 1 (v11.map encI)), (4, .row 3 1 (v34.map encI))]⟩
def laws_FnInside_L3_S (v4 : ((List Thing) × Int)) (v6 : (List Int)) (v11 : (List Int)) (s13 : Int) (s14 : Int) (v34 : (List Int)) (s : Int) : St := laws_FnInside_L3_s v4 v6 v11 s13 s14 v34 s
def laws_FnInside_L3_a (v4 : ((List Thing) × Int)) (v6 : (List Int)) (v11 : (List Int)) (s13 : Int) (s14 : Int) (v34 : (List Int)) : Option (Ctl (Int × Int) Int Bool) :=
  (gi v11 s14).bind fun v37 =>
  (laws_has v6 v37).bind fun v39 =>
  bif (!v39) then
  some (.ret false)
  else
  (gi v11 s14).bind fun v42 =>
  (impl_DepthOf v4.1 v42).bind fun v44 =>
  (impl_DepthOf v4.1 v4.2).bind fun v46 =>
  bif (v44 != (w64 (v46 + 1))) then
  some (.ret false)
  else
  some (.next (w64 (s13 + (v34.length : Int)), w64 (s14 + 1)))
def laws_FnInside_L3_k (v4 : ((List Thing) × Int)) (v6 : (List Int)) (v11 : (List Int)) (s13 : Int) (s14 : Int) (v34 : (List Int)) (x : (Unit) ⊕ (Bool)) : Option (Ctl (Int × Int) Int Bool) := match x with
  | .inl t => laws_FnInside_L3_a v4 v6 v11 s13 s14 v34
  | .inr y => some (.ret y)
def laws_FnInside_L1_b (v4 : ((List Thing) × Int)) (v6 : (List Int)) (v11 : (List Int)) (s13 : Int) (s14 : Int) : Option (Ctl (Int × Int) Int Bool) :=
  bif (decide (s14 < (v11.length : Int))) then
  (gi v11 s14).bind fun v32 =>
  (impl_AllInside v4.1 v32).bind fun v34 =>
  (loopM (laws_FnInside_L3 v6 v34) big 0).bind (laws_FnInside_L3_k v4 v6 v11 s13 s14 v34)
  else
  some (.brk s13)
def laws_FnInside_L1 (v4 : ((List Thing) × Int)) (v6 : (List Int)) (v11 : (List Int)) (s : Int × Int) : Option (Ctl (Int × Int) Int Bool) := laws_FnInside_L1_b v4 v6 v11 s.1 s.2
def laws_FnInside_L1_s (v4 : ((List Thing) × Int)) (v6 : (List Int)) (v11 : (List Int)) (s13 : Int) (s14 : Int) : St := ⟨[(3, .o (.c (.sl 0))), (4, .o (.c (.v (.int .i64 v4.2)))), (5, .o (.c (.sl 1))), (6, .o (.c (.sl 3))), (7, .o (.c (.v (.int .i64 s13)))), (8, .o (.c (.v (.int .i64 s14))))], [(0, .row 49 6 (v4.1.map Thing.enc)), (1, .row 3 1 (v6.map encI)), (3, .row 3 1 (v11.map encI))]⟩
def laws_FnInside_L1_S (v4 : ((List Thing) × Int)) (v6 : (List Int)) (v11 : (List Int)) (s : Int × Int) : St := laws_FnInside_L1_s v4 v6 v11 s.1 s.2
def laws_FnInside_L1_a (v4 : ((List Thing) × Int)) (v6 : (List Int)) (s15 : Int) : Option Bool :=
  (loopM (laws_FnInside_L2 v4 v6) big 0).bind (laws_FnInside_L2_k v6 s15)
def laws_FnInside_L1_k (v4 : ((List Thing) × Int)) (v6 : (List Int)) (x : (Int) ⊕ (Bool)) : Option Bool := match x with
  | .inl t => laws_FnInside_L1_a v4 v6 t
  | .inr y => some y
def laws_FnInside (a0 : (List Int)) : Option Bool :=
  (laws_big a0).bind fun v1 =>
  bif v1 then
  some true
  else
  (spec_DrawAllInside a0).bind fun v4 =>
  (impl_AllInside v4.1 v4.2).bind fun v6 =>
  (spec_AllInside v4.1 v4.2).bind fun v8 =>
  bif ((v6.length : Int) != (v8.length : Int)) then
  some false
  else
  (impl_InsideOf v4.1 v4.2).bind fun v11 =>
  (loopM (laws_FnInside_L1 v4 v6 v11) big ((v11.length : Int), 0)).bind (laws_FnInside_L1_k v4 v6)
theorem laws_FnInside_ok (a0 : (List Int)) (r : Bool) (hM : laws_FnInside a0 = some r) :
    Con Try.prog 15 [.c (.rs 1 (a0.map encU8))] [] (.o (.c (.v (.bool r)))) [] [] := by
  unfold laws_FnInside at hM
  refine cn (N := 119) (pids := []) Try_mixed Try.func15 (by kernel_rfl) (by kernel_rfl) (by kernel_rfl) rfl fun ρ g w R => ?_
  obtain ⟨v1, h2, hM⟩ := bind_some hM
  rcases cond_cases hM with ⟨h3, hM⟩ | ⟨h3, hM⟩
  · have hE : some true = some r := hM
    have hE := Option.some.inj hE
    subst hE
    exact pr R 9999 [.call false [] (.o (.c (.v (.bool v1)))) [] [], .as 13 true] [] [] [] (And.intro (laws_big_ok a0 v1 h2) (And.intro h3 True.intro)) (by kernel_rfl)
  · obtain ⟨v4, h5, hM⟩ := bind_some hM
    obtain ⟨v6, h7, hM⟩ := bind_some hM
    obtain ⟨v8, h9, hM⟩ := bind_some hM
    rcases cond_cases hM with ⟨h10, hM⟩ | ⟨h10, hM⟩
    · have hE : some false = some r := hM
      have hE := Option.some.inj hE
      subst hE
      exact pr R 9999 [.call false [] (.o (.c (.v (.bool v1)))) [] [], .as 13 false, .call false [] (.tup [.c (.sl 0), .c (.v (.int .i64 v4.2))]) [] [(0, .row 49 6 (v4.1.map Thing.enc))], .call false [] (.o (.c (.sl 1))) [] [(1, .row 3 1 (v6.map encI))], .ln (v6.length), .call false [] (.o (.c (.sl 2))) [] [(2, .row 3 1 (v8.map encI))], .ln (v8.length), .as 28 true] [] [] [] (And.intro (laws_big_ok a0 v1 h2) (And.intro h3 (And.intro (And.intro (con_sw 1000 0 (spec_DrawAllInside_ok a0 v4 h5)) (rfl : ([] : List Nat) = [])) (And.intro (And.intro (con_sw 1000 1 (impl_AllInside_ok v4.1 v4.2 v6 h7)) (rfl : ([] : List Nat) = [])) (And.intro (lenm encI v6) (And.intro (And.intro (con_sw 1000 2 (spec_AllInside_ok v4.1 v4.2 v8 h9)) (rfl : ([] : List Nat) = [])) (And.intro (lenm encI v8) (And.intro h10 True.intro)))))))) (by kernel_rfl)
    · obtain ⟨v11, h12, hM⟩ := bind_some hM
      have K1 : ∀ (s15 : Int), laws_FnInside_L1_a v4 v6 s15 = some r → Gr R [.code (cAt Try.f15 [1, 1, 1, 1, 1, 1, 1, 1])] (⟨[(3, .o (.c (.sl 0))), (4, .o (.c (.v (.int .i64 v4.2)))), (5, .o (.c (.sl 1))), (7, .o (.c (.v (.int .i64 s15))))], [(0, .row 49 6 (v4.1.map Thing.enc)), (1, .row 3 1 (v6.map encI))]⟩) := by
        intro s15 hM
        unfold laws_FnInside_L1_a at hM
        have K2 : ∀ (_ : Unit), laws_FnInside_L2_a v6 s15 = some r → Gr R [.code (cAt Try.f15 [1, 1, 1, 1, 1, 1, 1, 1, 1])] (⟨[(5, .o (.c (.sl 1))), (7, .o (.c (.v (.int .i64 s15))))], [(1, .row 3 1 (v6.map encI))]⟩) := by
          intro _ hM
          unfold laws_FnInside_L2_a at hM
          have hE : some (s15 == (v6.length : Int)) = some r := hM
          have hE := Option.some.inj hE
          subst hE
          exact pr R 9999 [.ln (v6.length)] [] [] [] (And.intro (lenm encI v6) True.intro) (by kernel_rfl)
        refine pc R 9999 [] [.keep [3, 4, 5, 7, 11] [0, 1]] (k' := [.code (.loop (cAt Try.f15 [1, 1, 1, 1, 1, 1, 1, 1, 0, 1, 0, 0])), .blk 4, .code (cAt Try.f15 [1, 1, 1, 1, 1, 1, 1, 1, 1])]) (S' := laws_FnInside_L2_S v4 v6 s15 0) True.intro (by kernel_rfl) ?_
        refine lq (laws_FnInside_L2_S v4 v6 s15) (body := laws_FnInside_L2 v4 v6) (k := laws_FnInside_L2_k v6 s15) hM fun m2 s c2 hM hK2 => ?_
        obtain ⟨s16, hs⟩ : ∃ z, z = s := ⟨_, rfl⟩
        subst hs
        have hM : laws_FnInside_L2_b v4 v6 s16 = some c2 := hM
        unfold laws_FnInside_L2_b at hM
        rcases cond_cases hM with ⟨h17, hM⟩ | ⟨h17, hM⟩
        · obtain ⟨v18, h19, hM⟩ := bind_some hM
          obtain ⟨v20, h21, hM⟩ := bind_some hM
          obtain ⟨v22, h23, hM⟩ := bind_some hM
          rcases cond_cases hM with ⟨h24, hM⟩ | ⟨h24, hM⟩
          · have hE : some (Ctl.ret false) = some c2 := hM
            have hE := Option.some.inj hE
            subst hE
            have hE : some false = some r := hK2
            have hE := Option.some.inj hE
            subst hE
            exact pr R 9999 [.ln (v6.length), .as 86 true, .ix (encI v18), .call false [] (.o (.c (.v (.int .i64 v20)))) [] [], .call false [] (.o (.c (.v (.int .i64 v22)))) [] [], .as 99 true] [] [] [] (And.intro (lenm encI v6) (And.intro h17 (And.intro (gi_lt encI h19) (And.intro ((gi_map encI h19).2) (And.intro (impl_OuterOf_ok v4.1 v18 v20 h21) (And.intro (impl_OuterOf_ok v4.1 v4.2 v22 h23) (And.intro h24 True.intro))))))) (by kernel_rfl)
          · rcases cond_cases hM with ⟨h25, hM⟩ | ⟨h25, hM⟩
            · obtain ⟨v26, h27, hM⟩ := bind_some hM
              obtain ⟨v28, h29, hM⟩ := bind_some hM
              rcases cond_cases hM with ⟨h30, hM⟩ | ⟨h30, hM⟩
              · have hE : some (Ctl.ret false) = some c2 := hM
                have hE := Option.some.inj hE
                subst hE
                have hE : some false = some r := hK2
                have hE := Option.some.inj hE
                subst hE
                exact pr R 9999 [.ln (v6.length), .as 86 true, .ix (encI v18), .call false [] (.o (.c (.v (.int .i64 v20)))) [] [], .call false [] (.o (.c (.v (.int .i64 v22)))) [] [], .as 99 false, .as 102 true, .ix (encI v26), .ix (encI v28), .as 114 true] [] [] [] (And.intro (lenm encI v6) (And.intro h17 (And.intro (gi_lt encI h19) (And.intro ((gi_map encI h19).2) (And.intro (impl_OuterOf_ok v4.1 v18 v20 h21) (And.intro (impl_OuterOf_ok v4.1 v4.2 v22 h23) (And.intro h24 (And.intro h25 (And.intro (gi_lt encI h27) (And.intro ((gi_map encI h27).2) (And.intro (gi_lt encI h29) (And.intro ((gi_map encI h29).2) (And.intro h30 True.intro))))))))))))) (by kernel_rfl)
              · have hE : some (Ctl.next (w64 (s16 + 1))) = some c2 := hM
                have hE := Option.some.inj hE
                subst hE
                exact pc R 9999 [.ln (v6.length), .as 86 true, .ix (encI v18), .call false [] (.o (.c (.v (.int .i64 v20)))) [] [], .call false [] (.o (.c (.v (.int .i64 v22)))) [] [], .as 99 false, .as 102 true, .ix (encI v26), .ix (encI v28), .as 114 false] [.keep [3, 4, 5, 7, 11] [0, 1]] (And.intro (lenm encI v6) (And.intro h17 (And.intro (gi_lt encI h19) (And.intro ((gi_map encI h19).2) (And.intro (impl_OuterOf_ok v4.1 v18 v20 h21) (And.intro (impl_OuterOf_ok v4.1 v4.2 v22 h23) (And.intro h24 (And.intro h25 (And.intro (gi_lt encI h27) (And.intro ((gi_map encI h27).2) (And.intro (gi_lt encI h29) (And.intro ((gi_map encI h29).2) (And.intro h30 True.intro))))))))))))) (by kernel_rfl) (li (Sf := laws_FnInside_L2_S v4 v6 s15) (M := Mk (laws_FnInside_L2 v4 v6) (laws_FnInside_L2_k v6 s15) r) (k := [.blk 4, .code (cAt Try.f15 [1, 1, 1, 1, 1, 1, 1, 1, 1])]) (Nat.lt_succ_self m2) hK2)
            · have hE : some (Ctl.next (w64 (s16 + 1))) = some c2 := hM
              have hE := Option.some.inj hE
              subst hE
              exact pc R 9999 [.ln (v6.length), .as 86 true, .ix (encI v18), .call false [] (.o (.c (.v (.int .i64 v20)))) [] [], .call false [] (.o (.c (.v (.int .i64 v22)))) [] [], .as 99 false, .as 102 false] [.keep [3, 4, 5, 7, 11] [0, 1]] (And.intro (lenm encI v6) (And.intro h17 (And.intro (gi_lt encI h19) (And.intro ((gi_map encI h19).2) (And.intro (impl_OuterOf_ok v4.1 v18 v20 h21) (And.intro (impl_OuterOf_ok v4.1 v4.2 v22 h23) (And.intro h24 (And.intro h25 True.intro)))))))) (by kernel_rfl) (li (Sf := laws_FnInside_L2_S v4 v6 s15) (M := Mk (laws_FnInside_L2 v4 v6) (laws_FnInside_L2_k v6 s15) r) (k := [.blk 4, .code (cAt Try.f15 [1, 1, 1, 1, 1, 1, 1, 1, 1])]) (Nat.lt_succ_self m2) hK2)
        · have hE : some (Ctl.brk ()) = some c2 := hM
          have hE := Option.some.inj hE
          subst hE
          exact pc R 5 [.ln (v6.length), .as 86 false] [.keep [5, 7] [1]] (And.intro (lenm encI v6) (And.intro h17 True.intro)) (by kernel_rfl) (K2 () hK2)
      refine pc R 9999 [.call false [] (.o (.c (.v (.bool v1)))) [] [], .as 13 false, .call false [] (.tup [.c (.sl 0), .c (.v (.int .i64 v4.2))]) [] [(0, .row 49 6 (v4.1.map Thing.enc))], .call false [] (.o (.c (.sl 1))) [] [(1, .row 3 1 (v6.map encI))], .ln (v6.length), .call false [] (.o (.c (.sl 2))) [] [(2, .row 3 1 (v8.map encI))], .ln (v8.length), .as 28 false, .call false [] (.o (.c (.sl 3))) [] [(3, .row 3 1 (v11.map encI))], .ln (v11.length)] [.keep [3, 4, 5, 6, 7, 8] [0, 1, 3]] (k' := [.code (.loop (cAt Try.f15 [1, 1, 1, 1, 1, 1, 1, 0, 1, 0, 0])), .blk 0, .code (cAt Try.f15 [1, 1, 1, 1, 1, 1, 1, 1])]) (S' := laws_FnInside_L1_S v4 v6 v11 ((v11.length : Int), 0)) (And.intro (laws_big_ok a0 v1 h2) (And.intro h3 (And.intro (And.intro (con_sw 1000 0 (spec_DrawAllInside_ok a0 v4 h5)) (rfl : ([] : List Nat) = [])) (And.intro (And.intro (con_sw 1000 1 (impl_AllInside_ok v4.1 v4.2 v6 h7)) (rfl : ([] : List Nat) = [])) (And.intro (lenm encI v6) (And.intro (And.intro (con_sw 1000 2 (spec_AllInside_ok v4.1 v4.2 v8 h9)) (rfl : ([] : List Nat) = [])) (And.intro (lenm encI v8) (And.intro h10 (And.intro (And.intro (con_sw 1000 3 (impl_InsideOf_ok v4.1 v4.2 v11 h12)) (rfl : ([] : List Nat) = [])) (And.intro (lenm encI v11) True.intro)))))))))) (by kernel_rfl) ?_
      refine lq (laws_FnInside_L1_S v4 v6 v11) (body := laws_FnInside_L1 v4 v6 v11) (k := laws_FnInside_L1_k v4 v6) hM fun m1 s c1 hM hK1 => ?_
      obtain ⟨s13, s14⟩ := s
      have hM : laws_FnInside_L1_b v4 v6 v11 s13 s14 = some c1 := hM
      unfold laws_FnInside_L1_b at hM
      rcases cond_cases hM with ⟨h31, hM⟩ | ⟨h31, hM⟩
      · obtain ⟨v32, h33, hM⟩ := bind_some hM
        obtain ⟨v34, h35, hM⟩ := bind_some hM
        have K3 : ∀ (_ : Unit), laws_FnInside_L3_a v4 v6 v11 s13 s14 v34 = some c1 → Gr R [.code (cAt Try.f15 [1, 1, 1, 1, 1, 1, 1, 0, 1, 0, 0, 1, 0, 0, 1, 1, 1]), .blk 1, .code (cAt Try.f15 [1, 1, 1, 1, 1, 1, 1, 0, 1, 0, 0, 1, 1]), .inv (Jr R (laws_FnInside_L1_S v4 v6 v11) (Mk (laws_FnInside_L1 v4 v6 v11) (laws_FnInside_L1_k v4 v6) r) (m1 + 1)), .blk 0, .code (cAt Try.f15 [1, 1, 1, 1, 1, 1, 1, 1])] (⟨[(3, .o (.c (.sl 0))), (4, .o (.c (.v (.int .i64 v4.2)))), (5, .o (.c (.sl 1))), (6, .o (.c (.sl 3))), (7, .o (.c (.v (.int .i64 (w64 (s13 + (v34.length : Int))))))), (8, .o (.c (.v (.int .i64 s14))))], [(0, .row 49 6 (v4.1.map Thing.enc)), (1, .row 3 1 (v6.map encI)), (3, .row 3 1 (v11.map encI))]⟩) := by
          intro _ hM
          unfold laws_FnInside_L3_a at hM
          obtain ⟨v37, h38, hM⟩ := bind_some hM
          obtain ⟨v39, h40, hM⟩ := bind_some hM
          rcases cond_cases hM with ⟨h41, hM⟩ | ⟨h41, hM⟩
          · have hE : some (Ctl.ret false) = some c1 := hM
            have hE := Option.some.inj hE
            subst hE
            have hE : some false = some r := hK1
            have hE := Option.some.inj hE
            subst hE
            exact pr R 9999 [.ix (encI v37), .call false [] (.o (.c (.v (.bool v39)))) [] [], .as 70 true] [] [] [] (And.intro (gi_lt encI h38) (And.intro ((gi_map encI h38).2) (And.intro (laws_has_ok v6 v37 v39 h40) (And.intro h41 True.intro)))) (by kernel_rfl)
          · obtain ⟨v42, h43, hM⟩ := bind_some hM
            obtain ⟨v44, h45, hM⟩ := bind_some hM
            obtain ⟨v46, h47, hM⟩ := bind_some hM
            rcases cond_cases hM with ⟨h48, hM⟩ | ⟨h48, hM⟩
            · have hE : some (Ctl.ret false) = some c1 := hM
              have hE := Option.some.inj hE
              subst hE
              have hE : some false = some r := hK1
              have hE := Option.some.inj hE
              subst hE
              exact pr R 9999 [.ix (encI v37), .call false [] (.o (.c (.v (.bool v39)))) [] [], .as 70 false, .ix (encI v42), .call false [] (.o (.c (.v (.int .i64 v44)))) [] [], .call false [] (.o (.c (.v (.int .i64 v46)))) [] [], .as 82 true] [] [] [] (And.intro (gi_lt encI h38) (And.intro ((gi_map encI h38).2) (And.intro (laws_has_ok v6 v37 v39 h40) (And.intro h41 (And.intro (gi_lt encI h43) (And.intro ((gi_map encI h43).2) (And.intro (impl_DepthOf_ok v4.1 v42 v44 h45) (And.intro (impl_DepthOf_ok v4.1 v4.2 v46 h47) (And.intro h48 True.intro))))))))) (by kernel_rfl)
            · have hE : some (Ctl.next (w64 (s13 + (v34.length : Int)), w64 (s14 + 1))) = some c1 := hM
              have hE := Option.some.inj hE
              subst hE
              exact pc R 9999 [.ix (encI v37), .call false [] (.o (.c (.v (.bool v39)))) [] [], .as 70 false, .ix (encI v42), .call false [] (.o (.c (.v (.int .i64 v44)))) [] [], .call false [] (.o (.c (.v (.int .i64 v46)))) [] [], .as 82 false] [.keep [3, 4, 5, 6, 7, 8] [0, 1, 3]] (And.intro (gi_lt encI h38) (And.intro ((gi_map encI h38).2) (And.intro (laws_has_ok v6 v37 v39 h40) (And.intro h41 (And.intro (gi_lt encI h43) (And.intro ((gi_map encI h43).2) (And.intro (impl_DepthOf_ok v4.1 v42 v44 h45) (And.intro (impl_DepthOf_ok v4.1 v4.2 v46 h47) (And.intro h48 True.intro))))))))) (by kernel_rfl) (li (Sf := laws_FnInside_L1_S v4 v6 v11) (M := Mk (laws_FnInside_L1 v4 v6 v11) (laws_FnInside_L1_k v4 v6) r) (k := [.blk 0, .code (cAt Try.f15 [1, 1, 1, 1, 1, 1, 1, 1])]) (Nat.lt_succ_self m1) hK1)
        refine pc R 9999 [.ln (v11.length), .as 37 true, .ix (encI v32), .call false [] (.o (.c (.sl 4))) [] [(4, .row 3 1 (v34.map encI))], .ln (v34.length)] [.keep [3, 4, 5, 6, 7, 8, 9, 10] [0, 1, 3, 4]] (k' := [.code (.loop (cAt Try.f15 [1, 1, 1, 1, 1, 1, 1, 0, 1, 0, 0, 1, 0, 0, 1, 1, 0, 1, 0, 0])), .blk 2, .code (cAt Try.f15 [1, 1, 1, 1, 1, 1, 1, 0, 1, 0, 0, 1, 0, 0, 1, 1, 1]), .blk 1, .code (cAt Try.f15 [1, 1, 1, 1, 1, 1, 1, 0, 1, 0, 0, 1, 1]), .inv (Jr R (laws_FnInside_L1_S v4 v6 v11) (Mk (laws_FnInside_L1 v4 v6 v11) (laws_FnInside_L1_k v4 v6) r) (m1 + 1)), .blk 0, .code (cAt Try.f15 [1, 1, 1, 1, 1, 1, 1, 1])]) (S' := laws_FnInside_L3_S v4 v6 v11 s13 s14 v34 0) (And.intro (lenm encI v11) (And.intro h31 (And.intro (gi_lt encI h33) (And.intro ((gi_map encI h33).2) (And.intro (And.intro (con_sw 1000 4 (impl_AllInside_ok v4.1 v32 v34 h35)) (rfl : ([] : List Nat) = [])) (And.intro (lenm encI v34) True.intro)))))) (by kernel_rfl) ?_
        refine lq (laws_FnInside_L3_S v4 v6 v11 s13 s14 v34) (body := laws_FnInside_L3 v6 v34) (k := laws_FnInside_L3_k v4 v6 v11 s13 s14 v34) hM fun m3 s c3 hM hK3 => ?_
        obtain ⟨s36, hs⟩ : ∃ z, z = s := ⟨_, rfl⟩
        subst hs
        have hM : laws_FnInside_L3_b v6 v34 s36 = some c3 := hM
        unfold laws_FnInside_L3_b at hM
        rcases cond_cases hM with ⟨h49, hM⟩ | ⟨h49, hM⟩
        · obtain ⟨v50, h51, hM⟩ := bind_some hM
          obtain ⟨v52, h53, hM⟩ := bind_some hM
          rcases cond_cases hM with ⟨h54, hM⟩ | ⟨h54, hM⟩
          · have hE : some (Ctl.ret false) = some c3 := hM
            have hE := Option.some.inj hE
            subst hE
            have hE : some (Ctl.ret false) = some c1 := hK3
            have hE := Option.some.inj hE
            subst hE
            have hE : some false = some r := hK1
            have hE := Option.some.inj hE
            subst hE
            exact pr R 9999 [.ln (v34.length), .as 53 true, .ix (encI v50), .call false [] (.o (.c (.v (.bool v52)))) [] [], .as 62 true] [] [] [] (And.intro (lenm encI v34) (And.intro h49 (And.intro (gi_lt encI h51) (And.intro ((gi_map encI h51).2) (And.intro (laws_has_ok v6 v50 v52 h53) (And.intro h54 True.intro)))))) (by kernel_rfl)
          · have hE : some (Ctl.next (w64 (s36 + 1))) = some c3 := hM
            have hE := Option.some.inj hE
            subst hE
            exact pc R 9999 [.ln (v34.length), .as 53 true, .ix (encI v50), .call false [] (.o (.c (.v (.bool v52)))) [] [], .as 62 false] [.keep [3, 4, 5, 6, 7, 8, 9, 10] [0, 1, 3, 4]] (And.intro (lenm encI v34) (And.intro h49 (And.intro (gi_lt encI h51) (And.intro ((gi_map encI h51).2) (And.intro (laws_has_ok v6 v50 v52 h53) (And.intro h54 True.intro)))))) (by kernel_rfl) (li (Sf := laws_FnInside_L3_S v4 v6 v11 s13 s14 v34) (M := Mk (laws_FnInside_L3 v6 v34) (laws_FnInside_L3_k v4 v6 v11 s13 s14 v34) c1) (k := [.blk 2, .code (cAt Try.f15 [1, 1, 1, 1, 1, 1, 1, 0, 1, 0, 0, 1, 0, 0, 1, 1, 1]), .blk 1, .code (cAt Try.f15 [1, 1, 1, 1, 1, 1, 1, 0, 1, 0, 0, 1, 1]), .inv (Jr R (laws_FnInside_L1_S v4 v6 v11) (Mk (laws_FnInside_L1 v4 v6 v11) (laws_FnInside_L1_k v4 v6) r) (m1 + 1)), .blk 0, .code (cAt Try.f15 [1, 1, 1, 1, 1, 1, 1, 1])]) (Nat.lt_succ_self m3) hK3)
        · have hE : some (Ctl.brk ()) = some c3 := hM
          have hE := Option.some.inj hE
          subst hE
          exact pc R 5 [.ln (v34.length), .as 53 false] [.keep [3, 4, 5, 6, 7, 8] [0, 1, 3]] (And.intro (lenm encI v34) (And.intro h49 True.intro)) (by kernel_rfl) (K3 () hK3)
      · have hE : some (Ctl.brk s13) = some c1 := hM
        have hE := Option.some.inj hE
        subst hE
        exact pc R 5 [.ln (v11.length), .as 37 false] [.keep [3, 4, 5, 7] [0, 1]] (And.intro (lenm encI v11) (And.intro h31 True.intro)) (by kernel_rfl) (K1 s13 hK1)

-- loop.example/g03014/spec.DrawEmptyBox
def spec_DrawEmptyBox (a0 : (List Int)) : Option ((List Thing) × Int) :=
  (spec_DrawFindThing a0).bind fun v1 =>
  some (v1.1, v1.2)
theorem spec_DrawEmptyBox_ok (a0 : (List Int)) (r : (List Thing) × Int) (hM : spec_DrawEmptyBox a0 = some r) :
    Con Try.prog 57 [.c (.rs 1 (a0.map encU8))] [] (.tup [.c (.sl 1000), .c (.v (.int .i64 r.2))]) [] [(1000, .row 49 6 (r.1.map Thing.enc))] := by
  unfold spec_DrawEmptyBox at hM
  refine cn (N := 8) (pids := []) Try_mixed Try.func57 (by kernel_rfl) (by kernel_rfl) (by kernel_rfl) rfl fun ρ g w R => ?_
  obtain ⟨v1, h2, hM⟩ := bind_some hM
  have hE : some (v1.1, v1.2) = some r := hM
  have hE := Option.some.inj hE
  subst hE
  exact pr R 9999 [.call false [] (.tup [.c (.sl 0), .c (.v (.int .i64 v1.2))]) [] [(0, .row 49 6 (v1.1.map Thing.enc))]] [.sw 0 1000] [] [1000] (And.intro (And.intro (con_sw 1000 0 (spec_DrawFindThing_ok a0 v1 h2)) (rfl : ([] : List Nat) = [])) True.intro) (by kernel_rfl)

-- loop.example/g03014/impl.copyThings
def impl_copyThings (a0 : (List Thing)) : Option (List Thing) :=
  (ap 40 ([] : List Thing) a0).bind fun v1 =>
  some v1
theorem impl_copyThings_ok (a0 : (List Thing)) (r : (List Thing)) (hM : impl_copyThings a0 = some r) :
    Con Try.prog 79 [.c (.rs 6 (a0.map Thing.enc))] [] (.o (.c (.sl 1000))) [] [(1000, .row 49 6 (r.map Thing.enc))] := by
  unfold impl_copyThings at hM
  refine cn (N := 6) (pids := []) Try_mixed Try.func79 (by kernel_rfl) (by kernel_rfl) (by kernel_rfl) rfl fun ρ g w R => ?_
  obtain ⟨v1, h2, hM⟩ := bind_some hM
  have hE : some v1 = some r := hM
  have hE := Option.some.inj hE
  subst hE
  exact pr R 9999 [.new 0, .new 1, .nm (v1.map Thing.enc)] [.sw 1 1000] [] [1000] (And.intro (ap_ok Thing.enc h2) True.intro) (by kernel_rfl)

-- loop.example/g03014/impl.IsLocked
def impl_IsLocked_L1_b (a0 : (List Thing)) (v4 : (List Int)) (s6 : Int) : Option (Ctl Int Unit Bool) :=
  bif (decide (s6 < (v4.length : Int))) then
  (gi v4 s6).bind fun v8 =>
  (impl_FindThing a0 v8).bind fun v10 =>
  (gi a0 v10).bind fun v12 =>
  bif v12.Sealed then
  some (.ret true)
  else
  some (.next (w64 (s6 + 1)))
  else
  some (.brk ())
def impl_IsLocked_L1 (a0 : (List Thing)) (v4 : (List Int)) (s : Int) : Option (Ctl Int Unit Bool) := impl_IsLocked_L1_b a0 v4 s
def impl_IsLocked_L1_s (a0 : (List Thing)) (v4 : (List Int)) (s6 : Int) : St := ⟨[(0, .o (.c (.rs 6 (a0.map Thing.enc)))), (12, .o (.c (.sl 0))), (13, .o (.c (.v (.int .i64 (v4.length : Int))))), (14, .o (.c (.v (.int .i64 s6))))], [(0, .row 3 1 (v4.map encI))]⟩
def impl_IsLocked_L1_S (a0 : (List Thing)) (v4 : (List Int)) (s : Int) : St := impl_IsLocked_L1_s a0 v4 s
def impl_IsLocked_L1_a : Option Bool :=
  some false
def impl_IsLocked_L1_k (x : (Unit) ⊕ (Bool)) : Option Bool := match x with
  | .inl t => impl_IsLocked_L1_a
  | .inr y => some y
def impl_IsLocked (a0 : (List Thing)) (a1 : Int) : Option Bool :=
  (impl_AreThings a0).bind fun v1 =>
  bif (!v1) then
  some false
  else
  (impl_around a0 a1).bind fun v4 =>
  (loopM (impl_IsLocked_L1 a0 v4) big 0).bind (impl_IsLocked_L1_k)
theorem impl_IsLocked_ok (a0 : (List Thing)) (a1 : Int) (r : Bool) (hM : impl_IsLocked a0 a1 = some r) :
    Con Try.prog 36 [.c (.rs 6 (a0.map Thing.enc)), .c (.v (.int .i64 a1))] [] (.o (.c (.v (.bool r)))) [] [] := by
  unfold impl_IsLocked at hM
  refine cn (N := 26) (pids := []) Try_mixed Try.func36 (by kernel_rfl) (by kernel_rfl) (by kernel_rfl) rfl fun ρ g w R => ?_
  obtain ⟨v1, h2, hM⟩ := bind_some hM
  rcases cond_cases hM with ⟨h3, hM⟩ | ⟨h3, hM⟩
  · have hE : some false = some r := hM
    have hE := Option.some.inj hE
    subst hE
    exact pr R 9999 [.call false [] (.o (.c (.v (.bool v1)))) [] [], .as 9 true] [] [] [] (And.intro (impl_AreThings_ok a0 v1 h2) (And.intro h3 True.intro)) (by kernel_rfl)
  · obtain ⟨v4, h5, hM⟩ := bind_some hM
    have K1 : ∀ (_ : Unit), impl_IsLocked_L1_a = some r → Gr R [.code (cAt Try.f36 [1, 1, 1])] (⟨[], []⟩) := by
      intro _ hM
      unfold impl_IsLocked_L1_a at hM
      have hE : some false = some r := hM
      have hE := Option.some.inj hE
      subst hE
      exact pr R 9999 [] [] [] [] True.intro (by kernel_rfl)
    refine pc R 9999 [.call false [] (.o (.c (.v (.bool v1)))) [] [], .as 9 false, .call false [] (.o (.c (.sl 0))) [] [(0, .row 3 1 (v4.map encI))], .ln (v4.length)] [.keep [0, 12, 13, 14] [0]] (k' := [.code (.loop (cAt Try.f36 [1, 1, 0, 1, 0, 0])), .blk 0, .code (cAt Try.f36 [1, 1, 1])]) (S' := impl_IsLocked_L1_S a0 v4 0) (And.intro (impl_AreThings_ok a0 v1 h2) (And.intro h3 (And.intro (And.intro (con_sw 1000 0 (impl_around_ok a0 a1 v4 h5)) (rfl : ([] : List Nat) = [])) (And.intro (lenm encI v4) True.intro)))) (by kernel_rfl) ?_
    refine lq (impl_IsLocked_L1_S a0 v4) (body := impl_IsLocked_L1 a0 v4) (k := impl_IsLocked_L1_k) hM fun m1 s c1 hM hK1 => ?_
    obtain ⟨s6, hs⟩ : ∃ z, z = s := ⟨_, rfl⟩
    subst hs
    have hM : impl_IsLocked_L1_b a0 v4 s6 = some c1 := hM
    unfold impl_IsLocked_L1_b at hM
    rcases cond_cases hM with ⟨h7, hM⟩ | ⟨h7, hM⟩
    · obtain ⟨v8, h9, hM⟩ := bind_some hM
      obtain ⟨v10, h11, hM⟩ := bind_some hM
      obtain ⟨v12, h13, hM⟩ := bind_some hM
      rcases cond_cases hM with ⟨h14, hM⟩ | ⟨h14, hM⟩
      · have hE : some (Ctl.ret true) = some c1 := hM
        have hE := Option.some.inj hE
        subst hE
        have hE : some true = some r := hK1
        have hE := Option.some.inj hE
        subst hE
        exact pr R 9999 [.as 15 true, .ix (encI v8), .call false [] (.o (.c (.v (.int .i64 v10)))) [] [], .ix (Thing.enc v12), .as 24 true] [] [] [] (And.intro h7 (And.intro (gi_lt encI h9) (And.intro ((gi_map encI h9).2) (And.intro (impl_FindThing_ok a0 v8 v10 h11) (And.intro (gi_map Thing.enc h13) (And.intro h14 True.intro)))))) (by kernel_rfl)
      · have hE : some (Ctl.next (w64 (s6 + 1))) = some c1 := hM
        have hE := Option.some.inj hE
        subst hE
        exact pc R 9999 [.as 15 true, .ix (encI v8), .call false [] (.o (.c (.v (.int .i64 v10)))) [] [], .ix (Thing.enc v12), .as 24 false] [.keep [0, 12, 13, 14] [0]] (And.intro h7 (And.intro (gi_lt encI h9) (And.intro ((gi_map encI h9).2) (And.intro (impl_FindThing_ok a0 v8 v10 h11) (And.intro (gi_map Thing.enc h13) (And.intro h14 True.intro)))))) (by kernel_rfl) (li (Sf := impl_IsLocked_L1_S a0 v4) (M := Mk (impl_IsLocked_L1 a0 v4) (impl_IsLocked_L1_k) r) (k := [.blk 0, .code (cAt Try.f36 [1, 1, 1])]) (Nat.lt_succ_self m1) hK1)
    · have hE : some (Ctl.brk ()) = some c1 := hM
      have hE := Option.some.inj hE
      subst hE
      exact pc R 5 [.as 15 false] [.keep [] []] (And.intro h7 True.intro) (by kernel_rfl) (K1 () hK1)

-- loop.example/g03014/impl.EmptyBox
def impl_EmptyBox_L1_b (a0 : (List Thing)) (a1 : Int) (v1 : (List Thing)) (v9 : Int) (s17 : (List Thing)) (s18 : Int) : Option (Ctl ((List Thing) × Int) (List Thing) ((List Thing) × Int)) :=
  bif (decide (s18 < (v1.length : Int))) then
  (gi s17 s18).bind fun v21 =>
  bif (v21.In == a1) then
  (gi a0 v9).bind fun v24 =>
  (gi s17 s18).bind fun v26 =>
  some (.next (List.set s17 (Int.toNat s18) (Thing.mk v26.Id v26.Own v26.Room v24.In v26.Box v26.Sealed), w64 (s18 + 1)))
  else
  some (.next (s17, w64 (s18 + 1)))
  else
  some (.brk s17)
def impl_EmptyBox_L1 (a0 : (List Thing)) (a1 : Int) (v1 : (List Thing)) (v9 : Int) (s : (List Thing) × Int) : Option (Ctl ((List Thing) × Int) (List Thing) ((List Thing) × Int)) := impl_EmptyBox_L1_b a0 a1 v1 v9 s.1 s.2
def impl_EmptyBox_L1_s (a0 : (List Thing)) (a1 : Int) (v1 : (List Thing)) (v9 : Int) (s17 : (List Thing)) (s18 : Int) : St := ⟨[(0, .o (.c (.rs 6 (a0.map Thing.enc)))), (1, .o (.c (.v (.int .i64 a1)))), (6, .o (.c (.sl 0))), (7, .o (.c (.v (.int .i64 v9)))), (37, .o (.c (.v (.int .i64 (v1.length : Int))))), (38, .o (.c (.v (.int .i64 s18))))], [(0, .row 49 6 (s17.map Thing.enc))]⟩
def impl_EmptyBox_L1_S (a0 : (List Thing)) (a1 : Int) (v1 : (List Thing)) (v9 : Int) (s : (List Thing) × Int) : St := impl_EmptyBox_L1_s a0 a1 v1 v9 s.1 s.2
def impl_EmptyBox_L1_a (s19 : (List Thing)) : Option ((List Thing) × Int) :=
  some (s19, 0)
def impl_EmptyBox_L1_k (x : ((List Thing)) ⊕ ((List Thing) × Int)) : Option ((List Thing) × Int) := match x with
  | .inl t => impl_EmptyBox_L1_a t
  | .inr y => some y
def impl_EmptyBox (a0 : (List Thing)) (a1 : Int) : Option ((List Thing) × Int) :=
  (impl_copyThings a0).bind fun v1 =>
  (impl_isThing a0 a1).bind fun v3 =>
  bif (!v3) then
  some (v1, 1)
  else
  (impl_isBox a0 a1).bind fun v6 =>
  bif (!v6) then
  some (v1, 1)
  else
  (impl_FindThing a0 a1).bind fun v9 =>
  (impl_IsLocked a0 a1).bind fun v11 =>
  bif v11 then
  some (v1, 2)
  else
  (gi a0 v9).bind fun v14 =>
  bif v14.Sealed then
  some (v1, 2)
  else
  (loopM (impl_EmptyBox_L1 a0 a1 v1 v9) big (v1, 0)).bind (impl_EmptyBox_L1_k)
theorem impl_EmptyBox_ok (a0 : (List Thing)) (a1 : Int) (r : (List Thing) × Int) (hM : impl_EmptyBox a0 a1 = some r) :
    Con Try.prog 51 [.c (.rs 6 (a0.map Thing.enc)), .c (.v (.int .i64 a1))] [] (.tup [.c (.sl 1000), .c (.v (.int .i64 r.2))]) [] [(1000, .row 49 6 (r.1.map Thing.enc))] := by
  unfold impl_EmptyBox at hM
  refine cn (N := 59) (pids := []) Try_mixed Try.func51 (by kernel_rfl) (by kernel_rfl) (by kernel_rfl) rfl fun ρ g w R => ?_
  obtain ⟨v1, h2, hM⟩ := bind_some hM
  obtain ⟨v3, h4, hM⟩ := bind_some hM
  rcases cond_cases hM with ⟨h5, hM⟩ | ⟨h5, hM⟩
  · have hE : some (v1, 1) = some r := hM
    have hE := Option.some.inj hE
    subst hE
    exact pr R 9999 [.call false [] (.o (.c (.sl 0))) [] [(0, .row 49 6 (v1.map Thing.enc))], .call false [] (.o (.c (.v (.bool v3)))) [] [], .as 15 true] [.sw 0 1000] [] [1000] (And.intro (And.intro (con_sw 1000 0 (impl_copyThings_ok a0 v1 h2)) (rfl : ([] : List Nat) = [])) (And.intro (impl_isThing_ok a0 a1 v3 h4) (And.intro h5 True.intro))) (by kernel_rfl)
  · obtain ⟨v6, h7, hM⟩ := bind_some hM
    rcases cond_cases hM with ⟨h8, hM⟩ | ⟨h8, hM⟩
    · have hE : some (v1, 1) = some r := hM
      have hE := Option.some.inj hE
      subst hE
      exact pr R 9999 [.call false [] (.o (.c (.sl 0))) [] [(0, .row 49 6 (v1.map Thing.enc))], .call false [] (.o (.c (.v (.bool v3)))) [] [], .as 15 false, .call false [] (.o (.c (.v (.bool v6)))) [] [], .as 20 true] [.sw 0 1000] [] [1000] (And.intro (And.intro (con_sw 1000 0 (impl_copyThings_ok a0 v1 h2)) (rfl : ([] : List Nat) = [])) (And.intro (impl_isThing_ok a0 a1 v3 h4) (And.intro h5 (And.intro (impl_isBox_ok a0 a1 v6 h7) (And.intro h8 True.intro))))) (by kernel_rfl)
    · obtain ⟨v9, h10, hM⟩ := bind_some hM
      obtain ⟨v11, h12, hM⟩ := bind_some hM
      rcases cond_cases hM with ⟨h13, hM⟩ | ⟨h13, hM⟩
      · have hE : some (v1, 2) = some r := hM
        have hE := Option.some.inj hE
        subst hE
        exact pr R 9999 [.call false [] (.o (.c (.sl 0))) [] [(0, .row 49 6 (v1.map Thing.enc))], .call false [] (.o (.c (.v (.bool v3)))) [] [], .as 15 false, .call false [] (.o (.c (.v (.bool v6)))) [] [], .as 20 false, .call false [] (.o (.c (.v (.int .i64 v9)))) [] [], .call false [] (.o (.c (.v (.bool v11)))) [] [], .as 28 true] [.sw 0 1000] [] [1000] (And.intro (And.intro (con_sw 1000 0 (impl_copyThings_ok a0 v1 h2)) (rfl : ([] : List Nat) = [])) (And.intro (impl_isThing_ok a0 a1 v3 h4) (And.intro h5 (And.intro (impl_isBox_ok a0 a1 v6 h7) (And.intro h8 (And.intro (impl_FindThing_ok a0 a1 v9 h10) (And.intro (impl_IsLocked_ok a0 a1 v11 h12) (And.intro h13 True.intro)))))))) (by kernel_rfl)
      · obtain ⟨v14, h15, hM⟩ := bind_some hM
        rcases cond_cases hM with ⟨h16, hM⟩ | ⟨h16, hM⟩
        · have hE : some (v1, 2) = some r := hM
          have hE := Option.some.inj hE
          subst hE
          exact pr R 9999 [.call false [] (.o (.c (.sl 0))) [] [(0, .row 49 6 (v1.map Thing.enc))], .call false [] (.o (.c (.v (.bool v3)))) [] [], .as 15 false, .call false [] (.o (.c (.v (.bool v6)))) [] [], .as 20 false, .call false [] (.o (.c (.v (.int .i64 v9)))) [] [], .call false [] (.o (.c (.v (.bool v11)))) [] [], .as 28 false, .ix (Thing.enc v14), .as 34 true] [.sw 0 1000] [] [1000] (And.intro (And.intro (con_sw 1000 0 (impl_copyThings_ok a0 v1 h2)) (rfl : ([] : List Nat) = [])) (And.intro (impl_isThing_ok a0 a1 v3 h4) (And.intro h5 (And.intro (impl_isBox_ok a0 a1 v6 h7) (And.intro h8 (And.intro (impl_FindThing_ok a0 a1 v9 h10) (And.intro (impl_IsLocked_ok a0 a1 v11 h12) (And.intro h13 (And.intro (gi_map Thing.enc h15) (And.intro h16 True.intro)))))))))) (by kernel_rfl)
        · have K1 : ∀ (s19 : (List Thing)), impl_EmptyBox_L1_a s19 = some r → Gr R [.code (cAt Try.f51 [1, 1, 1, 1, 1, 1])] (⟨[(6, .o (.c (.sl 0)))], [(0, .row 49 6 (s19.map Thing.enc))]⟩) := by
            intro s19 hM
            unfold impl_EmptyBox_L1_a at hM
            have hE : some (s19, 0) = some r := hM
            have hE := Option.some.inj hE
            subst hE
            exact pr R 9999 [] [.sw 0 1000] [] [1000] True.intro (by kernel_rfl)
          refine pc R 9999 [.call false [] (.o (.c (.sl 0))) [] [(0, .row 49 6 (v1.map Thing.enc))], .call false [] (.o (.c (.v (.bool v3)))) [] [], .as 15 false, .call false [] (.o (.c (.v (.bool v6)))) [] [], .as 20 false, .call false [] (.o (.c (.v (.int .i64 v9)))) [] [], .call false [] (.o (.c (.v (.bool v11)))) [] [], .as 28 false, .ix (Thing.enc v14), .as 34 false, .ln (v1.length)] [.keep [0, 1, 6, 7, 37, 38] [0]] (k' := [.code (.loop (cAt Try.f51 [1, 1, 1, 1, 1, 0, 1, 0, 0])), .blk 0, .code (cAt Try.f51 [1, 1, 1, 1, 1, 1])]) (S' := impl_EmptyBox_L1_S a0 a1 v1 v9 (v1, 0)) (And.intro (And.intro (con_sw 1000 0 (impl_copyThings_ok a0 v1 h2)) (rfl : ([] : List Nat) = [])) (And.intro (impl_isThing_ok a0 a1 v3 h4) (And.intro h5 (And.intro (impl_isBox_ok a0 a1 v6 h7) (And.intro h8 (And.intro (impl_FindThing_ok a0 a1 v9 h10) (And.intro (impl_IsLocked_ok a0 a1 v11 h12) (And.intro h13 (And.intro (gi_map Thing.enc h15) (And.intro h16 (And.intro (lenm Thing.enc v1) True.intro))))))))))) (by kernel_rfl) ?_
          refine lq (impl_EmptyBox_L1_S a0 a1 v1 v9) (body := impl_EmptyBox_L1 a0 a1 v1 v9) (k := impl_EmptyBox_L1_k) hM fun m1 s c1 hM hK1 => ?_
          obtain ⟨s17, s18⟩ := s
          have hM : impl_EmptyBox_L1_b a0 a1 v1 v9 s17 s18 = some c1 := hM
          unfold impl_EmptyBox_L1_b at hM
          rcases cond_cases hM with ⟨h20, hM⟩ | ⟨h20, hM⟩
          · obtain ⟨v21, h22, hM⟩ := bind_some hM
            rcases cond_cases hM with ⟨h23, hM⟩ | ⟨h23, hM⟩
            · obtain ⟨v24, h25, hM⟩ := bind_some hM
              obtain ⟨v26, h27, hM⟩ := bind_some hM
              have hE : some (Ctl.next (List.set s17 (Int.toNat s18) (Thing.mk v26.Id v26.Own v26.Room v24.In v26.Box v26.Sealed), w64 (s18 + 1))) = some c1 := hM
              have hE := Option.some.inj hE
              subst hE
              exact pc R 9999 [.as 39 true, .ix (Thing.enc v21), .as 47 true, .ix (Thing.enc v24), .ix (Thing.enc v26), .nm ((List.set s17 (Int.toNat s18) (Thing.mk v26.Id v26.Own v26.Room v24.In v26.Box v26.Sealed)).map Thing.enc)] [.keep [0, 1, 6, 7, 37, 38] [0]] (And.intro h20 (And.intro (gi_lt Thing.enc h22) (And.intro ((gi_map Thing.enc h22).2) (And.intro h23 (And.intro (gi_map Thing.enc h25) (And.intro (gi_lt Thing.enc h27) (And.intro (And.intro (gi_map Thing.enc h27).2 (set_map Thing.enc s17 (Int.toNat s18) (Thing.mk v26.Id v26.Own v26.Room v24.In v26.Box v26.Sealed))) True.intro))))))) (by kernel_rfl) (li (Sf := impl_EmptyBox_L1_S a0 a1 v1 v9) (M := Mk (impl_EmptyBox_L1 a0 a1 v1 v9) (impl_EmptyBox_L1_k) r) (k := [.blk 0, .code (cAt Try.f51 [1, 1, 1, 1, 1, 1])]) (Nat.lt_succ_self m1) hK1)
            · have hE : some (Ctl.next (s17, w64 (s18 + 1))) = some c1 := hM
              have hE := Option.some.inj hE
              subst hE
              exact pc R 9999 [.as 39 true, .ix (Thing.enc v21), .as 47 false] [.keep [0, 1, 6, 7, 37, 38] [0]] (And.intro h20 (And.intro (gi_lt Thing.enc h22) (And.intro ((gi_map Thing.enc h22).2) (And.intro h23 True.intro)))) (by kernel_rfl) (li (Sf := impl_EmptyBox_L1_S a0 a1 v1 v9) (M := Mk (impl_EmptyBox_L1 a0 a1 v1 v9) (impl_EmptyBox_L1_k) r) (k := [.blk 0, .code (cAt Try.f51 [1, 1, 1, 1, 1, 1])]) (Nat.lt_succ_self m1) hK1)
          · have hE : some (Ctl.brk s17) = some c1 := hM
            have hE := Option.some.inj hE
            subst hE
            exact pc R 5 [.as 39 false] [.keep [6] [0]] (And.intro h20 True.intro) (by kernel_rfl) (K1 s17 hK1)

-- loop.example/g03014/laws.things
def laws_things_L1_b (a0 : (List Thing)) (a1 : (List Thing)) (s2 : Int) : Option (Ctl Int Unit Bool) :=
  bif (decide (s2 < (a0.length : Int))) then
  (gi a0 s2).bind fun v4 =>
  (gi a1 s2).bind fun v6 =>
  bif (!decide (v4 = v6)) then
  some (.ret false)
  else
  some (.next (w64 (s2 + 1)))
  else
  some (.brk ())
def laws_things_L1 (a0 : (List Thing)) (a1 : (List Thing)) (s : Int) : Option (Ctl Int Unit Bool) := laws_things_L1_b a0 a1 s
def laws_things_L1_s (a0 : (List Thing)) (a1 : (List Thing)) (s2 : Int) : St := ⟨[(0, .o (.c (.rs 6 (a0.map Thing.enc)))), (1, .o (.c (.rs 6 (a1.map Thing.enc)))), (5, .o (.c (.v (.int .i64 s2))))], []⟩
def laws_things_L1_S (a0 : (List Thing)) (a1 : (List Thing)) (s : Int) : St := laws_things_L1_s a0 a1 s
def laws_things_L1_a : Option Bool :=
  some true
def laws_things_L1_k (x : (Unit) ⊕ (Bool)) : Option Bool := match x with
  | .inl t => laws_things_L1_a
  | .inr y => some y
def laws_things (a0 : (List Thing)) (a1 : (List Thing)) : Option Bool :=
  bif ((a0.length : Int) != (a1.length : Int)) then
  some false
  else
  (loopM (laws_things_L1 a0 a1) big 0).bind (laws_things_L1_k)
theorem laws_things_ok (a0 : (List Thing)) (a1 : (List Thing)) (r : Bool) (hM : laws_things a0 a1 = some r) :
    Con Try.prog 58 [.c (.rs 6 (a0.map Thing.enc)), .c (.rs 6 (a1.map Thing.enc))] [] (.o (.c (.v (.bool r)))) [] [] := by
  unfold laws_things at hM
  refine cn (N := 26) (pids := []) Try_mixed Try.func58 (by kernel_rfl) (by kernel_rfl) (by kernel_rfl) rfl fun ρ g w R => ?_
  rcases cond_cases hM with ⟨h1, hM⟩ | ⟨h1, hM⟩
  · have hE : some false = some r := hM
    have hE := Option.some.inj hE
    subst hE
    exact pr R 9999 [.ln (a0.length), .ln (a1.length), .as 10 true] [] [] [] (And.intro (lenm Thing.enc a0) (And.intro (lenm Thing.enc a1) (And.intro h1 True.intro))) (by kernel_rfl)
  · have K1 : ∀ (_ : Unit), laws_things_L1_a = some r → Gr R [.code (cAt Try.f58 [1, 1, 1])] (⟨[], []⟩) := by
      intro _ hM
      unfold laws_things_L1_a at hM
      have hE : some true = some r := hM
      have hE := Option.some.inj hE
      subst hE
      exact pr R 9999 [] [] [] [] True.intro (by kernel_rfl)
    refine pc R 9999 [.ln (a0.length), .ln (a1.length), .as 10 false] [.keep [0, 1, 5] []] (k' := [.code (.loop (cAt Try.f58 [1, 1, 0, 1, 0, 0])), .blk 0, .code (cAt Try.f58 [1, 1, 1])]) (S' := laws_things_L1_S a0 a1 0) (And.intro (lenm Thing.enc a0) (And.intro (lenm Thing.enc a1) (And.intro h1 True.intro))) (by kernel_rfl) ?_
    refine lq (laws_things_L1_S a0 a1) (body := laws_things_L1 a0 a1) (k := laws_things_L1_k) hM fun m1 s c1 hM hK1 => ?_
    obtain ⟨s2, hs⟩ : ∃ z, z = s := ⟨_, rfl⟩
    subst hs
    have hM : laws_things_L1_b a0 a1 s2 = some c1 := hM
    unfold laws_things_L1_b at hM
    rcases cond_cases hM with ⟨h3, hM⟩ | ⟨h3, hM⟩
    · obtain ⟨v4, h5, hM⟩ := bind_some hM
      obtain ⟨v6, h7, hM⟩ := bind_some hM
      rcases cond_cases hM with ⟨h8, hM⟩ | ⟨h8, hM⟩
      · have hE : some (Ctl.ret false) = some c1 := hM
        have hE := Option.some.inj hE
        subst hE
        have hE : some false = some r := hK1
        have hE := Option.some.inj hE
        subst hE
        exact pr R 9999 [.ln (a0.length), .as 14 true, .ix (Thing.enc v4), .ix (Thing.enc v6), .run 25 (.bool (!decide (v4 = v6))), .as 25 true] [] [] [] (And.intro (lenm Thing.enc a0) (And.intro h3 (And.intro (gi_map Thing.enc h5) (And.intro (gi_map Thing.enc h7) (And.intro (Thing_neq49 v4 v6) (And.intro h8 True.intro)))))) (by kernel_rfl)
      · have hE : some (Ctl.next (w64 (s2 + 1))) = some c1 := hM
        have hE := Option.some.inj hE
        subst hE
        exact pc R 9999 [.ln (a0.length), .as 14 true, .ix (Thing.enc v4), .ix (Thing.enc v6), .run 25 (.bool (!decide (v4 = v6))), .as 25 false] [.keep [0, 1, 5] []] (And.intro (lenm Thing.enc a0) (And.intro h3 (And.intro (gi_map Thing.enc h5) (And.intro (gi_map Thing.enc h7) (And.intro (Thing_neq49 v4 v6) (And.intro h8 True.intro)))))) (by kernel_rfl) (li (Sf := laws_things_L1_S a0 a1) (M := Mk (laws_things_L1 a0 a1) (laws_things_L1_k) r) (k := [.blk 0, .code (cAt Try.f58 [1, 1, 1])]) (Nat.lt_succ_self m1) hK1)
    · have hE : some (Ctl.brk ()) = some c1 := hM
      have hE := Option.some.inj hE
      subst hE
      exact pc R 5 [.ln (a0.length), .as 14 false] [.keep [] []] (And.intro (lenm Thing.enc a0) (And.intro h3 True.intro)) (by kernel_rfl) (K1 () hK1)

-- loop.example/g03014/impl.GrossOf
def impl_GrossOf (a0 : (List Thing)) (a1 : Int) : Option Int :=
  (impl_isThing a0 a1).bind fun v1 =>
  bif (!v1) then
  some 0
  else
  (impl_FindThing a0 a1).bind fun v4 =>
  (impl_gross a0 v4).bind fun v6 =>
  some v6
theorem impl_GrossOf_ok (a0 : (List Thing)) (a1 : Int) (r : Int) (hM : impl_GrossOf a0 a1 = some r) :
    Con Try.prog 32 [.c (.rs 6 (a0.map Thing.enc)), .c (.v (.int .i64 a1))] [] (.o (.c (.v (.int .i64 r)))) [] [] := by
  unfold impl_GrossOf at hM
  refine cn (N := 14) (pids := []) Try_mixed Try.func32 (by kernel_rfl) (by kernel_rfl) (by kernel_rfl) rfl fun ρ g w R => ?_
  obtain ⟨v1, h2, hM⟩ := bind_some hM
  rcases cond_cases hM with ⟨h3, hM⟩ | ⟨h3, hM⟩
  · have hE : some 0 = some r := hM
    have hE := Option.some.inj hE
    subst hE
    exact pr R 9999 [.call false [] (.o (.c (.v (.bool v1)))) [] [], .as 8 true] [] [] [] (And.intro (impl_isThing_ok a0 a1 v1 h2) (And.intro h3 True.intro)) (by kernel_rfl)
  · obtain ⟨v4, h5, hM⟩ := bind_some hM
    obtain ⟨v6, h7, hM⟩ := bind_some hM
    have hE : some v6 = some r := hM
    have hE := Option.some.inj hE
    subst hE
    exact pr R 9999 [.call false [] (.o (.c (.v (.bool v1)))) [] [], .as 8 false, .call false [] (.o (.c (.v (.int .i64 v4)))) [] [], .call false [] (.o (.c (.v (.int .i64 v6)))) [] []] [] [] [] (And.intro (impl_isThing_ok a0 a1 v1 h2) (And.intro h3 (And.intro (impl_FindThing_ok a0 a1 v4 h5) (And.intro (impl_gross_ok a0 v4 v6 h7) True.intro)))) (by kernel_rfl)

-- loop.example/g03014/laws.FnEmptied
def laws_FnEmptied_L1_b (v4 : ((List Thing) × Int)) (v6 : ((List Thing) × Int)) (v11 : (List Int)) (s13 : Int) : Option (Ctl Int Unit Bool) :=
  bif (decide (s13 < (v11.length : Int))) then
  (gi v11 s13).bind fun v29 =>
  (impl_DepthOf v6.1 v29).bind fun v31 =>
  (impl_DepthOf v4.1 v4.2).bind fun v33 =>
  bif (v31 != v33) then
  some (.ret false)
  else
  some (.next (w64 (s13 + 1)))
  else
  some (.brk ())
def laws_FnEmptied_L1 (v4 : ((List Thing) × Int)) (v6 : ((List Thing) × Int)) (v11 : (List Int)) (s : Int) : Option (Ctl Int Unit Bool) := laws_FnEmptied_L1_b v4 v6 v11 s
def laws_FnEmptied_L1_s (v4 : ((List Thing) × Int)) (v6 : ((List Thing) × Int)) (v11 : (List Int)) (s13 : Int) : St := ⟨[(3, .o (.c (.sl 0))), (4, .o (.c (.v (.int .i64 v4.2)))), (5, .o (.c (.sl 1))), (7, .o (.c (.sl 2))), (8, .o (.c (.v (.int .i64 s13))))], [(0, .row 49 6 (v4.1.map Thing.enc)), (1, .row 49 6 (v6.1.map Thing.enc)), (2, .row 3 1 (v11.map encI))]⟩
def laws_FnEmptied_L1_S (v4 : ((List Thing) × Int)) (v6 : ((List Thing) × Int)) (v11 : (List Int)) (s : Int) : St := laws_FnEmptied_L1_s v4 v6 v11 s
def laws_FnEmptied_L1_a (v4 : ((List Thing) × Int)) (v6 : ((List Thing) × Int)) : Option Bool :=
  (impl_AreThings v6.1).bind fun v14 =>
  bif v14 then
  (impl_InsideOf v6.1 v4.2).bind fun v17 =>
  bif ((v17.length : Int) == 0) then
  (impl_OuterOf v4.1 v4.2).bind fun v20 =>
  (impl_GrossOf v6.1 v20).bind fun v22 =>
  (impl_OuterOf v4.1 v4.2).bind fun v24 =>
  (impl_GrossOf v4.1 v24).bind fun v26 =>
  some (decide (v22 ≤ v26))
  else
  some false
  else
  some false
def laws_FnEmptied_L1_k (v4 : ((List Thing) × Int)) (v6 : ((List Thing) × Int)) (x : (Unit) ⊕ (Bool)) : Option Bool := match x with
  | .inl t => laws_FnEmptied_L1_a v4 v6
  | .inr y => some y
def laws_FnEmptied (a0 : (List Int)) : Option Bool :=
  (laws_big a0).bind fun v1 =>
  bif v1 then
  some true
  else
  (spec_DrawEmptyBox a0).bind fun v4 =>
  (impl_EmptyBox v4.1 v4.2).bind fun v6 =>
  bif (v6.2 != 0) then
  (laws_things v6.1 v4.1).bind fun v9 =>
  some v9
  else
  (impl_InsideOf v4.1 v4.2).bind fun v11 =>
  (loopM (laws_FnEmptied_L1 v4 v6 v11) big 0).bind (laws_FnEmptied_L1_k v4 v6)
theorem laws_FnEmptied_ok (a0 : (List Int)) (r : Bool) (hM : laws_FnEmptied a0 = some r) :
    Con Try.prog 16 [.c (.rs 1 (a0.map encU8))] [] (.o (.c (.v (.bool r)))) [] [] := by
  unfold laws_FnEmptied at hM
  refine cn (N := 68) (pids := []) Try_mixed Try.func16 (by kernel_rfl) (by kernel_rfl) (by kernel_rfl) rfl fun ρ g w R => ?_
  obtain ⟨v1, h2, hM⟩ := bind_some hM
  rcases cond_cases hM with ⟨h3, hM⟩ | ⟨h3, hM⟩
  · have hE : some true = some r := hM
    have hE := Option.some.inj hE
    subst hE
    exact pr R 9999 [.call false [] (.o (.c (.v (.bool v1)))) [] [], .as 10 true] [] [] [] (And.intro (laws_big_ok a0 v1 h2) (And.intro h3 True.intro)) (by kernel_rfl)
  · obtain ⟨v4, h5, hM⟩ := bind_some hM
    obtain ⟨v6, h7, hM⟩ := bind_some hM
    rcases cond_cases hM with ⟨h8, hM⟩ | ⟨h8, hM⟩
    · obtain ⟨v9, h10, hM⟩ := bind_some hM
      have hE : some v9 = some r := hM
      have hE := Option.some.inj hE
      subst hE
      exact pr R 9999 [.call false [] (.o (.c (.v (.bool v1)))) [] [], .as 10 false, .call false [] (.tup [.c (.sl 0), .c (.v (.int .i64 v4.2))]) [] [(0, .row 49 6 (v4.1.map Thing.enc))], .call false [] (.tup [.c (.sl 1), .c (.v (.int .i64 v6.2))]) [] [(1, .row 49 6 (v6.1.map Thing.enc))], .as 23 true, .call false [] (.o (.c (.v (.bool v9)))) [] []] [] [] [] (And.intro (laws_big_ok a0 v1 h2) (And.intro h3 (And.intro (And.intro (con_sw 1000 0 (spec_DrawEmptyBox_ok a0 v4 h5)) (rfl : ([] : List Nat) = [])) (And.intro (And.intro (con_sw 1000 1 (impl_EmptyBox_ok v4.1 v4.2 v6 h7)) (rfl : ([] : List Nat) = [])) (And.intro h8 (And.intro (laws_things_ok v6.1 v4.1 v9 h10) True.intro)))))) (by kernel_rfl)
    · obtain ⟨v11, h12, hM⟩ := bind_some hM
      have K1 : ∀ (_ : Unit), laws_FnEmptied_L1_a v4 v6 = some r → Gr R [.code (cAt Try.f16 [1, 1, 1, 1, 1, 1, 1])] (⟨[(3, .o (.c (.sl 0))), (4, .o (.c (.v (.int .i64 v4.2)))), (5, .o (.c (.sl 1)))], [(0, .row 49 6 (v4.1.map Thing.enc)), (1, .row 49 6 (v6.1.map Thing.enc))]⟩) := by
        intro _ hM
        unfold laws_FnEmptied_L1_a at hM
        obtain ⟨v14, h15, hM⟩ := bind_some hM
        rcases cond_cases hM with ⟨h16, hM⟩ | ⟨h16, hM⟩
        · obtain ⟨v17, h18, hM⟩ := bind_some hM
          rcases cond_cases hM with ⟨h19, hM⟩ | ⟨h19, hM⟩
          · obtain ⟨v20, h21, hM⟩ := bind_some hM
            obtain ⟨v22, h23, hM⟩ := bind_some hM
            obtain ⟨v24, h25, hM⟩ := bind_some hM
            obtain ⟨v26, h27, hM⟩ := bind_some hM
            have hE : some (decide (v22 ≤ v26)) = some r := hM
            have hE := Option.some.inj hE
            subst hE
            exact pr R 9999 [.call false [] (.o (.c (.v (.bool v14)))) [] [], .as 48 true, .call false [] (.o (.c (.sl 3))) [] [(3, .row 3 1 (v17.map encI))], .ln (v17.length), .as 55 true, .call false [] (.o (.c (.v (.int .i64 v20)))) [] [], .call false [] (.o (.c (.v (.int .i64 v22)))) [] [], .call false [] (.o (.c (.v (.int .i64 v24)))) [] [], .call false [] (.o (.c (.v (.int .i64 v26)))) [] []] [] [] [] (And.intro (impl_AreThings_ok v6.1 v14 h15) (And.intro h16 (And.intro (And.intro (con_sw 1000 3 (impl_InsideOf_ok v6.1 v4.2 v17 h18)) (rfl : ([] : List Nat) = [])) (And.intro (lenm encI v17) (And.intro h19 (And.intro (impl_OuterOf_ok v4.1 v4.2 v20 h21) (And.intro (impl_GrossOf_ok v6.1 v20 v22 h23) (And.intro (impl_OuterOf_ok v4.1 v4.2 v24 h25) (And.intro (impl_GrossOf_ok v4.1 v24 v26 h27) True.intro))))))))) (by kernel_rfl)
          · have hE : some false = some r := hM
            have hE := Option.some.inj hE
            subst hE
            exact pr R 9999 [.call false [] (.o (.c (.v (.bool v14)))) [] [], .as 48 true, .call false [] (.o (.c (.sl 3))) [] [(3, .row 3 1 (v17.map encI))], .ln (v17.length), .as 55 false] [] [] [] (And.intro (impl_AreThings_ok v6.1 v14 h15) (And.intro h16 (And.intro (And.intro (con_sw 1000 3 (impl_InsideOf_ok v6.1 v4.2 v17 h18)) (rfl : ([] : List Nat) = [])) (And.intro (lenm encI v17) (And.intro h19 True.intro))))) (by kernel_rfl)
        · have hE : some false = some r := hM
          have hE := Option.some.inj hE
          subst hE
          exact pr R 9999 [.call false [] (.o (.c (.v (.bool v14)))) [] [], .as 48 false] [] [] [] (And.intro (impl_AreThings_ok v6.1 v14 h15) (And.intro h16 True.intro)) (by kernel_rfl)
      refine pc R 9999 [.call false [] (.o (.c (.v (.bool v1)))) [] [], .as 10 false, .call false [] (.tup [.c (.sl 0), .c (.v (.int .i64 v4.2))]) [] [(0, .row 49 6 (v4.1.map Thing.enc))], .call false [] (.tup [.c (.sl 1), .c (.v (.int .i64 v6.2))]) [] [(1, .row 49 6 (v6.1.map Thing.enc))], .as 23 false, .call false [] (.o (.c (.sl 2))) [] [(2, .row 3 1 (v11.map encI))]] [.keep [3, 4, 5, 7, 8] [0, 1, 2]] (k' := [.code (.loop (cAt Try.f16 [1, 1, 1, 1, 1, 1, 0, 1, 0, 0])), .blk 0, .code (cAt Try.f16 [1, 1, 1, 1, 1, 1, 1])]) (S' := laws_FnEmptied_L1_S v4 v6 v11 0) (And.intro (laws_big_ok a0 v1 h2) (And.intro h3 (And.intro (And.intro (con_sw 1000 0 (spec_DrawEmptyBox_ok a0 v4 h5)) (rfl : ([] : List Nat) = [])) (And.intro (And.intro (con_sw 1000 1 (impl_EmptyBox_ok v4.1 v4.2 v6 h7)) (rfl : ([] : List Nat) = [])) (And.intro h8 (And.intro (And.intro (con_sw 1000 2 (impl_InsideOf_ok v4.1 v4.2 v11 h12)) (rfl : ([] : List Nat) = [])) True.intro)))))) (by kernel_rfl) ?_
      refine lq (laws_FnEmptied_L1_S v4 v6 v11) (body := laws_FnEmptied_L1 v4 v6 v11) (k := laws_FnEmptied_L1_k v4 v6) hM fun m1 s c1 hM hK1 => ?_
      obtain ⟨s13, hs⟩ : ∃ z, z = s := ⟨_, rfl⟩
      subst hs
      have hM : laws_FnEmptied_L1_b v4 v6 v11 s13 = some c1 := hM
      unfold laws_FnEmptied_L1_b at hM
      rcases cond_cases hM with ⟨h28, hM⟩ | ⟨h28, hM⟩
      · obtain ⟨v29, h30, hM⟩ := bind_some hM
        obtain ⟨v31, h32, hM⟩ := bind_some hM
        obtain ⟨v33, h34, hM⟩ := bind_some hM
        rcases cond_cases hM with ⟨h35, hM⟩ | ⟨h35, hM⟩
        · have hE : some (Ctl.ret false) = some c1 := hM
          have hE := Option.some.inj hE
          subst hE
          have hE : some false = some r := hK1
          have hE := Option.some.inj hE
          subst hE
          exact pr R 9999 [.ln (v11.length), .as 33 true, .ix (encI v29), .call false [] (.o (.c (.v (.int .i64 v31)))) [] [], .call false [] (.o (.c (.v (.int .i64 v33)))) [] [], .as 45 true] [] [] [] (And.intro (lenm encI v11) (And.intro h28 (And.intro (gi_lt encI h30) (And.intro ((gi_map encI h30).2) (And.intro (impl_DepthOf_ok v6.1 v29 v31 h32) (And.intro (impl_DepthOf_ok v4.1 v4.2 v33 h34) (And.intro h35 True.intro))))))) (by kernel_rfl)
        · have hE : some (Ctl.next (w64 (s13 + 1))) = some c1 := hM
          have hE := Option.some.inj hE
          subst hE
          exact pc R 9999 [.ln (v11.length), .as 33 true, .ix (encI v29), .call false [] (.o (.c (.v (.int .i64 v31)))) [] [], .call false [] (.o (.c (.v (.int .i64 v33)))) [] [], .as 45 false] [.keep [3, 4, 5, 7, 8] [0, 1, 2]] (And.intro (lenm encI v11) (And.intro h28 (And.intro (gi_lt encI h30) (And.intro ((gi_map encI h30).2) (And.intro (impl_DepthOf_ok v6.1 v29 v31 h32) (And.intro (impl_DepthOf_ok v4.1 v4.2 v33 h34) (And.intro h35 True.intro))))))) (by kernel_rfl) (li (Sf := laws_FnEmptied_L1_S v4 v6 v11) (M := Mk (laws_FnEmptied_L1 v4 v6 v11) (laws_FnEmptied_L1_k v4 v6) r) (k := [.blk 0, .code (cAt Try.f16 [1, 1, 1, 1, 1, 1, 1])]) (Nat.lt_succ_self m1) hK1)
      · have hE : some (Ctl.brk ()) = some c1 := hM
        have hE := Option.some.inj hE
        subst hE
        exact pc R 5 [.ln (v11.length), .as 33 false] [.keep [3, 4, 5] [0, 1]] (And.intro (lenm encI v11) (And.intro h28 True.intro)) (by kernel_rfl) (K1 () hK1)

-- loop.example/g03014/spec.DrawPutInto
def spec_DrawPutInto_j1 (s7 : (List Int)) (s8 : Int) (s9 : Int) (s10 : (List Thing)) : Option ((List Thing) × Int × Int) :=
  (spec_l5Id (l1Cur.mk s7 s8 s9) s10).bind fun v11 =>
  (spec_l5Id v11.2 s10).bind fun v13 =>
  some (s10, v11.1, v13.1)
def spec_DrawPutInto (a0 : (List Int)) : Option ((List Thing) × Int × Int) :=
  (spec_l1New a0).bind fun v1 =>
  (spec_l5Draw v1 9).bind fun v3 =>
  (spec_l1Once v3.2 8).bind fun v5 =>
  bif v5.1 then
  (spec_l5Any v5.2).bind fun v16 =>
  spec_DrawPutInto_j1 v16.2.b v16.2.i v16.2.h v16.1
  else
  spec_DrawPutInto_j1 v5.2.b v5.2.i v5.2.h v3.1
theorem spec_DrawPutInto_ok (a0 : (List Int)) (r : (List Thing) × Int × Int) (hM : spec_DrawPutInto a0 = some r) :
    Con Try.prog 59 [.c (.rs 1 (a0.map encU8))] [] (.tup [.c (.sl 1000), .c (.v (.int .i64 r.2.1)), .c (.v (.int .i64 r.2.2))]) [] [(1000, .row 49 6 (r.1.map Thing.enc))] := by
  unfold spec_DrawPutInto at hM
  refine cn (N := 22) (pids := []) Try_mixed Try.func59 (by kernel_rfl) (by kernel_rfl) (by kernel_rfl) rfl fun ρ g w R => ?_
  obtain ⟨v1, h2, hM⟩ := bind_some hM
  obtain ⟨v3, h4, hM⟩ := bind_some hM
  obtain ⟨v5, h6, hM⟩ := bind_some hM
  have J1 : ∀ (s7 : (List Int)) (s8 : Int) (s9 : Int) (s10 : (List Thing)), spec_DrawPutInto_j1 s7 s8 s9 s10 = some r → Gr R [.code (cAt Try.f59 [1, 1, 1, 1])] (⟨[(5, .o (.c (.ptr 0 0))), (6, .o (.c (.sl 2)))], [(0, .box 76 [.rs 1 (s7.map encU8), .v (.int .i64 s8), .v (.int .i64 s9)]), (2, .row 49 6 (s10.map Thing.enc))]⟩) := by
    intro s7 s8 s9 s10 hM
    unfold spec_DrawPutInto_j1 at hM
    obtain ⟨v11, h12, hM⟩ := bind_some hM
    obtain ⟨v13, h14, hM⟩ := bind_some hM
    have hE : some (s10, v11.1, v13.1) = some r := hM
    have hE := Option.some.inj hE
    subst hE
    exact pr R 9999 [.ad (.keep [5, 6, 15, 16, 17] [0, 2]), .call true [0, 2] (.o (.c (.v (.int .i64 v11.1)))) [(0, .box 76 [.rs 1 (v11.2.b.map encU8), .v (.int .i64 v11.2.i), .v (.int .i64 v11.2.h)]), (2, .row 49 6 (s10.map Thing.enc))] [], .ad (.keep [5, 6, 15, 16, 17, 18, 19, 20] [0, 2]), .call true [0, 2] (.o (.c (.v (.int .i64 v13.1)))) [(0, .box 76 [.rs 1 (v13.2.b.map encU8), .v (.int .i64 v13.2.i), .v (.int .i64 v13.2.h)]), (2, .row 49 6 (s10.map Thing.enc))] []] [.sw 2 1000] [] [1000] (And.intro (And.intro (con_sw 901 2 (con_sw 900 0 (spec_l5Id_ok (l1Cur.mk s7 s8 s9) s10 v11 h12))) (rfl : ([0, 2] : List Nat) = [0, 2])) (And.intro (And.intro (con_sw 901 2 (con_sw 900 0 (spec_l5Id_ok v11.2 s10 v13 h14))) (rfl : ([0, 2] : List Nat) = [0, 2])) True.intro)) (by kernel_rfl)
  rcases cond_cases hM with ⟨h15, hM⟩ | ⟨h15, hM⟩
  · obtain ⟨v16, h17, hM⟩ := bind_some hM
    exact pc R 11 [.call true [] (.o (.c (.ptr 0 0))) [] [(0, .box 76 [.rs 1 (v1.b.map encU8), .v (.int .i64 v1.i), .v (.int .i64 v1.h)])], .call true [0] (.o (.c (.sl 1))) [(0, .box 76 [.rs 1 (v3.2.b.map encU8), .v (.int .i64 v3.2.i), .v (.int .i64 v3.2.h)])] [(1, .row 49 6 (v3.1.map Thing.enc))], .call true [0] (.o (.c (.v (.bool v5.1)))) [(0, .box 76 [.rs 1 (v5.2.b.map encU8), .v (.int .i64 v5.2.i), .v (.int .i64 v5.2.h)])] [], .as 12 true, .call true [0] (.o (.c (.sl 2))) [(0, .box 76 [.rs 1 (v16.2.b.map encU8), .v (.int .i64 v16.2.i), .v (.int .i64 v16.2.h)])] [(2, .row 49 6 (v16.1.map Thing.enc))]] [.keep [5, 6] [0, 2]] (And.intro (And.intro (con_sw 1000 0 (spec_l1New_ok a0 v1 h2)) (rfl : ([] : List Nat) = [])) (And.intro (And.intro (con_sw 900 0 (con_sw 1000 1 (spec_l5Draw_ok v1 9 v3 h4))) (rfl : ([0] : List Nat) = [0])) (And.intro (And.intro (con_sw 900 0 (spec_l1Once_ok v3.2 8 v5 h6)) (rfl : ([0] : List Nat) = [0])) (And.intro h15 (And.intro (And.intro (con_sw 900 0 (con_sw 1000 2 (spec_l5Any_ok v5.2 v16 h17))) (rfl : ([0] : List Nat) = [0])) True.intro))))) (by kernel_rfl) (J1 v16.2.b v16.2.i v16.2.h v16.1 hM)
  · exact pc R 11 [.call true [] (.o (.c (.ptr 0 0))) [] [(0, .box 76 [.rs 1 (v1.b.map encU8), .v (.int .i64 v1.i), .v (.int .i64 v1.h)])], .call true [0] (.o (.c (.sl 1))) [(0, .box 76 [.rs 1 (v3.2.b.map encU8), .v (.int .i64 v3.2.i), .v (.int .i64 v3.2.h)])] [(1, .row 49 6 (v3.1.map Thing.enc))], .call true [0] (.o (.c (.v (.bool v5.1)))) [(0, .box 76 [.rs 1 (v5.2.b.map encU8), .v (.int .i64 v5.2.i), .v (.int .i64 v5.2.h)])] [], .as 12 false] [.sw 1 2, .keep [5, 6] [0, 2]] (And.intro (And.intro (con_sw 1000 0 (spec_l1New_ok a0 v1 h2)) (rfl : ([] : List Nat) = [])) (And.intro (And.intro (con_sw 900 0 (con_sw 1000 1 (spec_l5Draw_ok v1 9 v3 h4))) (rfl : ([0] : List Nat) = [0])) (And.intro (And.intro (con_sw 900 0 (spec_l1Once_ok v3.2 8 v5 h6)) (rfl : ([0] : List Nat) = [0])) (And.intro h15 True.intro)))) (by kernel_rfl) (J1 v5.2.b v5.2.i v5.2.h v3.1 hM)

-- loop.example/g03014/impl.PutInto
def impl_PutInto (a0 : (List Thing)) (a1 : Int) (a2 : Int) : Option ((List Thing) × Int) :=
  (impl_copyThings a0).bind fun v1 =>
  (impl_isThing a0 a1).bind fun v3 =>
  bif (!v3) then
  some (v1, 1)
  else
  (impl_isBox a0 a2).bind fun v6 =>
  bif (!v6) then
  some (v1, 1)
  else
  (impl_IsLocked a0 a1).bind fun v9 =>
  bif v9 then
  some (v1, 2)
  else
  (impl_IsLocked a0 a2).bind fun v12 =>
  bif v12 then
  some (v1, 2)
  else
  (impl_FindThing a0 a2).bind fun v15 =>
  (gi a0 v15).bind fun v17 =>
  bif v17.Sealed then
  some (v1, 2)
  else
  bif (a1 == a2) then
  some (v1, 3)
  else
  (impl_around a0 a2).bind fun v21 =>
  (impl_hasInt v21 a1).bind fun v23 =>
  bif v23 then
  some (v1, 3)
  else
  (impl_FindThing a0 a1).bind fun v26 =>
  (gi v1 v26).bind fun v28 =>
  (impl_areDeep (List.set v1 (Int.toNat v26) (Thing.mk v28.Id v28.Own v28.Room a2 v28.Box v28.Sealed))).bind fun v30 =>
  bif (!v30) then
  (impl_copyThings a0).bind fun v33 =>
  some (v33, 4)
  else
  (impl_AreThings (List.set v1 (Int.toNat v26) (Thing.mk v28.Id v28.Own v28.Room a2 v28.Box v28.Sealed))).bind fun v35 =>
  bif (!v35) then
  (impl_copyThings a0).bind fun v38 =>
  some (v38, 5)
  else
  some (List.set v1 (Int.toNat v26) (Thing.mk v28.Id v28.Own v28.Room a2 v28.Box v28.Sealed), 0)
theorem impl_PutInto_ok (a0 : (List Thing)) (a1 : Int) (a2 : Int) (r : (List Thing) × Int) (hM : impl_PutInto a0 a1 a2 = some r) :
    Con Try.prog 53 [.c (.rs 6 (a0.map Thing.enc)), .c (.v (.int .i64 a1)), .c (.v (.int .i64 a2))] [] (.tup [.c (.sl 1000), .c (.v (.int .i64 r.2))]) [] [(1000, .row 49 6 (r.1.map Thing.enc))] := by
  unfold impl_PutInto at hM
  refine cn (N := 71) (pids := []) Try_mixed Try.func53 (by kernel_rfl) (by kernel_rfl) (by kernel_rfl) rfl fun ρ g w R => ?_
  obtain ⟨v1, h2, hM⟩ := bind_some hM
  obtain ⟨v3, h4, hM⟩ := bind_some hM
  rcases cond_cases hM with ⟨h5, hM⟩ | ⟨h5, hM⟩
  · have hE : some (v1, 1) = some r := hM
    have hE := Option.some.inj hE
    subst hE
    exact pr R 9999 [.call false [] (.o (.c (.sl 0))) [] [(0, .row 49 6 (v1.map Thing.enc))], .call false [] (.o (.c (.v (.bool v3)))) [] [], .as 15 true] [.sw 0 1000] [] [1000] (And.intro (And.intro (con_sw 1000 0 (impl_copyThings_ok a0 v1 h2)) (rfl : ([] : List Nat) = [])) (And.intro (impl_isThing_ok a0 a1 v3 h4) (And.intro h5 True.intro))) (by kernel_rfl)
  · obtain ⟨v6, h7, hM⟩ := bind_some hM
    rcases cond_cases hM with ⟨h8, hM⟩ | ⟨h8, hM⟩
    · have hE : some (v1, 1) = some r := hM
      have hE := Option.some.inj hE
      subst hE
      exact pr R 9999 [.call false [] (.o (.c (.sl 0))) [] [(0, .row 49 6 (v1.map Thing.enc))], .call false [] (.o (.c (.v (.bool v3)))) [] [], .as 15 false, .call false [] (.o (.c (.v (.bool v6)))) [] [], .as 20 true] [.sw 0 1000] [] [1000] (And.intro (And.intro (con_sw 1000 0 (impl_copyThings_ok a0 v1 h2)) (rfl : ([] : List Nat) = [])) (And.intro (impl_isThing_ok a0 a1 v3 h4) (And.intro h5 (And.intro (impl_isBox_ok a0 a2 v6 h7) (And.intro h8 True.intro))))) (by kernel_rfl)
    · obtain ⟨v9, h10, hM⟩ := bind_some hM
      rcases cond_cases hM with ⟨h11, hM⟩ | ⟨h11, hM⟩
      · have hE : some (v1, 2) = some r := hM
        have hE := Option.some.inj hE
        subst hE
        exact pr R 9999 [.call false [] (.o (.c (.sl 0))) [] [(0, .row 49 6 (v1.map Thing.enc))], .call false [] (.o (.c (.v (.bool v3)))) [] [], .as 15 false, .call false [] (.o (.c (.v (.bool v6)))) [] [], .as 20 false, .call false [] (.o (.c (.v (.bool v9)))) [] [], .as 25 true] [.sw 0 1000] [] [1000] (And.intro (And.intro (con_sw 1000 0 (impl_copyThings_ok a0 v1 h2)) (rfl : ([] : List Nat) = [])) (And.intro (impl_isThing_ok a0 a1 v3 h4) (And.intro h5 (And.intro (impl_isBox_ok a0 a2 v6 h7) (And.intro h8 (And.intro (impl_IsLocked_ok a0 a1 v9 h10) (And.intro h11 True.intro))))))) (by kernel_rfl)
      · obtain ⟨v12, h13, hM⟩ := bind_some hM
        rcases cond_cases hM with ⟨h14, hM⟩ | ⟨h14, hM⟩
        · have hE : some (v1, 2) = some r := hM
          have hE := Option.some.inj hE
          subst hE
          exact pr R 9999 [.call false [] (.o (.c (.sl 0))) [] [(0, .row 49 6 (v1.map Thing.enc))], .call false [] (.o (.c (.v (.bool v3)))) [] [], .as 15 false, .call false [] (.o (.c (.v (.bool v6)))) [] [], .as 20 false, .call false [] (.o (.c (.v (.bool v9)))) [] [], .as 25 false, .call false [] (.o (.c (.v (.bool v12)))) [] [], .as 30 true] [.sw 0 1000] [] [1000] (And.intro (And.intro (con_sw 1000 0 (impl_copyThings_ok a0 v1 h2)) (rfl : ([] : List Nat) = [])) (And.intro (impl_isThing_ok a0 a1 v3 h4) (And.intro h5 (And.intro (impl_isBox_ok a0 a2 v6 h7) (And.intro h8 (And.intro (impl_IsLocked_ok a0 a1 v9 h10) (And.intro h11 (And.intro (impl_IsLocked_ok a0 a2 v12 h13) (And.intro h14 True.intro))))))))) (by kernel_rfl)
        · obtain ⟨v15, h16, hM⟩ := bind_some hM
          obtain ⟨v17, h18, hM⟩ := bind_some hM
          rcases cond_cases hM with ⟨h19, hM⟩ | ⟨h19, hM⟩
          · have hE : some (v1, 2) = some r := hM
            have hE := Option.some.inj hE
            subst hE
            exact pr R 9999 [.call false [] (.o (.c (.sl 0))) [] [(0, .row 49 6 (v1.map Thing.enc))], .call false [] (.o (.c (.v (.bool v3)))) [] [], .as 15 false, .call false [] (.o (.c (.v (.bool v6)))) [] [], .as 20 false, .call false [] (.o (.c (.v (.bool v9)))) [] [], .as 25 false, .call false [] (.o (.c (.v (.bool v12)))) [] [], .as 30 false, .call false [] (.o (.c (.v (.int .i64 v15)))) [] [], .ix (Thing.enc v17), .as 38 true] [.sw 0 1000] [] [1000] (And.intro (And.intro (con_sw 1000 0 (impl_copyThings_ok a0 v1 h2)) (rfl : ([] : List Nat) = [])) (And.intro (impl_isThing_ok a0 a1 v3 h4) (And.intro h5 (And.intro (impl_isBox_ok a0 a2 v6 h7) (And.intro h8 (And.intro (impl_IsLocked_ok a0 a1 v9 h10) (And.intro h11 (And.intro (impl_IsLocked_ok a0 a2 v12 h13) (And.intro h14 (And.intro (impl_FindThing_ok a0 a2 v15 h16) (And.intro (gi_map Thing.enc h18) (And.intro h19 True.intro)))))))))))) (by kernel_rfl)
          · rcases cond_cases hM with ⟨h20, hM⟩ | ⟨h20, hM⟩
            · have hE : some (v1, 3) = some r := hM
              have hE := Option.some.inj hE
              subst hE
              exact pr R 9999 [.call false [] (.o (.c (.sl 0))) [] [(0, .row 49 6 (v1.map Thing.enc))], .call false [] (.o (.c (.v (.bool v3)))) [] [], .as 15 false, .call false [] (.o (.c (.v (.bool v6)))) [] [], .as 20 false, .call false [] (.o (.c (.v (.bool v9)))) [] [], .as 25 false, .call false [] (.o (.c (.v (.bool v12)))) [] [], .as 30 false, .call false [] (.o (.c (.v (.int .i64 v15)))) [] [], .ix (Thing.enc v17), .as 38 false, .as 43 true] [.sw 0 1000] [] [1000] (And.intro (And.intro (con_sw 1000 0 (impl_copyThings_ok a0 v1 h2)) (rfl : ([] : List Nat) = [])) (And.intro (impl_isThing_ok a0 a1 v3 h4) (And.intro h5 (And.intro (impl_isBox_ok a0 a2 v6 h7) (And.intro h8 (And.intro (impl_IsLocked_ok a0 a1 v9 h10) (And.intro h11 (And.intro (impl_IsLocked_ok a0 a2 v12 h13) (And.intro h14 (And.intro (impl_FindThing_ok a0 a2 v15 h16) (And.intro (gi_map Thing.enc h18) (And.intro h19 (And.intro h20 True.intro))))))))))))) (by kernel_rfl)
            · obtain ⟨v21, h22, hM⟩ := bind_some hM
              obtain ⟨v23, h24, hM⟩ := bind_some hM
              rcases cond_cases hM with ⟨h25, hM⟩ | ⟨h25, hM⟩
              · have hE : some (v1, 3) = some r := hM
                have hE := Option.some.inj hE
                subst hE
                exact pr R 9999 [.call false [] (.o (.c (.sl 0))) [] [(0, .row 49 6 (v1.map Thing.enc))], .call false [] (.o (.c (.v (.bool v3)))) [] [], .as 15 false, .call false [] (.o (.c (.v (.bool v6)))) [] [], .as 20 false, .call false [] (.o (.c (.v (.bool v9)))) [] [], .as 25 false, .call false [] (.o (.c (.v (.bool v12)))) [] [], .as 30 false, .call false [] (.o (.c (.v (.int .i64 v15)))) [] [], .ix (Thing.enc v17), .as 38 false, .as 43 false, .call false [] (.o (.c (.sl 1))) [] [(1, .row 3 1 (v21.map encI))], .call false [] (.o (.c (.v (.bool v23)))) [] [], .as 49 true] [.sw 0 1000] [] [1000] (And.intro (And.intro (con_sw 1000 0 (impl_copyThings_ok a0 v1 h2)) (rfl : ([] : List Nat) = [])) (And.intro (impl_isThing_ok a0 a1 v3 h4) (And.intro h5 (And.intro (impl_isBox_ok a0 a2 v6 h7) (And.intro h8 (And.intro (impl_IsLocked_ok a0 a1 v9 h10) (And.intro h11 (And.intro (impl_IsLocked_ok a0 a2 v12 h13) (And.intro h14 (And.intro (impl_FindThing_ok a0 a2 v15 h16) (And.intro (gi_map Thing.enc h18) (And.intro h19 (And.intro h20 (And.intro (And.intro (con_sw 1000 1 (impl_around_ok a0 a2 v21 h22)) (rfl : ([] : List Nat) = [])) (And.intro (impl_hasInt_ok v21 a1 v23 h24) (And.intro h25 True.intro)))))))))))))))) (by kernel_rfl)
              · obtain ⟨v26, h27, hM⟩ := bind_some hM
                obtain ⟨v28, h29, hM⟩ := bind_some hM
                obtain ⟨v30, h31, hM⟩ := bind_some hM
                rcases cond_cases hM with ⟨h32, hM⟩ | ⟨h32, hM⟩
                · obtain ⟨v33, h34, hM⟩ := bind_some hM
                  have hE : some (v33, 4) = some r := hM
                  have hE := Option.some.inj hE
                  subst hE
                  exact pr R 9999 [.call false [] (.o (.c (.sl 0))) [] [(0, .row 49 6 (v1.map Thing.enc))], .call false [] (.o (.c (.v (.bool v3)))) [] [], .as 15 false, .call false [] (.o (.c (.v (.bool v6)))) [] [], .as 20 false, .call false [] (.o (.c (.v (.bool v9)))) [] [], .as 25 false, .call false [] (.o (.c (.v (.bool v12)))) [] [], .as 30 false, .call false [] (.o (.c (.v (.int .i64 v15)))) [] [], .ix (Thing.enc v17), .as 38 false, .as 43 false, .call false [] (.o (.c (.sl 1))) [] [(1, .row 3 1 (v21.map encI))], .call false [] (.o (.c (.v (.bool v23)))) [] [], .as 49 false, .call false [] (.o (.c (.v (.int .i64 v26)))) [] [], .ix (Thing.enc v28), .nm ((List.set v1 (Int.toNat v26) (Thing.mk v28.Id v28.Own v28.Room a2 v28.Box v28.Sealed)).map Thing.enc), .call false [] (.o (.c (.v (.bool v30)))) [] [], .as 58 true, .call false [] (.o (.c (.sl 2))) [] [(2, .row 49 6 (v33.map Thing.enc))]] [.sw 2 1000] [] [1000] (And.intro (And.intro (con_sw 1000 0 (impl_copyThings_ok a0 v1 h2)) (rfl : ([] : List Nat) = [])) (And.intro (impl_isThing_ok a0 a1 v3 h4) (And.intro h5 (And.intro (impl_isBox_ok a0 a2 v6 h7) (And.intro h8 (And.intro (impl_IsLocked_ok a0 a1 v9 h10) (And.intro h11 (And.intro (impl_IsLocked_ok a0 a2 v12 h13) (And.intro h14 (And.intro (impl_FindThing_ok a0 a2 v15 h16) (And.intro (gi_map Thing.enc h18) (And.intro h19 (And.intro h20 (And.intro (And.intro (con_sw 1000 1 (impl_around_ok a0 a2 v21 h22)) (rfl : ([] : List Nat) = [])) (And.intro (impl_hasInt_ok v21 a1 v23 h24) (And.intro h25 (And.intro (impl_FindThing_ok a0 a1 v26 h27) (And.intro (gi_lt Thing.enc h29) (And.intro (And.intro (gi_map Thing.enc h29).2 (set_map Thing.enc v1 (Int.toNat v26) (Thing.mk v28.Id v28.Own v28.Room a2 v28.Box v28.Sealed))) (And.intro (impl_areDeep_ok (List.set v1 (Int.toNat v26) (Thing.mk v28.Id v28.Own v28.Room a2 v28.Box v28.Sealed)) v30 h31) (And.intro h32 (And.intro (And.intro (con_sw 1000 2 (impl_copyThings_ok a0 v33 h34)) (rfl : ([] : List Nat) = [])) True.intro)))))))))))))))))))))) (by kernel_rfl)
                · obtain ⟨v35, h36, hM⟩ := bind_some hM
                  rcases cond_cases hM with ⟨h37, hM⟩ | ⟨h37, hM⟩
                  · obtain ⟨v38, h39, hM⟩ := bind_some hM
                    have hE : some (v38, 5) = some r := hM
                    have hE := Option.some.inj hE
                    subst hE
                    exact pr R 9999 [.call false [] (.o (.c (.sl 0))) [] [(0, .row 49 6 (v1.map Thing.enc))], .call false [] (.o (.c (.v (.bool v3)))) [] [], .as 15 false, .call false [] (.o (.c (.v (.bool v6)))) [] [], .as 20 false, .call false [] (.o (.c (.v (.bool v9)))) [] [], .as 25 false, .call false [] (.o (.c (.v (.bool v12)))) [] [], .as 30 false, .call false [] (.o (.c (.v (.int .i64 v15)))) [] [], .ix (Thing.enc v17), .as 38 false, .as 43 false, .call false [] (.o (.c (.sl 1))) [] [(1, .row 3 1 (v21.map encI))], .call false [] (.o (.c (.v (.bool v23)))) [] [], .as 49 false, .call false [] (.o (.c (.v (.int .i64 v26)))) [] [], .ix (Thing.enc v28), .nm ((List.set v1 (Int.toNat v26) (Thing.mk v28.Id v28.Own v28.Room a2 v28.Box v28.Sealed)).map Thing.enc), .call false [] (.o (.c (.v (.bool v30)))) [] [], .as 58 false, .call false [] (.o (.c (.v (.bool v35)))) [] [], .as 64 true, .call false [] (.o (.c (.sl 3))) [] [(3, .row 49 6 (v38.map Thing.enc))]] [.sw 3 1000] [] [1000] (And.intro (And.intro (con_sw 1000 0 (impl_copyThings_ok a0 v1 h2)) (rfl : ([] : List Nat) = [])) (And.intro (impl_isThing_ok a0 a1 v3 h4) (And.intro h5 (And.intro (impl_isBox_ok a0 a2 v6 h7) (And.intro h8 (And.intro (impl_IsLocked_ok a0 a1 v9 h10) (And.intro h11 (And.intro (impl_IsLocked_ok a0 a2 v12 h13) (And.intro h14 (And.intro (impl_FindThing_ok a0 a2 v15 h16) (And.intro (gi_map Thing.enc h18) (And.intro h19 (And.intro h20 (And.intro (And.intro (con_sw 1000 1 (impl_around_ok a0 a2 v21 h22)) (rfl : ([] : List Nat) = [])) (And.intro (impl_hasInt_ok v21 a1 v23 h24) (And.intro h25 (And.intro (impl_FindThing_ok a0 a1 v26 h27) (And.intro (gi_lt Thing.enc h29) (And.intro (And.intro (gi_map Thing.enc h29).2 (set_map Thing.enc v1 (Int.toNat v26) (Thing.mk v28.Id v28.Own v28.Room a2 v28.Box v28.Sealed))) (And.intro (impl_areDeep_ok (List.set v1 (Int.toNat v26) (Thing.mk v28.Id v28.Own v28.Room a2 v28.Box v28.Sealed)) v30 h31) (And.intro h32 (And.intro (impl_AreThings_ok (List.set v1 (Int.toNat v26) (Thing.mk v28.Id v28.Own v28.Room a2 v28.Box v28.Sealed)) v35 h36) (And.intro h37 (And.intro (And.intro (con_sw 1000 3 (impl_copyThings_ok a0 v38 h39)) (rfl : ([] : List Nat) = [])) True.intro)))))))))))))))))))))))) (by kernel_rfl)
                  · have hE : some (List.set v1 (Int.toNat v26) (Thing.mk v28.Id v28.Own v28.Room a2 v28.Box v28.Sealed), 0) = some r := hM
                    have hE := Option.some.inj hE
                    subst hE
                    exact pr R 9999 [.call false [] (.o (.c (.sl 0))) [] [(0, .row 49 6 (v1.map Thing.enc))], .call false [] (.o (.c (.v (.bool v3)))) [] [], .as 15 false, .call false [] (.o (.c (.v (.bool v6)))) [] [], .as 20 false, .call false [] (.o (.c (.v (.bool v9)))) [] [], .as 25 false, .call false [] (.o (.c (.v (.bool v12)))) [] [], .as 30 false, .call false [] (.o (.c (.v (.int .i64 v15)))) [] [], .ix (Thing.enc v17), .as 38 false, .as 43 false, .call false [] (.o (.c (.sl 1))) [] [(1, .row 3 1 (v21.map encI))], .call false [] (.o (.c (.v (.bool v23)))) [] [], .as 49 false, .call false [] (.o (.c (.v (.int .i64 v26)))) [] [], .ix (Thing.enc v28), .nm ((List.set v1 (Int.toNat v26) (Thing.mk v28.Id v28.Own v28.Room a2 v28.Box v28.Sealed)).map Thing.enc), .call false [] (.o (.c (.v (.bool v30)))) [] [], .as 58 false, .call false [] (.o (.c (.v (.bool v35)))) [] [], .as 64 false] [.sw 0 1000] [] [1000] (And.intro (And.intro (con_sw 1000 0 (impl_copyThings_ok a0 v1 h2)) (rfl : ([] : List Nat) = [])) (And.intro (impl_isThing_ok a0 a1 v3 h4) (And.intro h5 (And.intro (impl_isBox_ok a0 a2 v6 h7) (And.intro h8 (And.intro (impl_IsLocked_ok a0 a1 v9 h10) (And.intro h11 (And.intro (impl_IsLocked_ok a0 a2 v12 h13) (And.intro h14 (And.intro (impl_FindThing_ok a0 a2 v15 h16) (And.intro (gi_map Thing.enc h18) (And.intro h19 (And.intro h20 (And.intro (And.intro (con_sw 1000 1 (impl_around_ok a0 a2 v21 h22)) (rfl : ([] : List Nat) = [])) (And.intro (impl_hasInt_ok v21 a1 v23 h24) (And.intro h25 (And.intro (impl_FindThing_ok a0 a1 v26 h27) (And.intro (gi_lt Thing.enc h29) (And.intro (And.intro (gi_map Thing.enc h29).2 (set_map Thing.enc v1 (Int.toNat v26) (Thing.mk v28.Id v28.Own v28.Room a2 v28.Box v28.Sealed))) (And.intro (impl_areDeep_ok (List.set v1 (Int.toNat v26) (Thing.mk v28.Id v28.Own v28.Room a2 v28.Box v28.Sealed)) v30 h31) (And.intro h32 (And.intro (impl_AreThings_ok (List.set v1 (Int.toNat v26) (Thing.mk v28.Id v28.Own v28.Room a2 v28.Box v28.Sealed)) v35 h36) (And.intro h37 True.intro))))))))))))))))))))))) (by kernel_rfl)

-- loop.example/g03014/impl.TakeFrom
def impl_TakeFrom (a0 : (List Thing)) (a1 : Int) : Option ((List Thing) × Int) :=
  (impl_copyThings a0).bind fun v1 =>
  (impl_isThing a0 a1).bind fun v3 =>
  bif (!v3) then
  some (v1, 1)
  else
  (impl_IsLocked a0 a1).bind fun v6 =>
  bif v6 then
  some (v1, 2)
  else
  (impl_FindThing a0 a1).bind fun v9 =>
  (gi a0 v9).bind fun v11 =>
  bif (v11.In == 0) then
  some (v1, 6)
  else
  (gi a0 v9).bind fun v14 =>
  (impl_FindThing a0 v14.In).bind fun v16 =>
  (gi a0 v16).bind fun v18 =>
  (gi v1 v9).bind fun v20 =>
  some (List.set v1 (Int.toNat v9) (Thing.mk v20.Id v20.Own v20.Room v18.In v20.Box v20.Sealed), 0)
theorem impl_TakeFrom_ok (a0 : (List Thing)) (a1 : Int) (r : (List Thing) × Int) (hM : impl_TakeFrom a0 a1 = some r) :
    Con Try.prog 49 [.c (.rs 6 (a0.map Thing.enc)), .c (.v (.int .i64 a1))] [] (.tup [.c (.sl 1000), .c (.v (.int .i64 r.2))]) [] [(1000, .row 49 6 (r.1.map Thing.enc))] := by
  unfold impl_TakeFrom at hM
  refine cn (N := 45) (pids := []) Try_mixed Try.func49 (by kernel_rfl) (by kernel_rfl) (by kernel_rfl) rfl fun ρ g w R => ?_
  obtain ⟨v1, h2, hM⟩ := bind_some hM
  obtain ⟨v3, h4, hM⟩ := bind_some hM
  rcases cond_cases hM with ⟨h5, hM⟩ | ⟨h5, hM⟩
  · have hE : some (v1, 1) = some r := hM
    have hE := Option.some.inj hE
    subst hE
    exact pr R 9999 [.call false [] (.o (.c (.sl 0))) [] [(0, .row 49 6 (v1.map Thing.enc))], .call false [] (.o (.c (.v (.bool v3)))) [] [], .as 13 true] [.sw 0 1000] [] [1000] (And.intro (And.intro (con_sw 1000 0 (impl_copyThings_ok a0 v1 h2)) (rfl : ([] : List Nat) = [])) (And.intro (impl_isThing_ok a0 a1 v3 h4) (And.intro h5 True.intro))) (by kernel_rfl)
  · obtain ⟨v6, h7, hM⟩ := bind_some hM
    rcases cond_cases hM with ⟨h8, hM⟩ | ⟨h8, hM⟩
    · have hE : some (v1, 2) = some r := hM
      have hE := Option.some.inj hE
      subst hE
      exact pr R 9999 [.call false [] (.o (.c (.sl 0))) [] [(0, .row 49 6 (v1.map Thing.enc))], .call false [] (.o (.c (.v (.bool v3)))) [] [], .as 13 false, .call false [] (.o (.c (.v (.bool v6)))) [] [], .as 17 true] [.sw 0 1000] [] [1000] (And.intro (And.intro (con_sw 1000 0 (impl_copyThings_ok a0 v1 h2)) (rfl : ([] : List Nat) = [])) (And.intro (impl_isThing_ok a0 a1 v3 h4) (And.intro h5 (And.intro (impl_IsLocked_ok a0 a1 v6 h7) (And.intro h8 True.intro))))) (by kernel_rfl)
    · obtain ⟨v9, h10, hM⟩ := bind_some hM
      obtain ⟨v11, h12, hM⟩ := bind_some hM
      rcases cond_cases hM with ⟨h13, hM⟩ | ⟨h13, hM⟩
      · have hE : some (v1, 6) = some r := hM
        have hE := Option.some.inj hE
        subst hE
        exact pr R 9999 [.call false [] (.o (.c (.sl 0))) [] [(0, .row 49 6 (v1.map Thing.enc))], .call false [] (.o (.c (.v (.bool v3)))) [] [], .as 13 false, .call false [] (.o (.c (.v (.bool v6)))) [] [], .as 17 false, .call false [] (.o (.c (.v (.int .i64 v9)))) [] [], .ix (Thing.enc v11), .as 27 true] [.sw 0 1000] [] [1000] (And.intro (And.intro (con_sw 1000 0 (impl_copyThings_ok a0 v1 h2)) (rfl : ([] : List Nat) = [])) (And.intro (impl_isThing_ok a0 a1 v3 h4) (And.intro h5 (And.intro (impl_IsLocked_ok a0 a1 v6 h7) (And.intro h8 (And.intro (impl_FindThing_ok a0 a1 v9 h10) (And.intro (gi_map Thing.enc h12) (And.intro h13 True.intro)))))))) (by kernel_rfl)
      · obtain ⟨v14, h15, hM⟩ := bind_some hM
        obtain ⟨v16, h17, hM⟩ := bind_some hM
        obtain ⟨v18, h19, hM⟩ := bind_some hM
        obtain ⟨v20, h21, hM⟩ := bind_some hM
        have hE : some (List.set v1 (Int.toNat v9) (Thing.mk v20.Id v20.Own v20.Room v18.In v20.Box v20.Sealed), 0) = some r := hM
        have hE := Option.some.inj hE
        subst hE
        exact pr R 9999 [.call false [] (.o (.c (.sl 0))) [] [(0, .row 49 6 (v1.map Thing.enc))], .call false [] (.o (.c (.v (.bool v3)))) [] [], .as 13 false, .call false [] (.o (.c (.v (.bool v6)))) [] [], .as 17 false, .call false [] (.o (.c (.v (.int .i64 v9)))) [] [], .ix (Thing.enc v11), .as 27 false, .ix (Thing.enc v14), .call false [] (.o (.c (.v (.int .i64 v16)))) [] [], .ix (Thing.enc v18), .ix (Thing.enc v20), .nm ((List.set v1 (Int.toNat v9) (Thing.mk v20.Id v20.Own v20.Room v18.In v20.Box v20.Sealed)).map Thing.enc)] [.sw 0 1000] [] [1000] (And.intro (And.intro (con_sw 1000 0 (impl_copyThings_ok a0 v1 h2)) (rfl : ([] : List Nat) = [])) (And.intro (impl_isThing_ok a0 a1 v3 h4) (And.intro h5 (And.intro (impl_IsLocked_ok a0 a1 v6 h7) (And.intro h8 (And.intro (impl_FindThing_ok a0 a1 v9 h10) (And.intro (gi_map Thing.enc h12) (And.intro h13 (And.intro (gi_map Thing.enc h15) (And.intro (impl_FindThing_ok a0 v14.In v16 h17) (And.intro (gi_map Thing.enc h19) (And.intro (gi_lt Thing.enc h21) (And.intro (And.intro (gi_map Thing.enc h21).2 (set_map Thing.enc v1 (Int.toNat v9) (Thing.mk v20.Id v20.Own v20.Room v18.In v20.Box v20.Sealed))) True.intro))))))))))))) (by kernel_rfl)

-- loop.example/g03014/laws.FnWeighed
def laws_FnWeighed_L3_b (s37 : (List Thing)) (s38 : Int) (s39 : Int) : Option (Ctl (Int × Int) Int Bool) :=
  bif (decide (s39 < (s37.length : Int))) then
  (gi s37 s39).bind fun v47 =>
  (impl_DepthOf s37 v47.Id).bind fun v49 =>
  bif (v49 == 0) then
  (gi s37 s39).bind fun v52 =>
  (impl_GrossOf s37 v52.Id).bind fun v54 =>
  some (.next (w64 (s38 + v54), w64 (s39 + 1)))
  else
  some (.next (s38, w64 (s39 + 1)))
  else
  some (.brk s38)
def laws_FnWeighed_L3 (s37 : (List Thing)) (s : Int × Int) : Option (Ctl (Int × Int) Int Bool) := laws_FnWeighed_L3_b s37 s.1 s.2
def laws_FnWeighed_L3_s (s13 : Int) (v14 : ((List Thing) × Int)) (v16 : ((List Thing) × Int)) (s18 : (List Thing)) (s19 : (List Thing)) (s20 : (List Thing)) (s21 : Int) (s37 : (List Thing)) (s38 : Int) (s39 : Int) : St := ⟨[(3, .o (.c (.rs 6 (s18.map Thing.enc)))), (8, .o (.c (.v (.int .i64 s13)))), (10, .o (.c (.rs 6 (s19.map Thing.enc)))), (11, .o (.c (.v (.int .i64 v14.2)))), (12, .o (.c (.rs 6 (s20.map Thing.enc)))), (13, .o (.c (.v (.int .i64 v16.2)))), (14, .o (.c (.v (.int .i64 s21)))), (15, .o (.c (.rs 6 (s37.map Thing.enc)))), (16, .o (.c (.v (.int .i64 s38)))), (17, .o (.c (.v (.int .i64 s39))))], []⟩
def laws_FnWeighed_L3_S (s13 : Int) (v14 : ((List Thing) × Int)) (v16 : ((List Thing) × Int)) (s18 : (List Thing)) (s19 : (List Thing)) (s20 : (List Thing)) (s21 : Int) (s37 : (List Thing)) (s : Int × Int) : St := laws_FnWeighed_L3_s s13 v14 v16 s18 s19 s20 s21 s37 s.1 s.2
def laws_FnWeighed_L3_a (s13 : Int) (s18 : (List Thing)) (s19 : (List Thing)) (s20 : (List Thing)) (s21 : Int) (s37 : (List Thing)) (s40 : Int) : Option (Ctl ((List Thing) × (List Thing) × (List Thing) × Int) ((List Thing) × (List Thing) × (List Thing)) Bool) :=
  (impl_AreThings s37).bind fun v41 =>
  bif (!v41) then
  some (.ret false)
  else
  bif (s40 != s13) then
  some (.ret false)
  else
  bif ((s37.length : Int) != (s18.length : Int)) then
  some (.ret false)
  else
  some (.next (s18, s19, s20, w64 (s21 + 1)))
def laws_FnWeighed_L3_k (s13 : Int) (s18 : (List Thing)) (s19 : (List Thing)) (s20 : (List Thing)) (s21 : Int) (s37 : (List Thing)) (x : (Int) ⊕ (Bool)) : Option (Ctl ((List Thing) × (List Thing) × (List Thing) × Int) ((List Thing) × (List Thing) × (List Thing)) Bool) := match x with
  | .inl t => laws_FnWeighed_L3_a s13 s18 s19 s20 s21 s37 t
  | .inr y => some (.ret y)
def laws_FnWeighed_j2 (s13 : Int) (s18 : (List Thing)) (s19 : (List Thing)) (s20 : (List Thing)) (s21 : Int) (s37 : (List Thing)) : Option (Ctl ((List Thing) × (List Thing) × (List Thing) × Int) ((List Thing) × (List Thing) × (List Thing)) Bool) :=
  (loopM (laws_FnWeighed_L3 s37) big (0, 0)).bind (laws_FnWeighed_L3_k s13 s18 s19 s20 s21 s37)
def laws_FnWeighed_j1 (s13 : Int) (s18 : (List Thing)) (s19 : (List Thing)) (s20 : (List Thing)) (s21 : Int) (s36 : (List Thing)) : Option (Ctl ((List Thing) × (List Thing) × (List Thing) × Int) ((List Thing) × (List Thing) × (List Thing)) Bool) :=
  bif (s21 == 2) then
  laws_FnWeighed_j2 s13 s18 s19 s20 s21 s20
  else
  laws_FnWeighed_j2 s13 s18 s19 s20 s21 s36
def laws_FnWeighed_L2_b (s13 : Int) (s18 : (List Thing)) (s19 : (List Thing)) (s20 : (List Thing)) (s21 : Int) : Option (Ctl ((List Thing) × (List Thing) × (List Thing) × Int) ((List Thing) × (List Thing) × (List Thing)) Bool) :=
  bif (decide (s21 < 3)) then
  bif (s21 == 1) then
  laws_FnWeighed_j1 s13 s18 s19 s20 s21 s19
  else
  laws_FnWeighed_j1 s13 s18 s19 s20 s21 s18
  else
  some (.brk (s18, s19, s20))
def laws_FnWeighed_L2 (s13 : Int) (s : (List Thing) × (List Thing) × (List Thing) × Int) : Option (Ctl ((List Thing) × (List Thing) × (List Thing) × Int) ((List Thing) × (List Thing) × (List Thing)) Bool) := laws_FnWeighed_L2_b s13 s.1 s.2.1 s.2.2.1 s.2.2.2
def laws_FnWeighed_L2_s (s13 : Int) (v14 : ((List Thing) × Int)) (v16 : ((List Thing) × Int)) (s18 : (List Thing)) (s19 : (List Thing)) (s20 : (List Thing)) (s21 : Int) : St := ⟨[(3, .o (.c (.rs 6 (s18.map Thing.enc)))), (8, .o (.c (.v (.int .i64 s13)))), (10, .o (.c (.rs 6 (s19.map Thing.enc)))), (11, .o (.c (.v (.int .i64 v14.2)))), (12, .o (.c (.rs 6 (s20.map Thing.enc)))), (13, .o (.c (.v (.int .i64 v16.2)))), (14, .o (.c (.v (.int .i64 s21))))], []⟩
def laws_FnWeighed_L2_S (s13 : Int) (v14 : ((List Thing) × Int)) (v16 : ((List Thing) × Int)) (s : (List Thing) × (List Thing) × (List Thing) × Int) : St := laws_FnWeighed_L2_s s13 v14 v16 s.1 s.2.1 s.2.2.1 s.2.2.2
def laws_FnWeighed_L2_a (v14 : ((List Thing) × Int)) (v16 : ((List Thing) × Int)) (s22 : (List Thing)) (s23 : (List Thing)) (s24 : (List Thing)) : Option Bool :=
  bif (v14.2 == 0) then
  bif (v16.2 == 0) then
  some true
  else
  (laws_things s24 s22).bind fun v27 =>
  some v27
  else
  (laws_things s23 s22).bind fun v29 =>
  bif v29 then
  bif (v16.2 == 0) then
  some true
  else
  (laws_things s24 s22).bind fun v33 =>
  some v33
  else
  some false
def laws_FnWeighed_L2_k (v14 : ((List Thing) × Int)) (v16 : ((List Thing) × Int)) (x : ((List Thing) × (List Thing) × (List Thing)) ⊕ (Bool)) : Option Bool := match x with
  | .inl t => laws_FnWeighed_L2_a v14 v16 t.1 t.2.1 t.2.2
  | .inr y => some y
def laws_FnWeighed_L1_b (v4 : ((List Thing) × Int × Int)) (s11 : Int) (s12 : Int) : Option (Ctl (Int × Int) Int Bool) :=
  bif (decide (s12 < (v4.1.length : Int))) then
  (gi v4.1 s12).bind fun v59 =>
  some (.next (w64 (s11 + v59.Own), w64 (s12 + 1)))
  else
  some (.brk s11)
def laws_FnWeighed_L1 (v4 : ((List Thing) × Int × Int)) (s : Int × Int) : Option (Ctl (Int × Int) Int Bool) := laws_FnWeighed_L1_b v4 s.1 s.2
def laws_FnWeighed_L1_s (v4 : ((List Thing) × Int × Int)) (s11 : Int) (s12 : Int) : St := ⟨[(3, .o (.c (.sl 0))), (4, .o (.c (.v (.int .i64 v4.2.1)))), (5, .o (.c (.v (.int .i64 v4.2.2)))), (8, .o (.c (.v (.int .i64 s11)))), (9, .o (.c (.v (.int .i64 s12))))], [(0, .row 49 6 (v4.1.map Thing.enc))]⟩
def laws_FnWeighed_L1_S (v4 : ((List Thing) × Int × Int)) (s : Int × Int) : St := laws_FnWeighed_L1_s v4 s.1 s.2
def laws_FnWeighed_L1_a (v4 : ((List Thing) × Int × Int)) (s13 : Int) : Option Bool :=
  (impl_PutInto v4.1 v4.2.1 v4.2.2).bind fun v14 =>
  (impl_TakeFrom v4.1 v4.2.1).bind fun v16 =>
  (loopM (laws_FnWeighed_L2 s13) big (v4.1, v14.1, v16.1, 0)).bind (laws_FnWeighed_L2_k v14 v16)
def laws_FnWeighed_L1_k (v4 : ((List Thing) × Int × Int)) (x : (Int) ⊕ (Bool)) : Option Bool := match x with
  | .inl t => laws_FnWeighed_L1_a v4 t
  | .inr y => some y
def laws_FnWeighed (a0 : (List Int)) : Option Bool :=
  (laws_big a0).bind fun v1 =>
  bif v1 then
  some true
  else
  (spec_DrawPutInto a0).bind fun v4 =>
  (spec_AreThings v4.1).bind fun v6 =>
  bif (!v6) then
  (impl_PutInto v4.1 v4.2.1 v4.2.2).bind fun v9 =>
  some (v9.2 == 1)
  else
  (loopM (laws_FnWeighed_L1 v4) big (0, 0)).bind (laws_FnWeighed_L1_k v4)
theorem laws_FnWeighed_ok (a0 : (List Int)) (r : Bool) (hM : laws_FnWeighed a0 = some r) :
    Con Try.prog 17 [.c (.rs 1 (a0.map encU8))] [] (.o (.c (.v (.bool r)))) [] [] := by
  unfold laws_FnWeighed at hM
  refine cn (N := 129) (pids := []) Try_mixed Try.func17 (by kernel_rfl) (by kernel_rfl) (by kernel_rfl) rfl fun ρ g w R => ?_
  obtain ⟨v1, h2, hM⟩ := bind_some hM
  rcases cond_cases hM with ⟨h3, hM⟩ | ⟨h3, hM⟩
  · have hE : some true = some r := hM
    have hE := Option.some.inj hE
    subst hE
    exact pr R 9999 [.call false [] (.o (.c (.v (.bool v1)))) [] [], .as 19 true] [] [] [] (And.intro (laws_big_ok a0 v1 h2) (And.intro h3 True.intro)) (by kernel_rfl)
  · obtain ⟨v4, h5, hM⟩ := bind_some hM
    obtain ⟨v6, h7, hM⟩ := bind_some hM
    rcases cond_cases hM with ⟨h8, hM⟩ | ⟨h8, hM⟩
    · obtain ⟨v9, h10, hM⟩ := bind_some hM
      have hE : some (v9.2 == 1) = some r := hM
      have hE := Option.some.inj hE
      subst hE
      exact pr R 9999 [.call false [] (.o (.c (.v (.bool v1)))) [] [], .as 19 false, .call false [] (.tup [.c (.sl 0), .c (.v (.int .i64 v4.2.1)), .c (.v (.int .i64 v4.2.2))]) [] [(0, .row 49 6 (v4.1.map Thing.enc))], .call false [] (.o (.c (.v (.bool v6)))) [] [], .as 28 true, .call false [] (.tup [.c (.sl 1), .c (.v (.int .i64 v9.2))]) [] [(1, .row 49 6 (v9.1.map Thing.enc))]] [] [] [] (And.intro (laws_big_ok a0 v1 h2) (And.intro h3 (And.intro (And.intro (con_sw 1000 0 (spec_DrawPutInto_ok a0 v4 h5)) (rfl : ([] : List Nat) = [])) (And.intro (spec_AreThings_ok v4.1 v6 h7) (And.intro h8 (And.intro (And.intro (con_sw 1000 1 (impl_PutInto_ok v4.1 v4.2.1 v4.2.2 v9 h10)) (rfl : ([] : List Nat) = [])) True.intro)))))) (by kernel_rfl)
    · have K1 : ∀ (s13 : Int), laws_FnWeighed_L1_a v4 s13 = some r → Gr R [.code (cAt Try.f17 [1, 1, 1, 1, 1, 1])] (⟨[(3, .o (.c (.sl 0))), (4, .o (.c (.v (.int .i64 v4.2.1)))), (5, .o (.c (.v (.int .i64 v4.2.2)))), (8, .o (.c (.v (.int .i64 s13))))], [(0, .row 49 6 (v4.1.map Thing.enc))]⟩) := by
        intro s13 hM
        unfold laws_FnWeighed_L1_a at hM
        obtain ⟨v14, h15, hM⟩ := bind_some hM
        obtain ⟨v16, h17, hM⟩ := bind_some hM
        have K2 : ∀ (s22 : (List Thing)) (s23 : (List Thing)) (s24 : (List Thing)), laws_FnWeighed_L2_a v14 v16 s22 s23 s24 = some r → Gr R [.code (cAt Try.f17 [1, 1, 1, 1, 1, 1, 1, 1, 1])] (⟨[(3, .o (.c (.rs 6 (s22.map Thing.enc)))), (10, .o (.c (.rs 6 (s23.map Thing.enc)))), (11, .o (.c (.v (.int .i64 v14.2)))), (12, .o (.c (.rs 6 (s24.map Thing.enc)))), (13, .o (.c (.v (.int .i64 v16.2))))], []⟩) := by
          intro s22 s23 s24 hM
          unfold laws_FnWeighed_L2_a at hM
          rcases cond_cases hM with ⟨h25, hM⟩ | ⟨h25, hM⟩
          · rcases cond_cases hM with ⟨h26, hM⟩ | ⟨h26, hM⟩
            · have hE : some true = some r := hM
              have hE := Option.some.inj hE
              subst hE
              exact pr R 9999 [.as 115 true, .as 123 true] [] [] [] (And.intro h25 (And.intro h26 True.intro)) (by kernel_rfl)
            · obtain ⟨v27, h28, hM⟩ := bind_some hM
              have hE : some v27 = some r := hM
              have hE := Option.some.inj hE
              subst hE
              exact pr R 9999 [.as 115 true, .as 123 false, .call false [] (.o (.c (.v (.bool v27)))) [] []] [] [] [] (And.intro h25 (And.intro h26 (And.intro (laws_things_ok s24 s22 v27 h28) True.intro))) (by kernel_rfl)
          · obtain ⟨v29, h30, hM⟩ := bind_some hM
            rcases cond_cases hM with ⟨h31, hM⟩ | ⟨h31, hM⟩
            · rcases cond_cases hM with ⟨h32, hM⟩ | ⟨h32, hM⟩
              · have hE : some true = some r := hM
                have hE := Option.some.inj hE
                subst hE
                exact pr R 9999 [.as 115 false, .call false [] (.o (.c (.v (.bool v29)))) [] [], .as 120 true, .as 123 true] [] [] [] (And.intro h25 (And.intro (laws_things_ok s23 s22 v29 h30) (And.intro h31 (And.intro h32 True.intro)))) (by kernel_rfl)
              · obtain ⟨v33, h34, hM⟩ := bind_some hM
                have hE : some v33 = some r := hM
                have hE := Option.some.inj hE
                subst hE
                exact pr R 9999 [.as 115 false, .call false [] (.o (.c (.v (.bool v29)))) [] [], .as 120 true, .as 123 false, .call false [] (.o (.c (.v (.bool v33)))) [] []] [] [] [] (And.intro h25 (And.intro (laws_things_ok s23 s22 v29 h30) (And.intro h31 (And.intro h32 (And.intro (laws_things_ok s24 s22 v33 h34) True.intro))))) (by kernel_rfl)
            · have hE : some false = some r := hM
              have hE := Option.some.inj hE
              subst hE
              exact pr R 9999 [.as 115 false, .call false [] (.o (.c (.v (.bool v29)))) [] [], .as 120 false] [] [] [] (And.intro h25 (And.intro (laws_things_ok s23 s22 v29 h30) (And.intro h31 True.intro))) (by kernel_rfl)
        refine pc R 9999 [.call false [] (.tup [.c (.sl 2), .c (.v (.int .i64 v14.2))]) [] [(2, .row 49 6 (v14.1.map Thing.enc))], .call false [] (.tup [.c (.sl 3), .c (.v (.int .i64 v16.2))]) [] [(3, .row 49 6 (v16.1.map Thing.enc))]] [.fz 0, .fz 2, .fz 3, .keep [3, 8, 10, 11, 12, 13, 14] []] (k' := [.code (.loop (cAt Try.f17 [1, 1, 1, 1, 1, 1, 1, 1, 0, 1, 0, 0])), .blk 2, .code (cAt Try.f17 [1, 1, 1, 1, 1, 1, 1, 1, 1])]) (S' := laws_FnWeighed_L2_S s13 v14 v16 (v4.1, v14.1, v16.1, 0)) (And.intro (And.intro (con_sw 1000 2 (impl_PutInto_ok v4.1 v4.2.1 v4.2.2 v14 h15)) (rfl : ([] : List Nat) = [])) (And.intro (And.intro (con_sw 1000 3 (impl_TakeFrom_ok v4.1 v4.2.1 v16 h17)) (rfl : ([] : List Nat) = [])) True.intro)) (by kernel_rfl) ?_
        refine lq (laws_FnWeighed_L2_S s13 v14 v16) (body := laws_FnWeighed_L2 s13) (k := laws_FnWeighed_L2_k v14 v16) hM fun m2 s c2 hM hK2 => ?_
        obtain ⟨s18, s19, s20, s21⟩ := s
        have hM : laws_FnWeighed_L2_b s13 s18 s19 s20 s21 = some c2 := hM
        unfold laws_FnWeighed_L2_b at hM
        rcases cond_cases hM with ⟨h35, hM⟩ | ⟨h35, hM⟩
        · have J2 : ∀ (s36 : (List Thing)), laws_FnWeighed_j1 s13 s18 s19 s20 s21 s36 = some c2 → Gr R [.code (cAt Try.f17 [1, 1, 1, 1, 1, 1, 1, 1, 0, 1, 0, 0, 1, 0, 0, 1, 1]), .blk 3, .code (cAt Try.f17 [1, 1, 1, 1, 1, 1, 1, 1, 0, 1, 0, 0, 1, 1]), .inv (Jr R (laws_FnWeighed_L2_S s13 v14 v16) (Mk (laws_FnWeighed_L2 s13) (laws_FnWeighed_L2_k v14 v16) r) (m2 + 1)), .blk 2, .code (cAt Try.f17 [1, 1, 1, 1, 1, 1, 1, 1, 1])] (⟨[(3, .o (.c (.rs 6 (s18.map Thing.enc)))), (8, .o (.c (.v (.int .i64 s13)))), (10, .o (.c (.rs 6 (s19.map Thing.enc)))), (11, .o (.c (.v (.int .i64 v14.2)))), (12, .o (.c (.rs 6 (s20.map Thing.enc)))), (13, .o (.c (.v (.int .i64 v16.2)))), (14, .o (.c (.v (.int .i64 s21)))), (15, .o (.c (.rs 6 (s36.map Thing.enc))))], []⟩) := by
            intro s36 hM
            unfold laws_FnWeighed_j1 at hM
            have J2 : ∀ (s37 : (List Thing)), laws_FnWeighed_j2 s13 s18 s19 s20 s21 s37 = some c2 → Gr R [.code (cAt Try.f17 [1, 1, 1, 1, 1, 1, 1, 1, 0, 1, 0, 0, 1, 0, 0, 1, 1, 1]), .blk 3, .code (cAt Try.f17 [1, 1, 1, 1, 1, 1, 1, 1, 0, 1, 0, 0, 1, 1]), .inv (Jr R (laws_FnWeighed_L2_S s13 v14 v16) (Mk (laws_FnWeighed_L2 s13) (laws_FnWeighed_L2_k v14 v16) r) (m2 + 1)), .blk 2, .code (cAt Try.f17 [1, 1, 1, 1, 1, 1, 1, 1, 1])] (⟨[(3, .o (.c (.rs 6 (s18.map Thing.enc)))), (8, .o (.c (.v (.int .i64 s13)))), (10, .o (.c (.rs 6 (s19.map Thing.enc)))), (11, .o (.c (.v (.int .i64 v14.2)))), (12, .o (.c (.rs 6 (s20.map Thing.enc)))), (13, .o (.c (.v (.int .i64 v16.2)))), (14, .o (.c (.v (.int .i64 s21)))), (15, .o (.c (.rs 6 (s37.map Thing.enc))))], []⟩) := by
              intro s37 hM
              unfold laws_FnWeighed_j2 at hM
              have K3 : ∀ (s40 : Int), laws_FnWeighed_L3_a s13 s18 s19 s20 s21 s37 s40 = some c2 → Gr R [.code (cAt Try.f17 [1, 1, 1, 1, 1, 1, 1, 1, 0, 1, 0, 0, 1, 0, 0, 1, 1, 1, 1, 1]), .blk 3, .code (cAt Try.f17 [1, 1, 1, 1, 1, 1, 1, 1, 0, 1, 0, 0, 1, 1]), .inv (Jr R (laws_FnWeighed_L2_S s13 v14 v16) (Mk (laws_FnWeighed_L2 s13) (laws_FnWeighed_L2_k v14 v16) r) (m2 + 1)), .blk 2, .code (cAt Try.f17 [1, 1, 1, 1, 1, 1, 1, 1, 1])] (⟨[(3, .o (.c (.rs 6 (s18.map Thing.enc)))), (8, .o (.c (.v (.int .i64 s13)))), (10, .o (.c (.rs 6 (s19.map Thing.enc)))), (11, .o (.c (.v (.int .i64 v14.2)))), (12, .o (.c (.rs 6 (s20.map Thing.enc)))), (13, .o (.c (.v (.int .i64 v16.2)))), (14, .o (.c (.v (.int .i64 s21)))), (15, .o (.c (.rs 6 (s37.map Thing.enc)))), (16, .o (.c (.v (.int .i64 s40))))], []⟩) := by
                intro s40 hM
                unfold laws_FnWeighed_L3_a at hM
                obtain ⟨v41, h42, hM⟩ := bind_some hM
                rcases cond_cases hM with ⟨h43, hM⟩ | ⟨h43, hM⟩
                · have hE : some (Ctl.ret false) = some c2 := hM
                  have hE := Option.some.inj hE
                  subst hE
                  have hE : some false = some r := hK2
                  have hE := Option.some.inj hE
                  subst hE
                  exact pr R 9999 [.call false [] (.o (.c (.v (.bool v41)))) [] [], .as 101 true] [] [] [] (And.intro (impl_AreThings_ok s37 v41 h42) (And.intro h43 True.intro)) (by kernel_rfl)
                · rcases cond_cases hM with ⟨h44, hM⟩ | ⟨h44, hM⟩
                  · have hE : some (Ctl.ret false) = some c2 := hM
                    have hE := Option.some.inj hE
                    subst hE
                    have hE : some false = some r := hK2
                    have hE := Option.some.inj hE
                    subst hE
                    exact pr R 9999 [.call false [] (.o (.c (.v (.bool v41)))) [] [], .as 101 false, .as 106 true] [] [] [] (And.intro (impl_AreThings_ok s37 v41 h42) (And.intro h43 (And.intro h44 True.intro))) (by kernel_rfl)
                  · rcases cond_cases hM with ⟨h45, hM⟩ | ⟨h45, hM⟩
                    · have hE : some (Ctl.ret false) = some c2 := hM
                      have hE := Option.some.inj hE
                      subst hE
                      have hE : some false = some r := hK2
                      have hE := Option.some.inj hE
                      subst hE
                      exact pr R 9999 [.call false [] (.o (.c (.v (.bool v41)))) [] [], .as 101 false, .as 106 false, .ln (s37.length), .ln (s18.length), .as 112 true] [] [] [] (And.intro (impl_AreThings_ok s37 v41 h42) (And.intro h43 (And.intro h44 (And.intro (lenm Thing.enc s37) (And.intro (lenm Thing.enc s18) (And.intro h45 True.intro)))))) (by kernel_rfl)
                    · have hE : some (Ctl.next (s18, s19, s20, w64 (s21 + 1))) = some c2 := hM
                      have hE := Option.some.inj hE
                      subst hE
                      exact pc R 9999 [.call false [] (.o (.c (.v (.bool v41)))) [] [], .as 101 false, .as 106 false, .ln (s37.length), .ln (s18.length), .as 112 false] [.keep [3, 8, 10, 11, 12, 13, 14] []] (And.intro (impl_AreThings_ok s37 v41 h42) (And.intro h43 (And.intro h44 (And.intro (lenm Thing.enc s37) (And.intro (lenm Thing.enc s18) (And.intro h45 True.intro)))))) (by kernel_rfl) (li (Sf := laws_FnWeighed_L2_S s13 v14 v16) (M := Mk (laws_FnWeighed_L2 s13) (laws_FnWeighed_L2_k v14 v16) r) (k := [.blk 2, .code (cAt Try.f17 [1, 1, 1, 1, 1, 1, 1, 1, 1])]) (Nat.lt_succ_self m2) hK2)
              refine pc R 9999 [] [.keep [3, 8, 10, 11, 12, 13, 14, 15, 16, 17] []] (k' := [.code (.loop (cAt Try.f17 [1, 1, 1, 1, 1, 1, 1, 1, 0, 1, 0, 0, 1, 0, 0, 1, 1, 1, 1, 0, 1, 0, 0])), .blk 4, .code (cAt Try.f17 [1, 1, 1, 1, 1, 1, 1, 1, 0, 1, 0, 0, 1, 0, 0, 1, 1, 1, 1, 1]), .blk 3, .code (cAt Try.f17 [1, 1, 1, 1, 1, 1, 1, 1, 0, 1, 0, 0, 1, 1]), .inv (Jr R (laws_FnWeighed_L2_S s13 v14 v16) (Mk (laws_FnWeighed_L2 s13) (laws_FnWeighed_L2_k v14 v16) r) (m2 + 1)), .blk 2, .code (cAt Try.f17 [1, 1, 1, 1, 1, 1, 1, 1, 1])]) (S' := laws_FnWeighed_L3_S s13 v14 v16 s18 s19 s20 s21 s37 (0, 0)) True.intro (by kernel_rfl) ?_
              refine lq (laws_FnWeighed_L3_S s13 v14 v16 s18 s19 s20 s21 s37) (body := laws_FnWeighed_L3 s37) (k := laws_FnWeighed_L3_k s13 s18 s19 s20 s21 s37) hM fun m3 s c3 hM hK3 => ?_
              obtain ⟨s38, s39⟩ := s
              have hM : laws_FnWeighed_L3_b s37 s38 s39 = some c3 := hM
              unfold laws_FnWeighed_L3_b at hM
              rcases cond_cases hM with ⟨h46, hM⟩ | ⟨h46, hM⟩
              · obtain ⟨v47, h48, hM⟩ := bind_some hM
                obtain ⟨v49, h50, hM⟩ := bind_some hM
                rcases cond_cases hM with ⟨h51, hM⟩ | ⟨h51, hM⟩
                · obtain ⟨v52, h53, hM⟩ := bind_some hM
                  obtain ⟨v54, h55, hM⟩ := bind_some hM
                  have hE : some (Ctl.next (w64 (s38 + v54), w64 (s39 + 1))) = some c3 := hM
                  have hE := Option.some.inj hE
                  subst hE
                  exact pc R 9999 [.ln (s37.length), .as 78 true, .ix (Thing.enc v47), .call false [] (.o (.c (.v (.int .i64 v49)))) [] [], .as 88 true, .ix (Thing.enc v52), .call false [] (.o (.c (.v (.int .i64 v54)))) [] []] [.keep [3, 8, 10, 11, 12, 13, 14, 15, 16, 17] []] (And.intro (lenm Thing.enc s37) (And.intro h46 (And.intro (gi_map Thing.enc h48) (And.intro (impl_DepthOf_ok s37 v47.Id v49 h50) (And.intro h51 (And.intro (gi_map Thing.enc h53) (And.intro (impl_GrossOf_ok s37 v52.Id v54 h55) True.intro))))))) (by kernel_rfl) (li (Sf := laws_FnWeighed_L3_S s13 v14 v16 s18 s19 s20 s21 s37) (M := Mk (laws_FnWeighed_L3 s37) (laws_FnWeighed_L3_k s13 s18 s19 s20 s21 s37) c2) (k := [.blk 4, .code (cAt Try.f17 [1, 1, 1, 1, 1, 1, 1, 1, 0, 1, 0, 0, 1, 0, 0, 1, 1, 1, 1, 1]), .blk 3, .code (cAt Try.f17 [1, 1, 1, 1, 1, 1, 1, 1, 0, 1, 0, 0, 1, 1]), .inv (Jr R (laws_FnWeighed_L2_S s13 v14 v16) (Mk (laws_FnWeighed_L2 s13) (laws_FnWeighed_L2_k v14 v16) r) (m2 + 1)), .blk 2, .code (cAt Try.f17 [1, 1, 1, 1, 1, 1, 1, 1, 1])]) (Nat.lt_succ_self m3) hK3)
                · have hE : some (Ctl.next (s38, w64 (s39 + 1))) = some c3 := hM
                  have hE := Option.some.inj hE
                  subst hE
                  exact pc R 9999 [.ln (s37.length), .as 78 true, .ix (Thing.enc v47), .call false [] (.o (.c (.v (.int .i64 v49)))) [] [], .as 88 false] [.keep [3, 8, 10, 11, 12, 13, 14, 15, 16, 17] []] (And.intro (lenm Thing.enc s37) (And.intro h46 (And.intro (gi_map Thing.enc h48) (And.intro (impl_DepthOf_ok s37 v47.Id v49 h50) (And.intro h51 True.intro))))) (by kernel_rfl) (li (Sf := laws_FnWeighed_L3_S s13 v14 v16 s18 s19 s20 s21 s37) (M := Mk (laws_FnWeighed_L3 s37) (laws_FnWeighed_L3_k s13 s18 s19 s20 s21 s37) c2) (k := [.blk 4, .code (cAt Try.f17 [1, 1, 1, 1, 1, 1, 1, 1, 0, 1, 0, 0, 1, 0, 0, 1, 1, 1, 1, 1]), .blk 3, .code (cAt Try.f17 [1, 1, 1, 1, 1, 1, 1, 1, 0, 1, 0, 0, 1, 1]), .inv (Jr R (laws_FnWeighed_L2_S s13 v14 v16) (Mk (laws_FnWeighed_L2 s13) (laws_FnWeighed_L2_k v14 v16) r) (m2 + 1)), .blk 2, .code (cAt Try.f17 [1, 1, 1, 1, 1, 1, 1, 1, 1])]) (Nat.lt_succ_self m3) hK3)
              · have hE : some (Ctl.brk s38) = some c3 := hM
                have hE := Option.some.inj hE
                subst hE
                exact pc R 5 [.ln (s37.length), .as 78 false] [.keep [3, 8, 10, 11, 12, 13, 14, 15, 16] []] (And.intro (lenm Thing.enc s37) (And.intro h46 True.intro)) (by kernel_rfl) (K3 s38 hK3)
            rcases cond_cases hM with ⟨h56, hM⟩ | ⟨h56, hM⟩
            · exact pc R 5 [.as 73 true] [.keep [3, 8, 10, 11, 12, 13, 14, 15] []] (And.intro h56 True.intro) (by kernel_rfl) (J2 s20 hM)
            · exact pc R 5 [.as 73 false] [.keep [3, 8, 10, 11, 12, 13, 14, 15] []] (And.intro h56 True.intro) (by kernel_rfl) (J2 s36 hM)
          rcases cond_cases hM with ⟨h57, hM⟩ | ⟨h57, hM⟩
          · exact pc R 14 [.as 65 true, .as 70 true] [.keep [3, 8, 10, 11, 12, 13, 14, 15] []] (And.intro h35 (And.intro h57 True.intro)) (by kernel_rfl) (J2 s19 hM)
          · exact pc R 14 [.as 65 true, .as 70 false] [.keep [3, 8, 10, 11, 12, 13, 14, 15] []] (And.intro h35 (And.intro h57 True.intro)) (by kernel_rfl) (J2 s18 hM)
        · have hE : some (Ctl.brk (s18, s19, s20)) = some c2 := hM
          have hE := Option.some.inj hE
          subst hE
          exact pc R 5 [.as 65 false] [.keep [3, 10, 11, 12, 13] []] (And.intro h35 True.intro) (by kernel_rfl) (K2 s18 s19 s20 hK2)
      refine pc R 9999 [.call false [] (.o (.c (.v (.bool v1)))) [] [], .as 19 false, .call false [] (.tup [.c (.sl 0), .c (.v (.int .i64 v4.2.1)), .c (.v (.int .i64 v4.2.2))]) [] [(0, .row 49 6 (v4.1.map Thing.enc))], .call false [] (.o (.c (.v (.bool v6)))) [] [], .as 28 false] [.keep [3, 4, 5, 8, 9] [0]] (k' := [.code (.loop (cAt Try.f17 [1, 1, 1, 1, 1, 0, 1, 0, 0])), .blk 0, .code (cAt Try.f17 [1, 1, 1, 1, 1, 1])]) (S' := laws_FnWeighed_L1_S v4 (0, 0)) (And.intro (laws_big_ok a0 v1 h2) (And.intro h3 (And.intro (And.intro (con_sw 1000 0 (spec_DrawPutInto_ok a0 v4 h5)) (rfl : ([] : List Nat) = [])) (And.intro (spec_AreThings_ok v4.1 v6 h7) (And.intro h8 True.intro))))) (by kernel_rfl) ?_
      refine lq (laws_FnWeighed_L1_S v4) (body := laws_FnWeighed_L1 v4) (k := laws_FnWeighed_L1_k v4) hM fun m1 s c1 hM hK1 => ?_
      obtain ⟨s11, s12⟩ := s
      have hM : laws_FnWeighed_L1_b v4 s11 s12 = some c1 := hM
      unfold laws_FnWeighed_L1_b at hM
      rcases cond_cases hM with ⟨h58, hM⟩ | ⟨h58, hM⟩
      · obtain ⟨v59, h60, hM⟩ := bind_some hM
        have hE : some (Ctl.next (w64 (s11 + v59.Own), w64 (s12 + 1))) = some c1 := hM
        have hE := Option.some.inj hE
        subst hE
        exact pc R 9999 [.ln (v4.1.length), .as 41 true, .ix (Thing.enc v59)] [.keep [3, 4, 5, 8, 9] [0]] (And.intro (lenm Thing.enc v4.1) (And.intro h58 (And.intro (gi_lt Thing.enc h60) (And.intro ((gi_map Thing.enc h60).2) True.intro)))) (by kernel_rfl) (li (Sf := laws_FnWeighed_L1_S v4) (M := Mk (laws_FnWeighed_L1 v4) (laws_FnWeighed_L1_k v4) r) (k := [.blk 0, .code (cAt Try.f17 [1, 1, 1, 1, 1, 1])]) (Nat.lt_succ_self m1) hK1)
      · have hE : some (Ctl.brk s11) = some c1 := hM
        have hE := Option.some.inj hE
        subst hE
        exact pc R 5 [.ln (v4.1.length), .as 41 false] [.keep [3, 4, 5, 8] [0]] (And.intro (lenm Thing.enc v4.1) (And.intro h58 True.intro)) (by kernel_rfl) (K1 s11 hK1)

-- loop.example/g03014/spec.IsLocked
def spec_IsLocked (a0 : (List Thing)) (a1 : Int) : Option Bool :=
  (spec_AreThings a0).bind fun v1 =>
  bif v1 then
  (spec_l5Locked a0 a1).bind fun v4 =>
  some v4
  else
  some false
theorem spec_IsLocked_ok (a0 : (List Thing)) (a1 : Int) (r : Bool) (hM : spec_IsLocked a0 a1 = some r) :
    Con Try.prog 35 [.c (.rs 6 (a0.map Thing.enc)), .c (.v (.int .i64 a1))] [] (.o (.c (.v (.bool r)))) [] [] := by
  unfold spec_IsLocked at hM
  refine cn (N := 12) (pids := []) Try_mixed Try.func35 (by kernel_rfl) (by kernel_rfl) (by kernel_rfl) rfl fun ρ g w R => ?_
  obtain ⟨v1, h2, hM⟩ := bind_some hM
  rcases cond_cases hM with ⟨h3, hM⟩ | ⟨h3, hM⟩
  · obtain ⟨v4, h5, hM⟩ := bind_some hM
    have hE : some v4 = some r := hM
    have hE := Option.some.inj hE
    subst hE
    exact pr R 9999 [.call false [] (.o (.c (.v (.bool v1)))) [] [], .as 7 true, .call false [] (.o (.c (.v (.bool v4)))) [] []] [] [] [] (And.intro (spec_AreThings_ok a0 v1 h2) (And.intro h3 (And.intro (spec_l5Locked_ok a0 a1 v4 h5) True.intro))) (by kernel_rfl)
  · have hE : some false = some r := hM
    have hE := Option.some.inj hE
    subst hE
    exact pr R 9999 [.call false [] (.o (.c (.v (.bool v1)))) [] [], .as 7 false] [] [] [] (And.intro (spec_AreThings_ok a0 v1 h2) (And.intro h3 True.intro)) (by kernel_rfl)

-- loop.example/g03014/laws.at
def laws_at (a0 : (List Int)) (a1 : Int) : Option Int :=
  bif (decide (a1 ≥ (a0.length : Int))) then
  some 0
  else
  (gi a0 a1).bind fun v2 =>
  some (w64 v2)
theorem laws_at_ok (a0 : (List Int)) (a1 : Int) (r : Int) (hM : laws_at a0 a1 = some r) :
    Con Try.prog 60 [.c (.rs 1 (a0.map encU8)), .c (.v (.int .i64 a1))] [] (.o (.c (.v (.int .i64 r)))) [] [] := by
  unfold laws_at at hM
  refine cn (N := 14) (pids := []) Try_mixed Try.func60 (by kernel_rfl) (by kernel_rfl) (by kernel_rfl) rfl fun ρ g w R => ?_
  rcases cond_cases hM with ⟨h1, hM⟩ | ⟨h1, hM⟩
  · have hE : some 0 = some r := hM
    have hE := Option.some.inj hE
    subst hE
    exact pr R 9999 [.ln (a0.length), .as 8 true] [] [] [] (And.intro (lenm encU8 a0) (And.intro h1 True.intro)) (by kernel_rfl)
  · obtain ⟨v2, h3, hM⟩ := bind_some hM
    have hE : some (w64 v2) = some r := hM
    have hE := Option.some.inj hE
    subst hE
    exact pr R 9999 [.ln (a0.length), .as 8 false, .ix (encU8 v2)] [] [] [] (And.intro (lenm encU8 a0) (And.intro h1 (And.intro (gi_map encU8 h3) True.intro))) (by kernel_rfl)

-- loop.example/g03014/impl.SealBox
def impl_SealBox (a0 : (List Thing)) (a1 : Int) (a2 : Bool) : Option ((List Thing) × Int) :=
  (impl_copyThings a0).bind fun v1 =>
  (impl_isThing a0 a1).bind fun v3 =>
  bif (!v3) then
  some (v1, 1)
  else
  (impl_isBox a0 a1).bind fun v6 =>
  bif (!v6) then
  some (v1, 1)
  else
  (impl_IsLocked a0 a1).bind fun v9 =>
  bif v9 then
  some (v1, 2)
  else
  (impl_FindThing a0 a1).bind fun v12 =>
  (gi v1 v12).bind fun v14 =>
  some (List.set v1 (Int.toNat v12) (Thing.mk v14.Id v14.Own v14.Room v14.In v14.Box a2), 0)
theorem impl_SealBox_ok (a0 : (List Thing)) (a1 : Int) (a2 : Bool) (r : (List Thing) × Int) (hM : impl_SealBox a0 a1 a2 = some r) :
    Con Try.prog 46 [.c (.rs 6 (a0.map Thing.enc)), .c (.v (.int .i64 a1)), .c (.v (.bool a2))] [] (.tup [.c (.sl 1000), .c (.v (.int .i64 r.2))]) [] [(1000, .row 49 6 (r.1.map Thing.enc))] := by
  unfold impl_SealBox at hM
  refine cn (N := 34) (pids := []) Try_mixed Try.func46 (by kernel_rfl) (by kernel_rfl) (by kernel_rfl) rfl fun ρ g w R => ?_
  obtain ⟨v1, h2, hM⟩ := bind_some hM
  obtain ⟨v3, h4, hM⟩ := bind_some hM
  rcases cond_cases hM with ⟨h5, hM⟩ | ⟨h5, hM⟩
  · have hE : some (v1, 1) = some r := hM
    have hE := Option.some.inj hE
    subst hE
    exact pr R 9999 [.call false [] (.o (.c (.sl 0))) [] [(0, .row 49 6 (v1.map Thing.enc))], .call false [] (.o (.c (.v (.bool v3)))) [] [], .as 15 true] [.sw 0 1000] [] [1000] (And.intro (And.intro (con_sw 1000 0 (impl_copyThings_ok a0 v1 h2)) (rfl : ([] : List Nat) = [])) (And.intro (impl_isThing_ok a0 a1 v3 h4) (And.intro h5 True.intro))) (by kernel_rfl)
  · obtain ⟨v6, h7, hM⟩ := bind_some hM
    rcases cond_cases hM with ⟨h8, hM⟩ | ⟨h8, hM⟩
    · have hE : some (v1, 1) = some r := hM
      have hE := Option.some.inj hE
      subst hE
      exact pr R 9999 [.call false [] (.o (.c (.sl 0))) [] [(0, .row 49 6 (v1.map Thing.enc))], .call false [] (.o (.c (.v (.bool v3)))) [] [], .as 15 false, .call false [] (.o (.c (.v (.bool v6)))) [] [], .as 20 true] [.sw 0 1000] [] [1000] (And.intro (And.intro (con_sw 1000 0 (impl_copyThings_ok a0 v1 h2)) (rfl : ([] : List Nat) = [])) (And.intro (impl_isThing_ok a0 a1 v3 h4) (And.intro h5 (And.intro (impl_isBox_ok a0 a1 v6 h7) (And.intro h8 True.intro))))) (by kernel_rfl)
    · obtain ⟨v9, h10, hM⟩ := bind_some hM
      rcases cond_cases hM with ⟨h11, hM⟩ | ⟨h11, hM⟩
      · have hE : some (v1, 2) = some r := hM
        have hE := Option.some.inj hE
        subst hE
        exact pr R 9999 [.call false [] (.o (.c (.sl 0))) [] [(0, .row 49 6 (v1.map Thing.enc))], .call false [] (.o (.c (.v (.bool v3)))) [] [], .as 15 false, .call false [] (.o (.c (.v (.bool v6)))) [] [], .as 20 false, .call false [] (.o (.c (.v (.bool v9)))) [] [], .as 24 true] [.sw 0 1000] [] [1000] (And.intro (And.intro (con_sw 1000 0 (impl_copyThings_ok a0 v1 h2)) (rfl : ([] : List Nat) = [])) (And.intro (impl_isThing_ok a0 a1 v3 h4) (And.intro h5 (And.intro (impl_isBox_ok a0 a1 v6 h7) (And.intro h8 (And.intro (impl_IsLocked_ok a0 a1 v9 h10) (And.intro h11 True.intro))))))) (by kernel_rfl)
      · obtain ⟨v12, h13, hM⟩ := bind_some hM
        obtain ⟨v14, h15, hM⟩ := bind_some hM
        have hE : some (List.set v1 (Int.toNat v12) (Thing.mk v14.Id v14.Own v14.Room v14.In v14.Box a2), 0) = some r := hM
        have hE := Option.some.inj hE
        subst hE
        exact pr R 9999 [.call false [] (.o (.c (.sl 0))) [] [(0, .row 49 6 (v1.map Thing.enc))], .call false [] (.o (.c (.v (.bool v3)))) [] [], .as 15 false, .call false [] (.o (.c (.v (.bool v6)))) [] [], .as 20 false, .call false [] (.o (.c (.v (.bool v9)))) [] [], .as 24 false, .call false [] (.o (.c (.v (.int .i64 v12)))) [] [], .ix (Thing.enc v14), .nm ((List.set v1 (Int.toNat v12) (Thing.mk v14.Id v14.Own v14.Room v14.In v14.Box a2)).map Thing.enc)] [.sw 0 1000] [] [1000] (And.intro (And.intro (con_sw 1000 0 (impl_copyThings_ok a0 v1 h2)) (rfl : ([] : List Nat) = [])) (And.intro (impl_isThing_ok a0 a1 v3 h4) (And.intro h5 (And.intro (impl_isBox_ok a0 a1 v6 h7) (And.intro h8 (And.intro (impl_IsLocked_ok a0 a1 v9 h10) (And.intro h11 (And.intro (impl_FindThing_ok a0 a1 v12 h13) (And.intro (gi_lt Thing.enc h15) (And.intro (And.intro (gi_map Thing.enc h15).2 (set_map Thing.enc v1 (Int.toNat v12) (Thing.mk v14.Id v14.Own v14.Room v14.In v14.Box a2))) True.intro)))))))))) (by kernel_rfl)
end Go.Sx
