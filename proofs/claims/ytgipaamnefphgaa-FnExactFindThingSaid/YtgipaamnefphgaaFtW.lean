/- Part of a proof: FtW. -/
import Derived.Test.YtgipaamnefphgaaSxO
import Derived.Test.YtgipaamnefphgaaProg
namespace Go.Sx
open Go.Proofs
set_option linter.unusedVariables false
theorem Try_mixed : Try.prog.follows .mixedOrders = true := by kernel_rfl
structure Thing where
  Id : Int
  Own : Int
  Room : Int
  In : Int
  Box : Bool
  Sealed : Bool
  deriving DecidableEq, Inhabited
def Thing.enc (x : Thing) : List Value := [.int .i64 x.Id, .int .i64 x.Own, .int .i64 x.Room, .int .i64 x.In, .bool x.Box, .bool x.Sealed]
structure l1Cur where
  b : (List Int)
  i : Int
  h : Int
  deriving DecidableEq, Inhabited

-- loop.example/g03014/laws.szThingS
def laws_szThingS (a0 : (List Thing)) (a1 : Int) : Option Int :=
  bif (decide ((w64 (a1 - (a0.length : Int))) < 0)) then
  some (-1)
  else
  some (w64 (a1 - (a0.length : Int)))
theorem laws_szThingS_ok (a0 : (List Thing)) (a1 : Int) (r : Int) (hM : laws_szThingS a0 a1 = some r) :
    Con Try.prog 22 [.c (.rs 6 (a0.map Thing.enc)), .c (.v (.int .i64 a1))] [] (.o (.c (.v (.int .i64 r)))) [] [] := by
  unfold laws_szThingS at hM
  refine cn (N := 12) (pids := []) Try_mixed Try.func22 (by kernel_rfl) (by kernel_rfl) (by kernel_rfl) rfl fun ρ g w R => ?_
  rcases cond_cases hM with ⟨h1, hM⟩ | ⟨h1, hM⟩
  · have hE : some (-1) = some r := hM
    have hE := Option.some.inj hE
    subst hE
    exact pr R 9999 [.ln (a0.length), .as 10 true] [] [] [] (And.intro (lenm Thing.enc a0) (And.intro h1 True.intro)) (by kernel_rfl)
  · have hE : some (w64 (a1 - (a0.length : Int))) = some r := hM
    have hE := Option.some.inj hE
    subst hE
    exact pr R 9999 [.ln (a0.length), .as 10 false] [] [] [] (And.intro (lenm Thing.enc a0) (And.intro h1 True.intro)) (by kernel_rfl)

-- loop.example/g03014/laws.toThing
def laws_toThing (a0 : Thing) : Option Thing :=
  some a0
theorem laws_toThing_ok (a0 : Thing) (r : Thing) (hM : laws_toThing a0 = some r) :
    Con Try.prog 65 [.c (.v (.agg (Thing.enc a0).toArray))] [] (.o (.c (.v (.agg (Thing.enc r).toArray)))) [] [] := by
  unfold laws_toThing at hM
  refine cn (N := 23) (pids := []) Try_mixed Try.func65 (by kernel_rfl) (by kernel_rfl) (by kernel_rfl) rfl fun ρ g w R => ?_
  have hE : some a0 = some r := hM
  have hE := Option.some.inj hE
  subst hE
  exact pr R 9999 [.new 0, .new 1, .new 2] [] [] [] True.intro (by kernel_rfl)

-- loop.example/g03014/laws.toThingS
def laws_toThingS_L1_b (a0 : (List Thing)) (s3 : (List Thing)) (s4 : Int) : Option (Ctl ((List Thing) × Int) (List Thing) (List Thing)) :=
  bif (decide (s4 < (a0.length : Int))) then
  (gi a0 s4).bind fun v7 =>
  (laws_toThing v7).bind fun v9 =>
  (gi s3 s4).bind fun v11 =>
  some (.next (List.set s3 (Int.toNat s4) v9, w64 (s4 + 1)))
  else
  some (.brk s3)
def laws_toThingS_L1 (a0 : (List Thing)) (s : (List Thing) × Int) : Option (Ctl ((List Thing) × Int) (List Thing) (List Thing)) := laws_toThingS_L1_b a0 s.1 s.2
def laws_toThingS_L1_s (a0 : (List Thing)) (s3 : (List Thing)) (s4 : Int) : St := ⟨[(0, .o (.c (.rs 6 (a0.map Thing.enc)))), (3, .o (.c (.sl 0))), (4, .o (.c (.v (.int .i64 s4))))], [(0, .row 49 6 (s3.map Thing.enc))]⟩
def laws_toThingS_L1_S (a0 : (List Thing)) (s : (List Thing) × Int) : St := laws_toThingS_L1_s a0 s.1 s.2
def laws_toThingS_L1_a (s5 : (List Thing)) : Option (List Thing) :=
  some s5
def laws_toThingS_L1_k (x : ((List Thing)) ⊕ ((List Thing))) : Option (List Thing) := match x with
  | .inl t => laws_toThingS_L1_a t
  | .inr y => some y
def laws_toThingS (a0 : (List Thing)) : Option (List Thing) :=
  ((mkM 40 (a0.length : Int) : Option (List Thing))).bind fun v1 =>
  (loopM (laws_toThingS_L1 a0) big (v1, 0)).bind (laws_toThingS_L1_k)
theorem laws_toThingS_ok (a0 : (List Thing)) (r : (List Thing)) (hM : laws_toThingS a0 = some r) :
    Con Try.prog 24 [.c (.rs 6 (a0.map Thing.enc))] [] (.o (.c (.sl 1000))) [] [(1000, .row 49 6 (r.map Thing.enc))] := by
  unfold laws_toThingS at hM
  refine cn (N := 23) (pids := []) Try_mixed Try.func24 (by kernel_rfl) (by kernel_rfl) (by kernel_rfl) rfl fun ρ g w R => ?_
  obtain ⟨v1, h2, hM⟩ := bind_some hM
  have K1 : ∀ (s5 : (List Thing)), laws_toThingS_L1_a s5 = some r → Gr R [.code (cAt Try.f24 [1, 1, 1])] (⟨[(3, .o (.c (.sl 0)))], [(0, .row 49 6 (s5.map Thing.enc))]⟩) := by
    intro s5 hM
    unfold laws_toThingS_L1_a at hM
    have hE : some s5 = some r := hM
    have hE := Option.some.inj hE
    subst hE
    exact pr R 9999 [] [.sw 0 1000] [] [1000] True.intro (by kernel_rfl)
  refine pc R 9999 [.ln (a0.length), .new 0, .nm (v1.map Thing.enc)] [.keep [0, 3, 4] [0]] (k' := [.code (.loop (cAt Try.f24 [1, 1, 0, 1, 0, 0])), .blk 0, .code (cAt Try.f24 [1, 1, 1])]) (S' := laws_toThingS_L1_S a0 (v1, 0)) (And.intro (lenm Thing.enc a0) (And.intro (mkM_ok Thing.enc h2) True.intro)) (by kernel_rfl) ?_
  refine lq (laws_toThingS_L1_S a0) (body := laws_toThingS_L1 a0) (k := laws_toThingS_L1_k) hM fun m1 s c1 hM hK1 => ?_
  obtain ⟨s3, s4⟩ := s
  have hM : laws_toThingS_L1_b a0 s3 s4 = some c1 := hM
  unfold laws_toThingS_L1_b at hM
  rcases cond_cases hM with ⟨h6, hM⟩ | ⟨h6, hM⟩
  · obtain ⟨v7, h8, hM⟩ := bind_some hM
    obtain ⟨v9, h10, hM⟩ := bind_some hM
    obtain ⟨v11, h12, hM⟩ := bind_some hM
    have hE : some (Ctl.next (List.set s3 (Int.toNat s4) v9, w64 (s4 + 1))) = some c1 := hM
    have hE := Option.some.inj hE
    subst hE
    exact pc R 9999 [.ln (a0.length), .as 11 true, .ix (Thing.enc v7), .call false [] (.o (.c (.v (.agg (Thing.enc v9).toArray)))) [] [], .ix (Thing.enc v11), .nm ((List.set s3 (Int.toNat s4) v9).map Thing.enc)] [.keep [0, 3, 4] [0]] (And.intro (lenm Thing.enc a0) (And.intro h6 (And.intro (gi_map Thing.enc h8) (And.intro (laws_toThing_ok v7 v9 h10) (And.intro (gi_lt Thing.enc h12) (And.intro (And.intro (gi_map Thing.enc h12).2 (set_map Thing.enc s3 (Int.toNat s4) v9)) True.intro)))))) (by kernel_rfl) (li (Sf := laws_toThingS_L1_S a0) (M := Mk (laws_toThingS_L1 a0) (laws_toThingS_L1_k) r) (k := [.blk 0, .code (cAt Try.f24 [1, 1, 1])]) (Nat.lt_succ_self m1) hK1)
  · have hE : some (Ctl.brk s3) = some c1 := hM
    have hE := Option.some.inj hE
    subst hE
    exact pc R 5 [.ln (a0.length), .as 11 false] [.keep [3] [0]] (And.intro (lenm Thing.enc a0) (And.intro h6 True.intro)) (by kernel_rfl) (K1 s3 hK1)

-- loop.example/g03014/spec.FindThing
def spec_FindThing_L1_b (a0 : (List Thing)) (a1 : Int) (s1 : Int) : Option (Ctl Int Unit Int) :=
  bif (decide (s1 < (a0.length : Int))) then
  (gi a0 s1).bind fun v3 =>
  bif (v3.Id == a1) then
  some (.ret s1)
  else
  some (.next (w64 (s1 + 1)))
  else
  some (.brk ())
def spec_FindThing_L1 (a0 : (List Thing)) (a1 : Int) (s : Int) : Option (Ctl Int Unit Int) := spec_FindThing_L1_b a0 a1 s
def spec_FindThing_L1_s (a0 : (List Thing)) (a1 : Int) (s1 : Int) : St := ⟨[(0, .o (.c (.rs 6 (a0.map Thing.enc)))), (1, .o (.c (.v (.int .i64 a1)))), (5, .o (.c (.v (.int .i64 s1))))], []⟩
def spec_FindThing_L1_S (a0 : (List Thing)) (a1 : Int) (s : Int) : St := spec_FindThing_L1_s a0 a1 s
def spec_FindThing_L1_a : Option Int :=
  some (-1)
def spec_FindThing_L1_k (x : (Unit) ⊕ (Int)) : Option Int := match x with
  | .inl t => spec_FindThing_L1_a
  | .inr y => some y
def spec_FindThing (a0 : (List Thing)) (a1 : Int) : Option Int :=
  (loopM (spec_FindThing_L1 a0 a1) big 0).bind (spec_FindThing_L1_k)
theorem spec_FindThing_ok (a0 : (List Thing)) (a1 : Int) (r : Int) (hM : spec_FindThing a0 a1 = some r) :
    Con Try.prog 23 [.c (.rs 6 (a0.map Thing.enc)), .c (.v (.int .i64 a1))] [] (.o (.c (.v (.int .i64 r)))) [] [] := by
  unfold spec_FindThing at hM
  refine cn (N := 20) (pids := []) Try_mixed Try.func23 (by kernel_rfl) (by kernel_rfl) (by kernel_rfl) rfl fun ρ g w R => ?_
  have K1 : ∀ (_ : Unit), spec_FindThing_L1_a = some r → Gr R [.code (cAt Try.f23 [1, 1])] (⟨[], []⟩) := by
    intro _ hM
    unfold spec_FindThing_L1_a at hM
    have hE : some (-1) = some r := hM
    have hE := Option.some.inj hE
    subst hE
    exact pr R 9999 [] [] [] [] True.intro (by kernel_rfl)
  refine pc R 9999 [] [.keep [0, 1, 5] []] (k' := [.code (.loop (cAt Try.f23 [1, 0, 1, 0, 0])), .blk 0, .code (cAt Try.f23 [1, 1])]) (S' := spec_FindThing_L1_S a0 a1 0) True.intro (by kernel_rfl) ?_
  refine lq (spec_FindThing_L1_S a0 a1) (body := spec_FindThing_L1 a0 a1) (k := spec_FindThing_L1_k) hM fun m1 s c1 hM hK1 => ?_
  obtain ⟨s1, hs⟩ : ∃ z, z = s := ⟨_, rfl⟩
  subst hs
  have hM : spec_FindThing_L1_b a0 a1 s1 = some c1 := hM
  unfold spec_FindThing_L1_b at hM
  rcases cond_cases hM with ⟨h2, hM⟩ | ⟨h2, hM⟩
  · obtain ⟨v3, h4, hM⟩ := bind_some hM
    rcases cond_cases hM with ⟨h5, hM⟩ | ⟨h5, hM⟩
    · have hE : some (Ctl.ret s1) = some c1 := hM
      have hE := Option.some.inj hE
      subst hE
      have hE : some s1 = some r := hK1
      have hE := Option.some.inj hE
      subst hE
      exact pr R 9999 [.ln (a0.length), .as 9 true, .ix (Thing.enc v3), .as 18 true] [] [] [] (And.intro (lenm Thing.enc a0) (And.intro h2 (And.intro (gi_map Thing.enc h4) (And.intro h5 True.intro)))) (by kernel_rfl)
    · have hE : some (Ctl.next (w64 (s1 + 1))) = some c1 := hM
      have hE := Option.some.inj hE
      subst hE
      exact pc R 9999 [.ln (a0.length), .as 9 true, .ix (Thing.enc v3), .as 18 false] [.keep [0, 1, 5] []] (And.intro (lenm Thing.enc a0) (And.intro h2 (And.intro (gi_map Thing.enc h4) (And.intro h5 True.intro)))) (by kernel_rfl) (li (Sf := spec_FindThing_L1_S a0 a1) (M := Mk (spec_FindThing_L1 a0 a1) (spec_FindThing_L1_k) r) (k := [.blk 0, .code (cAt Try.f23 [1, 1])]) (Nat.lt_succ_self m1) hK1)
  · have hE : some (Ctl.brk ()) = some c1 := hM
    have hE := Option.some.inj hE
    subst hE
    exact pc R 5 [.ln (a0.length), .as 9 false] [.keep [] []] (And.intro (lenm Thing.enc a0) (And.intro h2 True.intro)) (by kernel_rfl) (K1 () hK1)

-- loop.example/g03014/impl.FindThing
def impl_FindThing_L1_b (a0 : (List Thing)) (a1 : Int) (s1 : Int) : Option (Ctl Int Unit Int) :=
  bif (decide (s1 < (a0.length : Int))) then
  (gi a0 s1).bind fun v3 =>
  bif (v3.Id == a1) then
  some (.ret s1)
  else
  some (.next (w64 (s1 + 1)))
  else
  some (.brk ())
def impl_FindThing_L1 (a0 : (List Thing)) (a1 : Int) (s : Int) : Option (Ctl Int Unit Int) := impl_FindThing_L1_b a0 a1 s
def impl_FindThing_L1_s (a0 : (List Thing)) (a1 : Int) (s1 : Int) : St := ⟨[(1, .o (.c (.v (.int .i64 a1)))), (7, .o (.c (.rs 6 (a0.map Thing.enc)))), (8, .o (.c (.v (.int .i64 (a0.length : Int))))), (9, .o (.c (.v (.int .i64 s1))))], []⟩
def impl_FindThing_L1_S (a0 : (List Thing)) (a1 : Int) (s : Int) : St := impl_FindThing_L1_s a0 a1 s
def impl_FindThing_L1_a : Option Int :=
  some (-1)
def impl_FindThing_L1_k (x : (Unit) ⊕ (Int)) : Option Int := match x with
  | .inl t => impl_FindThing_L1_a
  | .inr y => some y
def impl_FindThing (a0 : (List Thing)) (a1 : Int) : Option Int :=
  (loopM (impl_FindThing_L1 a0 a1) big 0).bind (impl_FindThing_L1_k)
theorem impl_FindThing_ok (a0 : (List Thing)) (a1 : Int) (r : Int) (hM : impl_FindThing a0 a1 = some r) :
    Con Try.prog 25 [.c (.rs 6 (a0.map Thing.enc)), .c (.v (.int .i64 a1))] [] (.o (.c (.v (.int .i64 r)))) [] [] := by
  unfold impl_FindThing at hM
  refine cn (N := 20) (pids := []) Try_mixed Try.func25 (by kernel_rfl) (by kernel_rfl) (by kernel_rfl) rfl fun ρ g w R => ?_
  have K1 : ∀ (_ : Unit), impl_FindThing_L1_a = some r → Gr R [.code (cAt Try.f25 [1, 1])] (⟨[], []⟩) := by
    intro _ hM
    unfold impl_FindThing_L1_a at hM
    have hE : some (-1) = some r := hM
    have hE := Option.some.inj hE
    subst hE
    exact pr R 9999 [] [] [] [] True.intro (by kernel_rfl)
  refine pc R 9999 [.ln (a0.length)] [.keep [1, 7, 8, 9] []] (k' := [.code (.loop (cAt Try.f25 [1, 0, 1, 0, 0])), .blk 0, .code (cAt Try.f25 [1, 1])]) (S' := impl_FindThing_L1_S a0 a1 0) (And.intro (lenm Thing.enc a0) True.intro) (by kernel_rfl) ?_
  refine lq (impl_FindThing_L1_S a0 a1) (body := impl_FindThing_L1 a0 a1) (k := impl_FindThing_L1_k) hM fun m1 s c1 hM hK1 => ?_
  obtain ⟨s1, hs⟩ : ∃ z, z = s := ⟨_, rfl⟩
  subst hs
  have hM : impl_FindThing_L1_b a0 a1 s1 = some c1 := hM
  unfold impl_FindThing_L1_b at hM
  rcases cond_cases hM with ⟨h2, hM⟩ | ⟨h2, hM⟩
  · obtain ⟨v3, h4, hM⟩ := bind_some hM
    rcases cond_cases hM with ⟨h5, hM⟩ | ⟨h5, hM⟩
    · have hE : some (Ctl.ret s1) = some c1 := hM
      have hE := Option.some.inj hE
      subst hE
      have hE : some s1 = some r := hK1
      have hE := Option.some.inj hE
      subst hE
      exact pr R 9999 [.as 10 true, .ix (Thing.enc v3), .new 0, .as 17 true] [] [] [] (And.intro h2 (And.intro (gi_map Thing.enc h4) (And.intro h5 True.intro))) (by kernel_rfl)
    · have hE : some (Ctl.next (w64 (s1 + 1))) = some c1 := hM
      have hE := Option.some.inj hE
      subst hE
      exact pc R 9999 [.as 10 true, .ix (Thing.enc v3), .new 0, .as 17 false] [.keep [1, 7, 8, 9] []] (And.intro h2 (And.intro (gi_map Thing.enc h4) (And.intro h5 True.intro))) (by kernel_rfl) (li (Sf := impl_FindThing_L1_S a0 a1) (M := Mk (impl_FindThing_L1 a0 a1) (impl_FindThing_L1_k) r) (k := [.blk 0, .code (cAt Try.f25 [1, 1])]) (Nat.lt_succ_self m1) hK1)
  · have hE : some (Ctl.brk ()) = some c1 := hM
    have hE := Option.some.inj hE
    subst hE
    exact pc R 5 [.as 10 false] [.keep [] []] (And.intro h2 True.intro) (by kernel_rfl) (K1 () hK1)

-- loop.example/g03014/laws.eqThing
def laws_eqThing (a0 : Thing) (a1 : Thing) : Option Bool :=
  bif (a0.Id != a1.Id) then
  some false
  else
  bif (a0.Own != a1.Own) then
  some false
  else
  bif (a0.Room != a1.Room) then
  some false
  else
  bif (a0.In != a1.In) then
  some false
  else
  bif (!(a0.Box == a1.Box)) then
  some false
  else
  bif (!(a0.Sealed == a1.Sealed)) then
  some false
  else
  some true
theorem laws_eqThing_ok (a0 : Thing) (a1 : Thing) (r : Bool) (hM : laws_eqThing a0 a1 = some r) :
    Con Try.prog 66 [.c (.v (.agg (Thing.enc a0).toArray)), .c (.v (.agg (Thing.enc a1).toArray))] [] (.o (.c (.v (.bool r)))) [] [] := by
  unfold laws_eqThing at hM
  refine cn (N := 35) (pids := []) Try_mixed Try.func66 (by kernel_rfl) (by kernel_rfl) (by kernel_rfl) rfl fun ρ g w R => ?_
  rcases cond_cases hM with ⟨h1, hM⟩ | ⟨h1, hM⟩
  · have hE : some false = some r := hM
    have hE := Option.some.inj hE
    subst hE
    exact pr R 9999 [.new 0, .new 1, .as 9 true] [] [] [] (And.intro h1 True.intro) (by kernel_rfl)
  · rcases cond_cases hM with ⟨h2, hM⟩ | ⟨h2, hM⟩
    · have hE : some false = some r := hM
      have hE := Option.some.inj hE
      subst hE
      exact pr R 9999 [.new 0, .new 1, .as 9 false, .as 14 true] [] [] [] (And.intro h1 (And.intro h2 True.intro)) (by kernel_rfl)
    · rcases cond_cases hM with ⟨h3, hM⟩ | ⟨h3, hM⟩
      · have hE : some false = some r := hM
        have hE := Option.some.inj hE
        subst hE
        exact pr R 9999 [.new 0, .new 1, .as 9 false, .as 14 false, .as 19 true] [] [] [] (And.intro h1 (And.intro h2 (And.intro h3 True.intro))) (by kernel_rfl)
      · rcases cond_cases hM with ⟨h4, hM⟩ | ⟨h4, hM⟩
        · have hE : some false = some r := hM
          have hE := Option.some.inj hE
          subst hE
          exact pr R 9999 [.new 0, .new 1, .as 9 false, .as 14 false, .as 19 false, .as 24 true] [] [] [] (And.intro h1 (And.intro h2 (And.intro h3 (And.intro h4 True.intro)))) (by kernel_rfl)
        · rcases cond_cases hM with ⟨h5, hM⟩ | ⟨h5, hM⟩
          · have hE : some false = some r := hM
            have hE := Option.some.inj hE
            subst hE
            exact pr R 9999 [.new 0, .new 1, .as 9 false, .as 14 false, .as 19 false, .as 24 false, .as 29 true] [] [] [] (And.intro h1 (And.intro h2 (And.intro h3 (And.intro h4 (And.intro h5 True.intro))))) (by kernel_rfl)
          · rcases cond_cases hM with ⟨h6, hM⟩ | ⟨h6, hM⟩
            · have hE : some false = some r := hM
              have hE := Option.some.inj hE
              subst hE
              exact pr R 9999 [.new 0, .new 1, .as 9 false, .as 14 false, .as 19 false, .as 24 false, .as 29 false, .as 34 true] [] [] [] (And.intro h1 (And.intro h2 (And.intro h3 (And.intro h4 (And.intro h5 (And.intro h6 True.intro)))))) (by kernel_rfl)
            · have hE : some true = some r := hM
              have hE := Option.some.inj hE
              subst hE
              exact pr R 9999 [.new 0, .new 1, .as 9 false, .as 14 false, .as 19 false, .as 24 false, .as 29 false, .as 34 false] [] [] [] (And.intro h1 (And.intro h2 (And.intro h3 (And.intro h4 (And.intro h5 (And.intro h6 True.intro)))))) (by kernel_rfl)

-- loop.example/g03014/laws.eqThingS
def laws_eqThingS_L1_b (a0 : (List Thing)) (a1 : (List Thing)) (s2 : Int) : Option (Ctl Int Unit Bool) :=
  bif (decide (s2 < (a0.length : Int))) then
  (gi a0 s2).bind fun v4 =>
  (gi a1 s2).bind fun v6 =>
  (laws_eqThing v4 v6).bind fun v8 =>
  bif (!v8) then
  some (.ret false)
  else
  some (.next (w64 (s2 + 1)))
  else
  some (.brk ())
def laws_eqThingS_L1 (a0 : (List Thing)) (a1 : (List Thing)) (s : Int) : Option (Ctl Int Unit Bool) := laws_eqThingS_L1_b a0 a1 s
def laws_eqThingS_L1_s (a0 : (List Thing)) (a1 : (List Thing)) (s2 : Int) : St := ⟨[(0, .o (.c (.rs 6 (a0.map Thing.enc)))), (1, .o (.c (.rs 6 (a1.map Thing.enc)))), (5, .o (.c (.v (.int .i64 s2))))], []⟩
def laws_eqThingS_L1_S (a0 : (List Thing)) (a1 : (List Thing)) (s : Int) : St := laws_eqThingS_L1_s a0 a1 s
def laws_eqThingS_L1_a : Option Bool :=
  some true
def laws_eqThingS_L1_k (x : (Unit) ⊕ (Bool)) : Option Bool := match x with
  | .inl t => laws_eqThingS_L1_a
  | .inr y => some y
def laws_eqThingS (a0 : (List Thing)) (a1 : (List Thing)) : Option Bool :=
  bif ((a0.length : Int) != (a1.length : Int)) then
  some false
  else
  (loopM (laws_eqThingS_L1 a0 a1) big 0).bind (laws_eqThingS_L1_k)
theorem laws_eqThingS_ok (a0 : (List Thing)) (a1 : (List Thing)) (r : Bool) (hM : laws_eqThingS a0 a1 = some r) :
    Con Try.prog 26 [.c (.rs 6 (a0.map Thing.enc)), .c (.rs 6 (a1.map Thing.enc))] [] (.o (.c (.v (.bool r)))) [] [] := by
  unfold laws_eqThingS at hM
  refine cn (N := 27) (pids := []) Try_mixed Try.func26 (by kernel_rfl) (by kernel_rfl) (by kernel_rfl) rfl fun ρ g w R => ?_
  rcases cond_cases hM with ⟨h1, hM⟩ | ⟨h1, hM⟩
  · have hE : some false = some r := hM
    have hE := Option.some.inj hE
    subst hE
    exact pr R 9999 [.ln (a0.length), .ln (a1.length), .as 10 true] [] [] [] (And.intro (lenm Thing.enc a0) (And.intro (lenm Thing.enc a1) (And.intro h1 True.intro))) (by kernel_rfl)
  · have K1 : ∀ (_ : Unit), laws_eqThingS_L1_a = some r → Gr R [.code (cAt Try.f26 [1, 1, 1])] (⟨[], []⟩) := by
      intro _ hM
      unfold laws_eqThingS_L1_a at hM
      have hE : some true = some r := hM
      have hE := Option.some.inj hE
      subst hE
      exact pr R 9999 [] [] [] [] True.intro (by kernel_rfl)
    refine pc R 9999 [.ln (a0.length), .ln (a1.length), .as 10 false] [.keep [0, 1, 5] []] (k' := [.code (.loop (cAt Try.f26 [1, 1, 0, 1, 0, 0])), .blk 0, .code (cAt Try.f26 [1, 1, 1])]) (S' := laws_eqThingS_L1_S a0 a1 0) (And.intro (lenm Thing.enc a0) (And.intro (lenm Thing.enc a1) (And.intro h1 True.intro))) (by kernel_rfl) ?_
    refine lq (laws_eqThingS_L1_S a0 a1) (body := laws_eqThingS_L1 a0 a1) (k := laws_eqThingS_L1_k) hM fun m1 s c1 hM hK1 => ?_
    obtain ⟨s2, hs⟩ : ∃ z, z = s := ⟨_, rfl⟩
    subst hs
    have hM : laws_eqThingS_L1_b a0 a1 s2 = some c1 := hM
    unfold laws_eqThingS_L1_b at hM
    rcases cond_cases hM with ⟨h3, hM⟩ | ⟨h3, hM⟩
    · obtain ⟨v4, h5, hM⟩ := bind_some hM
      obtain ⟨v6, h7, hM⟩ := bind_some hM
      obtain ⟨v8, h9, hM⟩ := bind_some hM
      rcases cond_cases hM with ⟨h10, hM⟩ | ⟨h10, hM⟩
      · have hE : some (Ctl.ret false) = some c1 := hM
        have hE := Option.some.inj hE
        subst hE
        have hE : some false = some r := hK1
        have hE := Option.some.inj hE
        subst hE
        exact pr R 9999 [.ln (a0.length), .as 14 true, .ix (Thing.enc v4), .ix (Thing.enc v6), .call false [] (.o (.c (.v (.bool v8)))) [] [], .as 26 true] [] [] [] (And.intro (lenm Thing.enc a0) (And.intro h3 (And.intro (gi_map Thing.enc h5) (And.intro (gi_map Thing.enc h7) (And.intro (laws_eqThing_ok v4 v6 v8 h9) (And.intro h10 True.intro)))))) (by kernel_rfl)
      · have hE : some (Ctl.next (w64 (s2 + 1))) = some c1 := hM
        have hE := Option.some.inj hE
        subst hE
        exact pc R 9999 [.ln (a0.length), .as 14 true, .ix (Thing.enc v4), .ix (Thing.enc v6), .call false [] (.o (.c (.v (.bool v8)))) [] [], .as 26 false] [.keep [0, 1, 5] []] (And.intro (lenm Thing.enc a0) (And.intro h3 (And.intro (gi_map Thing.enc h5) (And.intro (gi_map Thing.enc h7) (And.intro (laws_eqThing_ok v4 v6 v8 h9) (And.intro h10 True.intro)))))) (by kernel_rfl) (li (Sf := laws_eqThingS_L1_S a0 a1) (M := Mk (laws_eqThingS_L1 a0 a1) (laws_eqThingS_L1_k) r) (k := [.blk 0, .code (cAt Try.f26 [1, 1, 1])]) (Nat.lt_succ_self m1) hK1)
    · have hE : some (Ctl.brk ()) = some c1 := hM
      have hE := Option.some.inj hE
      subst hE
      exact pc R 5 [.ln (a0.length), .as 14 false] [.keep [] []] (And.intro (lenm Thing.enc a0) (And.intro h3 True.intro)) (by kernel_rfl) (K1 () hK1)

-- loop.example/g03014/laws.FnExactFindThing
def laws_FnExactFindThing (a0 : (List Thing)) (a1 : Int) : Option Bool :=
  (laws_szThingS a0 1048576).bind fun v1 =>
  bif (decide (v1 < 0)) then
  some true
  else
  (laws_toThingS a0).bind fun v4 =>
  (spec_FindThing v4 a1).bind fun v6 =>
  (laws_toThingS a0).bind fun v8 =>
  (impl_FindThing v8 a1).bind fun v10 =>
  bif (v10 != v6) then
  some false
  else
  (laws_toThingS a0).bind fun v13 =>
  (laws_eqThingS v8 v13).bind fun v15 =>
  bif (!v15) then
  some false
  else
  some true
theorem laws_FnExactFindThing_ok (a0 : (List Thing)) (a1 : Int) (r : Bool) (hM : laws_FnExactFindThing a0 a1 = some r) :
    Con Try.prog 3 [.c (.rs 6 (a0.map Thing.enc)), .c (.v (.int .i64 a1))] [] (.o (.c (.v (.bool r)))) [] [] := by
  unfold laws_FnExactFindThing at hM
  refine cn (N := 31) (pids := []) Try_mixed Try.func3 (by kernel_rfl) (by kernel_rfl) (by kernel_rfl) rfl fun ρ g w R => ?_
  obtain ⟨v1, h2, hM⟩ := bind_some hM
  rcases cond_cases hM with ⟨h3, hM⟩ | ⟨h3, hM⟩
  · have hE : some true = some r := hM
    have hE := Option.some.inj hE
    subst hE
    exact pr R 9999 [.call false [] (.o (.c (.v (.int .i64 v1)))) [] [], .as 13 true] [] [] [] (And.intro (laws_szThingS_ok a0 1048576 v1 h2) (And.intro h3 True.intro)) (by kernel_rfl)
  · obtain ⟨v4, h5, hM⟩ := bind_some hM
    obtain ⟨v6, h7, hM⟩ := bind_some hM
    obtain ⟨v8, h9, hM⟩ := bind_some hM
    obtain ⟨v10, h11, hM⟩ := bind_some hM
    rcases cond_cases hM with ⟨h12, hM⟩ | ⟨h12, hM⟩
    · have hE : some false = some r := hM
      have hE := Option.some.inj hE
      subst hE
      exact pr R 9999 [.call false [] (.o (.c (.v (.int .i64 v1)))) [] [], .as 13 false, .call false [] (.o (.c (.sl 0))) [] [(0, .row 49 6 (v4.map Thing.enc))], .call false [] (.o (.c (.v (.int .i64 v6)))) [] [], .call false [] (.o (.c (.sl 1))) [] [(1, .row 49 6 (v8.map Thing.enc))], .call false [] (.o (.c (.v (.int .i64 v10)))) [] [], .as 25 true] [] [] [] (And.intro (laws_szThingS_ok a0 1048576 v1 h2) (And.intro h3 (And.intro (And.intro (con_sw 1000 0 (laws_toThingS_ok a0 v4 h5)) (rfl : ([] : List Nat) = [])) (And.intro (spec_FindThing_ok v4 a1 v6 h7) (And.intro (And.intro (con_sw 1000 1 (laws_toThingS_ok a0 v8 h9)) (rfl : ([] : List Nat) = [])) (And.intro (impl_FindThing_ok v8 a1 v10 h11) (And.intro h12 True.intro))))))) (by kernel_rfl)
    · obtain ⟨v13, h14, hM⟩ := bind_some hM
      obtain ⟨v15, h16, hM⟩ := bind_some hM
      rcases cond_cases hM with ⟨h17, hM⟩ | ⟨h17, hM⟩
      · have hE : some false = some r := hM
        have hE := Option.some.inj hE
        subst hE
        exact pr R 9999 [.call false [] (.o (.c (.v (.int .i64 v1)))) [] [], .as 13 false, .call false [] (.o (.c (.sl 0))) [] [(0, .row 49 6 (v4.map Thing.enc))], .call false [] (.o (.c (.v (.int .i64 v6)))) [] [], .call false [] (.o (.c (.sl 1))) [] [(1, .row 49 6 (v8.map Thing.enc))], .call false [] (.o (.c (.v (.int .i64 v10)))) [] [], .as 25 false, .call false [] (.o (.c (.sl 2))) [] [(2, .row 49 6 (v13.map Thing.enc))], .call false [] (.o (.c (.v (.bool v15)))) [] [], .as 30 true] [] [] [] (And.intro (laws_szThingS_ok a0 1048576 v1 h2) (And.intro h3 (And.intro (And.intro (con_sw 1000 0 (laws_toThingS_ok a0 v4 h5)) (rfl : ([] : List Nat) = [])) (And.intro (spec_FindThing_ok v4 a1 v6 h7) (And.intro (And.intro (con_sw 1000 1 (laws_toThingS_ok a0 v8 h9)) (rfl : ([] : List Nat) = [])) (And.intro (impl_FindThing_ok v8 a1 v10 h11) (And.intro h12 (And.intro (And.intro (con_sw 1000 2 (laws_toThingS_ok a0 v13 h14)) (rfl : ([] : List Nat) = [])) (And.intro (laws_eqThingS_ok v8 v13 v15 h16) (And.intro h17 True.intro)))))))))) (by kernel_rfl)
      · have hE : some true = some r := hM
        have hE := Option.some.inj hE
        subst hE
        exact pr R 9999 [.call false [] (.o (.c (.v (.int .i64 v1)))) [] [], .as 13 false, .call false [] (.o (.c (.sl 0))) [] [(0, .row 49 6 (v4.map Thing.enc))], .call false [] (.o (.c (.v (.int .i64 v6)))) [] [], .call false [] (.o (.c (.sl 1))) [] [(1, .row 49 6 (v8.map Thing.enc))], .call false [] (.o (.c (.v (.int .i64 v10)))) [] [], .as 25 false, .call false [] (.o (.c (.sl 2))) [] [(2, .row 49 6 (v13.map Thing.enc))], .call false [] (.o (.c (.v (.bool v15)))) [] [], .as 30 false] [] [] [] (And.intro (laws_szThingS_ok a0 1048576 v1 h2) (And.intro h3 (And.intro (And.intro (con_sw 1000 0 (laws_toThingS_ok a0 v4 h5)) (rfl : ([] : List Nat) = [])) (And.intro (spec_FindThing_ok v4 a1 v6 h7) (And.intro (And.intro (con_sw 1000 1 (laws_toThingS_ok a0 v8 h9)) (rfl : ([] : List Nat) = [])) (And.intro (impl_FindThing_ok v8 a1 v10 h11) (And.intro h12 (And.intro (And.intro (con_sw 1000 2 (laws_toThingS_ok a0 v13 h14)) (rfl : ([] : List Nat) = [])) (And.intro (laws_eqThingS_ok v8 v13 v15 h16) (And.intro h17 True.intro)))))))))) (by kernel_rfl)
end Go.Sx
