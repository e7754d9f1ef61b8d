/- The functions of the program as plain Lean, and that each runs so (printed by wip/gen). -/
import Derived.Test.YtanfbicgojbnkaaDoorSxR
import Derived.Test.YtanfbicgojbnkaaDoorMfP
import Derived.Laws.StructEq
import Derived.Test.YtanfbicgojbnkaaDoorProg
namespace Go.Sx
open Go.Proofs
set_option linter.unusedVariables false
set_option maxRecDepth 100000
theorem Tryd_mixed : Tryd.prog.follows .mixedOrders = true := by kernel_rfl
structure Pair where
  Id : Int
  In : Int
  deriving DecidableEq, Inhabited
def Pair.enc (x : Pair) : List Value := [.int .i64 x.Id, .int .i64 x.In]
structure Thing where
  Id : Int
  Own : Int
  Room : Int
  In : Int
  Box : Bool
  Sealed : Bool
  deriving DecidableEq, Inhabited
def Thing.enc (x : Thing) : List Value := [.int .i64 x.Id, .int .i64 x.Own, .int .i64 x.Room, .int .i64 x.In, .bool x.Box, .bool x.Sealed]
structure manifestReader where
  s : ByteArray
  at_ : Int
  out : (List Pair)
  deriving DecidableEq, Inhabited
structure l1Cur where
  b : (List Int)
  i : Int
  h : Int
  deriving DecidableEq, Inhabited


-- loop.example/g03014/laws.szThingS
def laws_szThingS (a0 : (List Thing)) (a1 : Int) : Option Int :=
  bif (decide ((w64 (a1 - (a0.length : Int))) < 0)) then
  some (-1)
  else
  some (w64 (a1 - (a0.length : Int)))
theorem laws_szThingS_ok (a0 : (List Thing)) (a1 : Int) (r : Int) (hM : laws_szThingS a0 a1 = some r) :
    Con Tryd.prog 13 [.c (.rs 6 (a0.map Thing.enc)), .c (.v (.int .i64 a1))] [] (.o (.c (.v (.int .i64 r)))) [] [] := by
  unfold laws_szThingS at hM
  refine cn (N := 12) (pids := []) Tryd_mixed Tryd.func13 (by kernel_rfl) (by kernel_rfl) (by kernel_rfl) rfl fun ρ g w R => ?_
  rcases cond_cases hM with ⟨h1, hM⟩ | ⟨h1, hM⟩
  · have hE : some (-1) = some r := hM
    have hE := Option.some.inj hE
    subst hE
    exact pr R 9999 [.ln (a0.length), .as 10 true] [] [] [] (And.intro (lenm Thing.enc a0) (And.intro h1 True.intro)) (by kernel_rfl)
  · have hE : some (w64 (a1 - (a0.length : Int))) = some r := hM
    have hE := Option.some.inj hE
    subst hE
    exact pr R 9999 [.ln (a0.length), .as 10 false] [] [] [] (And.intro (lenm Thing.enc a0) (And.intro h1 True.intro)) (by kernel_rfl)

-- loop.example/g03014/laws.toThing
def laws_toThing (a0 : Thing) : Option Thing :=
  some a0
theorem laws_toThing_ok (a0 : Thing) (r : Thing) (hM : laws_toThing a0 = some r) :
    Con Tryd.prog 31 [.c (.v (.agg (Thing.enc a0).toArray))] [] (.o (.c (.v (.agg (Thing.enc r).toArray)))) [] [] := by
  unfold laws_toThing at hM
  refine cn (N := 23) (pids := []) Tryd_mixed Tryd.func31 (by kernel_rfl) (by kernel_rfl) (by kernel_rfl) rfl fun ρ g w R => ?_
  have hE : some a0 = some r := hM
  have hE := Option.some.inj hE
  subst hE
  exact pr R 9999 [.new 0, .new 1, .new 2] [] [] [] True.intro (by kernel_rfl)

-- loop.example/g03014/laws.toThingS
def laws_toThingS_L1_b (a0 : (List Thing)) (s3 : (List Thing)) (s4 : Int) : Option (Ctl ((List Thing) × Int) (List Thing) (List Thing)) :=
  bif (decide (s4 < (a0.length : Int))) then
  (gi a0 s4).bind fun v7 =>
  (laws_toThing v7).bind fun v9 =>
  (gi s3 s4).bind fun v11 =>
  some (.next (List.set s3 (Int.toNat s4) v9, w64 (s4 + 1)))
  else
  some (.brk s3)
def laws_toThingS_L1 (a0 : (List Thing)) (s : (List Thing) × Int) : Option (Ctl ((List Thing) × Int) (List Thing) (List Thing)) := laws_toThingS_L1_b a0 s.1 s.2
def laws_toThingS_L1_s (a0 : (List Thing)) (s3 : (List Thing)) (s4 : Int) : St := ⟨[(0, .o (.c (.rs 6 (a0.map Thing.enc)))), (3, .o (.c (.sl 0))), (4, .o (.c (.v (.int .i64 s4))))], [(0, .row 37 6 (s3.map Thing.enc))]⟩
def laws_toThingS_L1_S (a0 : (List Thing)) (s : (List Thing) × Int) : St := laws_toThingS_L1_s a0 s.1 s.2
def laws_toThingS_L1_a (s5 : (List Thing)) : Option (List Thing) :=
  some s5
def laws_toThingS_L1_k (x : ((List Thing)) ⊕ ((List Thing))) : Option (List Thing) := match x with
  | .inl t => laws_toThingS_L1_a t
  | .inr y => some y
def laws_toThingS (a0 : (List Thing)) : Option (List Thing) :=
  ((mkM 40 (a0.length : Int) : Option (List Thing))).bind fun v1 =>
  (loopM (laws_toThingS_L1 a0) big (v1, 0)).bind (laws_toThingS_L1_k)
theorem laws_toThingS_ok (a0 : (List Thing)) (r : (List Thing)) (hM : laws_toThingS a0 = some r) :
    Con Tryd.prog 14 [.c (.rs 6 (a0.map Thing.enc))] [] (.o (.c (.sl 1000))) [] [(1000, .row 37 6 (r.map Thing.enc))] := by
  unfold laws_toThingS at hM
  refine cn (N := 23) (pids := []) Tryd_mixed Tryd.func14 (by kernel_rfl) (by kernel_rfl) (by kernel_rfl) rfl fun ρ g w R => ?_
  obtain ⟨v1, h2, hM⟩ := bind_some hM
  have K1 : ∀ (s5 : (List Thing)), laws_toThingS_L1_a s5 = some r → Gr R [.code (cAt Tryd.f14 [1, 1, 1])] (⟨[(3, .o (.c (.sl 0)))], [(0, .row 37 6 (s5.map Thing.enc))]⟩) := by
    intro s5 hM
    unfold laws_toThingS_L1_a at hM
    have hE : some s5 = some r := hM
    have hE := Option.some.inj hE
    subst hE
    exact pr R 9999 [] [.sw 0 1000] [] [1000] True.intro (by kernel_rfl)
  refine pc R 9999 [.ln (a0.length), .new 0, .nm (v1.map Thing.enc)] [.keep [0, 3, 4] [0]] (k' := [.code (.loop (cAt Tryd.f14 [1, 1, 0, 1, 0, 0])), .blk 0, .code (cAt Tryd.f14 [1, 1, 1])]) (S' := laws_toThingS_L1_S a0 (v1, 0)) (And.intro (lenm Thing.enc a0) (And.intro (mkM_ok Thing.enc h2) True.intro)) (by kernel_rfl) ?_
  refine lq (laws_toThingS_L1_S a0) (body := laws_toThingS_L1 a0) (k := laws_toThingS_L1_k) hM fun m1 s c1 hM hK1 => ?_
  obtain ⟨s3, s4⟩ := s
  have hM : laws_toThingS_L1_b a0 s3 s4 = some c1 := hM
  unfold laws_toThingS_L1_b at hM
  rcases cond_cases hM with ⟨h6, hM⟩ | ⟨h6, hM⟩
  · obtain ⟨v7, h8, hM⟩ := bind_some hM
    obtain ⟨v9, h10, hM⟩ := bind_some hM
    obtain ⟨v11, h12, hM⟩ := bind_some hM
    have hE : some (Ctl.next (List.set s3 (Int.toNat s4) v9, w64 (s4 + 1))) = some c1 := hM
    have hE := Option.some.inj hE
    subst hE
    exact pc R 9999 [.ln (a0.length), .as 11 true, .ix (Thing.enc v7), .call false [] (.o (.c (.v (.agg (Thing.enc v9).toArray)))) [] [], .ix (Thing.enc v11), .nm ((List.set s3 (Int.toNat s4) v9).map Thing.enc)] [.keep [0, 3, 4] [0]] (And.intro (lenm Thing.enc a0) (And.intro h6 (And.intro (gi_map Thing.enc h8) (And.intro (laws_toThing_ok v7 v9 h10) (And.intro (gi_lt Thing.enc h12) (And.intro (And.intro (gi_map Thing.enc h12).2 (set_map Thing.enc s3 (Int.toNat s4) v9)) True.intro)))))) (by kernel_rfl) (li (Sf := laws_toThingS_L1_S a0) (M := Mk (laws_toThingS_L1 a0) (laws_toThingS_L1_k) r) (k := [.blk 0, .code (cAt Tryd.f14 [1, 1, 1])]) (Nat.lt_succ_self m1) hK1)
  · have hE : some (Ctl.brk s3) = some c1 := hM
    have hE := Option.some.inj hE
    subst hE
    exact pc R 5 [.ln (a0.length), .as 11 false] [.keep [3] [0]] (And.intro (lenm Thing.enc a0) (And.intro h6 True.intro)) (by kernel_rfl) (K1 s3 hK1)

-- loop.example/g03014/spec.l1In
def spec_l1In (a0 : Int) (a1 : Int) (a2 : Int) : Option Bool :=
  bif (decide (a0 ≥ a1)) then
  some (decide (a0 ≤ a2))
  else
  some false
theorem spec_l1In_ok (a0 : Int) (a1 : Int) (a2 : Int) (r : Bool) (hM : spec_l1In a0 a1 a2 = some r) :
    Con Tryd.prog 33 [.c (.v (.int .i64 a0)), .c (.v (.int .i64 a1)), .c (.v (.int .i64 a2))] [] (.o (.c (.v (.bool r)))) [] [] := by
  unfold spec_l1In at hM
  refine cn (N := 15) (pids := []) Tryd_mixed Tryd.func33 (by kernel_rfl) (by kernel_rfl) (by kernel_rfl) rfl fun ρ g w R => ?_
  rcases cond_cases hM with ⟨h1, hM⟩ | ⟨h1, hM⟩
  · have hE : some (decide (a0 ≤ a2)) = some r := hM
    have hE := Option.some.inj hE
    subst hE
    exact pr R 9999 [.as 10 true] [] [] [] (And.intro h1 True.intro) (by kernel_rfl)
  · have hE : some false = some r := hM
    have hE := Option.some.inj hE
    subst hE
    exact pr R 9999 [.as 10 false] [] [] [] (And.intro h1 True.intro) (by kernel_rfl)

-- loop.example/g03014/spec.FindThing
def spec_FindThing_L1_b (a0 : (List Thing)) (a1 : Int) (s1 : Int) : Option (Ctl Int Unit Int) :=
  bif (decide (s1 < (a0.length : Int))) then
  (gi a0 s1).bind fun v3 =>
  bif (v3.Id == a1) then
  some (.ret s1)
  else
  some (.next (w64 (s1 + 1)))
  else
  some (.brk ())
def spec_FindThing_L1 (a0 : (List Thing)) (a1 : Int) (s : Int) : Option (Ctl Int Unit Int) := spec_FindThing_L1_b a0 a1 s
def spec_FindThing_L1_s (a0 : (List Thing)) (a1 : Int) (s1 : Int) : St := ⟨[(0, .o (.c (.rs 6 (a0.map Thing.enc)))), (1, .o (.c (.v (.int .i64 a1)))), (5, .o (.c (.v (.int .i64 s1))))], []⟩
def spec_FindThing_L1_S (a0 : (List Thing)) (a1 : Int) (s : Int) : St := spec_FindThing_L1_s a0 a1 s
def spec_FindThing_L1_a : Option Int :=
  some (-1)
def spec_FindThing_L1_k (x : (Unit) ⊕ (Int)) : Option Int := match x with
  | .inl t => spec_FindThing_L1_a
  | .inr y => some y
def spec_FindThing (a0 : (List Thing)) (a1 : Int) : Option Int :=
  (loopM (spec_FindThing_L1 a0 a1) big 0).bind (spec_FindThing_L1_k)
theorem spec_FindThing_ok (a0 : (List Thing)) (a1 : Int) (r : Int) (hM : spec_FindThing a0 a1 = some r) :
    Con Tryd.prog 26 [.c (.rs 6 (a0.map Thing.enc)), .c (.v (.int .i64 a1))] [] (.o (.c (.v (.int .i64 r)))) [] [] := by
  unfold spec_FindThing at hM
  refine cn (N := 20) (pids := []) Tryd_mixed Tryd.func26 (by kernel_rfl) (by kernel_rfl) (by kernel_rfl) rfl fun ρ g w R => ?_
  have K1 : ∀ (_ : Unit), spec_FindThing_L1_a = some r → Gr R [.code (cAt Tryd.f26 [1, 1])] (⟨[], []⟩) := by
    intro _ hM
    unfold spec_FindThing_L1_a at hM
    have hE : some (-1) = some r := hM
    have hE := Option.some.inj hE
    subst hE
    exact pr R 9999 [] [] [] [] True.intro (by kernel_rfl)
  refine pc R 9999 [] [.keep [0, 1, 5] []] (k' := [.code (.loop (cAt Tryd.f26 [1, 0, 1, 0, 0])), .blk 0, .code (cAt Tryd.f26 [1, 1])]) (S' := spec_FindThing_L1_S a0 a1 0) True.intro (by kernel_rfl) ?_
  refine lq (spec_FindThing_L1_S a0 a1) (body := spec_FindThing_L1 a0 a1) (k := spec_FindThing_L1_k) hM fun m1 s c1 hM hK1 => ?_
  obtain ⟨s1, hs⟩ : ∃ z, z = s := ⟨_, rfl⟩
  subst hs
  have hM : spec_FindThing_L1_b a0 a1 s1 = some c1 := hM
  unfold spec_FindThing_L1_b at hM
  rcases cond_cases hM with ⟨h2, hM⟩ | ⟨h2, hM⟩
  · obtain ⟨v3, h4, hM⟩ := bind_some hM
    rcases cond_cases hM with ⟨h5, hM⟩ | ⟨h5, hM⟩
    · have hE : some (Ctl.ret s1) = some c1 := hM
      have hE := Option.some.inj hE
      subst hE
      have hE : some s1 = some r := hK1
      have hE := Option.some.inj hE
      subst hE
      exact pr R 9999 [.ln (a0.length), .as 9 true, .ix (Thing.enc v3), .as 18 true] [] [] [] (And.intro (lenm Thing.enc a0) (And.intro h2 (And.intro (gi_map Thing.enc h4) (And.intro h5 True.intro)))) (by kernel_rfl)
    · have hE : some (Ctl.next (w64 (s1 + 1))) = some c1 := hM
      have hE := Option.some.inj hE
      subst hE
      exact pc R 9999 [.ln (a0.length), .as 9 true, .ix (Thing.enc v3), .as 18 false] [.keep [0, 1, 5] []] (And.intro (lenm Thing.enc a0) (And.intro h2 (And.intro (gi_map Thing.enc h4) (And.intro h5 True.intro)))) (by kernel_rfl) (li (Sf := spec_FindThing_L1_S a0 a1) (M := Mk (spec_FindThing_L1 a0 a1) (spec_FindThing_L1_k) r) (k := [.blk 0, .code (cAt Tryd.f26 [1, 1])]) (Nat.lt_succ_self m1) hK1)
  · have hE : some (Ctl.brk ()) = some c1 := hM
    have hE := Option.some.inj hE
    subst hE
    exact pc R 5 [.ln (a0.length), .as 9 false] [.keep [] []] (And.intro (lenm Thing.enc a0) (And.intro h2 True.intro)) (by kernel_rfl) (K1 () hK1)

-- loop.example/g03014/spec.l5One
def spec_l5One (a0 : (List Thing)) (a1 : Int) : Option Bool :=
  (gi a0 a1).bind fun v1 =>
  (spec_l1In v1.Id 1 9999).bind fun v3 =>
  bif (!v3) then
  some false
  else
  bif (decide (a1 > 0)) then
  (gi a0 (w64 (a1 - 1))).bind fun v7 =>
  bif (decide (v7.Id ≥ v1.Id)) then
  some false
  else
  (spec_l1In v1.Own 1 30000).bind fun v10 =>
  bif (!v10) then
  some false
  else
  bif v1.Box then
  (spec_l1In v1.Room 1 1000000).bind fun v14 =>
  bif (!v14) then
  some false
  else
  bif (!v1.Box) then
  bif (v1.Room != 0) then
  some false
  else
  bif v1.Sealed then
  some false
  else
  (spec_FindThing a0 v1.In).bind fun v20 =>
  bif (v1.In == 0) then
  some true
  else
  bif (decide (v20 ≥ 0)) then
  (gi a0 v20).bind fun v24 =>
  some v24.Box
  else
  some false
  else
  (spec_FindThing a0 v1.In).bind fun v26 =>
  bif (v1.In == 0) then
  some true
  else
  bif (decide (v26 ≥ 0)) then
  (gi a0 v26).bind fun v30 =>
  some v30.Box
  else
  some false
  else
  bif (!v1.Box) then
  bif (v1.Room != 0) then
  some false
  else
  bif v1.Sealed then
  some false
  else
  (spec_FindThing a0 v1.In).bind fun v35 =>
  bif (v1.In == 0) then
  some true
  else
  bif (decide (v35 ≥ 0)) then
  (gi a0 v35).bind fun v39 =>
  some v39.Box
  else
  some false
  else
  (spec_FindThing a0 v1.In).bind fun v41 =>
  bif (v1.In == 0) then
  some true
  else
  bif (decide (v41 ≥ 0)) then
  (gi a0 v41).bind fun v45 =>
  some v45.Box
  else
  some false
  else
  (spec_l1In v1.Own 1 30000).bind fun v47 =>
  bif (!v47) then
  some false
  else
  bif v1.Box then
  (spec_l1In v1.Room 1 1000000).bind fun v51 =>
  bif (!v51) then
  some false
  else
  bif (!v1.Box) then
  bif (v1.Room != 0) then
  some false
  else
  bif v1.Sealed then
  some false
  else
  (spec_FindThing a0 v1.In).bind fun v57 =>
  bif (v1.In == 0) then
  some true
  else
  bif (decide (v57 ≥ 0)) then
  (gi a0 v57).bind fun v61 =>
  some v61.Box
  else
  some false
  else
  (spec_FindThing a0 v1.In).bind fun v63 =>
  bif (v1.In == 0) then
  some true
  else
  bif (decide (v63 ≥ 0)) then
  (gi a0 v63).bind fun v67 =>
  some v67.Box
  else
  some false
  else
  bif (!v1.Box) then
  bif (v1.Room != 0) then
  some false
  else
  bif v1.Sealed then
  some false
  else
  (spec_FindThing a0 v1.In).bind fun v72 =>
  bif (v1.In == 0) then
  some true
  else
  bif (decide (v72 ≥ 0)) then
  (gi a0 v72).bind fun v76 =>
  some v76.Box
  else
  some false
  else
  (spec_FindThing a0 v1.In).bind fun v78 =>
  bif (v1.In == 0) then
  some true
  else
  bif (decide (v78 ≥ 0)) then
  (gi a0 v78).bind fun v82 =>
  some v82.Box
  else
  some false
theorem spec_l5One_ok (a0 : (List Thing)) (a1 : Int) (r : Bool) (hM : spec_l5One a0 a1 = some r) :
    Con Tryd.prog 41 [.c (.rs 6 (a0.map Thing.enc)), .c (.v (.int .i64 a1))] [] (.o (.c (.v (.bool r)))) [] [] := by
  unfold spec_l5One at hM
  refine cn (N := 76) (pids := []) Tryd_mixed Tryd.func41 (by kernel_rfl) (by kernel_rfl) (by kernel_rfl) rfl fun ρ g w R => ?_
  obtain ⟨v1, h2, hM⟩ := bind_some hM
  obtain ⟨v3, h4, hM⟩ := bind_some hM
  rcases cond_cases hM with ⟨h5, hM⟩ | ⟨h5, hM⟩
  · have hE : some false = some r := hM
    have hE := Option.some.inj hE
    subst hE
    exact pr R 9999 [.ix (Thing.enc v1), .new 0, .call false [] (.o (.c (.v (.bool v3)))) [] [], .as 15 true] [] [] [] (And.intro (gi_map Thing.enc h2) (And.intro (spec_l1In_ok v1.Id 1 9999 v3 h4) (And.intro h5 True.intro))) (by kernel_rfl)
  · rcases cond_cases hM with ⟨h6, hM⟩ | ⟨h6, hM⟩
    · obtain ⟨v7, h8, hM⟩ := bind_some hM
      rcases cond_cases hM with ⟨h9, hM⟩ | ⟨h9, hM⟩
      · have hE : some false = some r := hM
        have hE := Option.some.inj hE
        subst hE
        exact pr R 9999 [.ix (Thing.enc v1), .new 0, .call false [] (.o (.c (.v (.bool v3)))) [] [], .as 15 false, .as 18 true, .ix (Thing.enc v7), .as 30 true] [] [] [] (And.intro (gi_map Thing.enc h2) (And.intro (spec_l1In_ok v1.Id 1 9999 v3 h4) (And.intro h5 (And.intro h6 (And.intro (gi_map Thing.enc h8) (And.intro h9 True.intro)))))) (by kernel_rfl)
      · obtain ⟨v10, h11, hM⟩ := bind_some hM
        rcases cond_cases hM with ⟨h12, hM⟩ | ⟨h12, hM⟩
        · have hE : some false = some r := hM
          have hE := Option.some.inj hE
          subst hE
          exact pr R 9999 [.ix (Thing.enc v1), .new 0, .call false [] (.o (.c (.v (.bool v3)))) [] [], .as 15 false, .as 18 true, .ix (Thing.enc v7), .as 30 false, .call false [] (.o (.c (.v (.bool v10)))) [] [], .as 35 true] [] [] [] (And.intro (gi_map Thing.enc h2) (And.intro (spec_l1In_ok v1.Id 1 9999 v3 h4) (And.intro h5 (And.intro h6 (And.intro (gi_map Thing.enc h8) (And.intro h9 (And.intro (spec_l1In_ok v1.Own 1 30000 v10 h11) (And.intro h12 True.intro)))))))) (by kernel_rfl)
        · rcases cond_cases hM with ⟨h13, hM⟩ | ⟨h13, hM⟩
          · obtain ⟨v14, h15, hM⟩ := bind_some hM
            rcases cond_cases hM with ⟨h16, hM⟩ | ⟨h16, hM⟩
            · have hE : some false = some r := hM
              have hE := Option.some.inj hE
              subst hE
              exact pr R 9999 [.ix (Thing.enc v1), .new 0, .call false [] (.o (.c (.v (.bool v3)))) [] [], .as 15 false, .as 18 true, .ix (Thing.enc v7), .as 30 false, .call false [] (.o (.c (.v (.bool v10)))) [] [], .as 35 false, .as 38 true, .call false [] (.o (.c (.v (.bool v14)))) [] [], .as 44 true] [] [] [] (And.intro (gi_map Thing.enc h2) (And.intro (spec_l1In_ok v1.Id 1 9999 v3 h4) (And.intro h5 (And.intro h6 (And.intro (gi_map Thing.enc h8) (And.intro h9 (And.intro (spec_l1In_ok v1.Own 1 30000 v10 h11) (And.intro h12 (And.intro h13 (And.intro (spec_l1In_ok v1.Room 1 1000000 v14 h15) (And.intro h16 True.intro))))))))))) (by kernel_rfl)
            · rcases cond_cases hM with ⟨h17, hM⟩ | ⟨h17, hM⟩
              · rcases cond_cases hM with ⟨h18, hM⟩ | ⟨h18, hM⟩
                · have hE : some false = some r := hM
                  have hE := Option.some.inj hE
                  subst hE
                  exact pr R 9999 [.ix (Thing.enc v1), .new 0, .call false [] (.o (.c (.v (.bool v3)))) [] [], .as 15 false, .as 18 true, .ix (Thing.enc v7), .as 30 false, .call false [] (.o (.c (.v (.bool v10)))) [] [], .as 35 false, .as 38 true, .call false [] (.o (.c (.v (.bool v14)))) [] [], .as 44 false, .as 48 true, .as 52 true] [] [] [] (And.intro (gi_map Thing.enc h2) (And.intro (spec_l1In_ok v1.Id 1 9999 v3 h4) (And.intro h5 (And.intro h6 (And.intro (gi_map Thing.enc h8) (And.intro h9 (And.intro (spec_l1In_ok v1.Own 1 30000 v10 h11) (And.intro h12 (And.intro h13 (And.intro (spec_l1In_ok v1.Room 1 1000000 v14 h15) (And.intro h16 (And.intro h17 (And.intro h18 True.intro))))))))))))) (by kernel_rfl)
                · rcases cond_cases hM with ⟨h19, hM⟩ | ⟨h19, hM⟩
                  · have hE : some false = some r := hM
                    have hE := Option.some.inj hE
                    subst hE
                    exact pr R 9999 [.ix (Thing.enc v1), .new 0, .call false [] (.o (.c (.v (.bool v3)))) [] [], .as 15 false, .as 18 true, .ix (Thing.enc v7), .as 30 false, .call false [] (.o (.c (.v (.bool v10)))) [] [], .as 35 false, .as 38 true, .call false [] (.o (.c (.v (.bool v14)))) [] [], .as 44 false, .as 48 true, .as 52 false, .as 57 true] [] [] [] (And.intro (gi_map Thing.enc h2) (And.intro (spec_l1In_ok v1.Id 1 9999 v3 h4) (And.intro h5 (And.intro h6 (And.intro (gi_map Thing.enc h8) (And.intro h9 (And.intro (spec_l1In_ok v1.Own 1 30000 v10 h11) (And.intro h12 (And.intro h13 (And.intro (spec_l1In_ok v1.Room 1 1000000 v14 h15) (And.intro h16 (And.intro h17 (And.intro h18 (And.intro h19 True.intro)))))))))))))) (by kernel_rfl)
                  · obtain ⟨v20, h21, hM⟩ := bind_some hM
                    rcases cond_cases hM with ⟨h22, hM⟩ | ⟨h22, hM⟩
                    · have hE : some true = some r := hM
                      have hE := Option.some.inj hE
                      subst hE
                      exact pr R 9999 [.ix (Thing.enc v1), .new 0, .call false [] (.o (.c (.v (.bool v3)))) [] [], .as 15 false, .as 18 true, .ix (Thing.enc v7), .as 30 false, .call false [] (.o (.c (.v (.bool v10)))) [] [], .as 35 false, .as 38 true, .call false [] (.o (.c (.v (.bool v14)))) [] [], .as 44 false, .as 48 true, .as 52 false, .as 57 false, .call false [] (.o (.c (.v (.int .i64 v20)))) [] [], .as 65 true] [] [] [] (And.intro (gi_map Thing.enc h2) (And.intro (spec_l1In_ok v1.Id 1 9999 v3 h4) (And.intro h5 (And.intro h6 (And.intro (gi_map Thing.enc h8) (And.intro h9 (And.intro (spec_l1In_ok v1.Own 1 30000 v10 h11) (And.intro h12 (And.intro h13 (And.intro (spec_l1In_ok v1.Room 1 1000000 v14 h15) (And.intro h16 (And.intro h17 (And.intro h18 (And.intro h19 (And.intro (spec_FindThing_ok a0 v1.In v20 h21) (And.intro h22 True.intro)))))))))))))))) (by kernel_rfl)
                    · rcases cond_cases hM with ⟨h23, hM⟩ | ⟨h23, hM⟩
                      · obtain ⟨v24, h25, hM⟩ := bind_some hM
                        have hE : some v24.Box = some r := hM
                        have hE := Option.some.inj hE
                        subst hE
                        exact pr R 9999 [.ix (Thing.enc v1), .new 0, .call false [] (.o (.c (.v (.bool v3)))) [] [], .as 15 false, .as 18 true, .ix (Thing.enc v7), .as 30 false, .call false [] (.o (.c (.v (.bool v10)))) [] [], .as 35 false, .as 38 true, .call false [] (.o (.c (.v (.bool v14)))) [] [], .as 44 false, .as 48 true, .as 52 false, .as 57 false, .call false [] (.o (.c (.v (.int .i64 v20)))) [] [], .as 65 false, .as 68 true, .ix (Thing.enc v24)] [] [] [] (And.intro (gi_map Thing.enc h2) (And.intro (spec_l1In_ok v1.Id 1 9999 v3 h4) (And.intro h5 (And.intro h6 (And.intro (gi_map Thing.enc h8) (And.intro h9 (And.intro (spec_l1In_ok v1.Own 1 30000 v10 h11) (And.intro h12 (And.intro h13 (And.intro (spec_l1In_ok v1.Room 1 1000000 v14 h15) (And.intro h16 (And.intro h17 (And.intro h18 (And.intro h19 (And.intro (spec_FindThing_ok a0 v1.In v20 h21) (And.intro h22 (And.intro h23 (And.intro (gi_map Thing.enc h25) True.intro)))))))))))))))))) (by kernel_rfl)
                      · have hE : some false = some r := hM
                        have hE := Option.some.inj hE
                        subst hE
                        exact pr R 9999 [.ix (Thing.enc v1), .new 0, .call false [] (.o (.c (.v (.bool v3)))) [] [], .as 15 false, .as 18 true, .ix (Thing.enc v7), .as 30 false, .call false [] (.o (.c (.v (.bool v10)))) [] [], .as 35 false, .as 38 true, .call false [] (.o (.c (.v (.bool v14)))) [] [], .as 44 false, .as 48 true, .as 52 false, .as 57 false, .call false [] (.o (.c (.v (.int .i64 v20)))) [] [], .as 65 false, .as 68 false] [] [] [] (And.intro (gi_map Thing.enc h2) (And.intro (spec_l1In_ok v1.Id 1 9999 v3 h4) (And.intro h5 (And.intro h6 (And.intro (gi_map Thing.enc h8) (And.intro h9 (And.intro (spec_l1In_ok v1.Own 1 30000 v10 h11) (And.intro h12 (And.intro h13 (And.intro (spec_l1In_ok v1.Room 1 1000000 v14 h15) (And.intro h16 (And.intro h17 (And.intro h18 (And.intro h19 (And.intro (spec_FindThing_ok a0 v1.In v20 h21) (And.intro h22 (And.intro h23 True.intro))))))))))))))))) (by kernel_rfl)
              · obtain ⟨v26, h27, hM⟩ := bind_some hM
                rcases cond_cases hM with ⟨h28, hM⟩ | ⟨h28, hM⟩
                · have hE : some true = some r := hM
                  have hE := Option.some.inj hE
                  subst hE
                  exact pr R 9999 [.ix (Thing.enc v1), .new 0, .call false [] (.o (.c (.v (.bool v3)))) [] [], .as 15 false, .as 18 true, .ix (Thing.enc v7), .as 30 false, .call false [] (.o (.c (.v (.bool v10)))) [] [], .as 35 false, .as 38 true, .call false [] (.o (.c (.v (.bool v14)))) [] [], .as 44 false, .as 48 false, .call false [] (.o (.c (.v (.int .i64 v26)))) [] [], .as 65 true] [] [] [] (And.intro (gi_map Thing.enc h2) (And.intro (spec_l1In_ok v1.Id 1 9999 v3 h4) (And.intro h5 (And.intro h6 (And.intro (gi_map Thing.enc h8) (And.intro h9 (And.intro (spec_l1In_ok v1.Own 1 30000 v10 h11) (And.intro h12 (And.intro h13 (And.intro (spec_l1In_ok v1.Room 1 1000000 v14 h15) (And.intro h16 (And.intro h17 (And.intro (spec_FindThing_ok a0 v1.In v26 h27) (And.intro h28 True.intro)))))))))))))) (by kernel_rfl)
                · rcases cond_cases hM with ⟨h29, hM⟩ | ⟨h29, hM⟩
                  · obtain ⟨v30, h31, hM⟩ := bind_some hM
                    have hE : some v30.Box = some r := hM
                    have hE := Option.some.inj hE
                    subst hE
                    exact pr R 9999 [.ix (Thing.enc v1), .new 0, .call false [] (.o (.c (.v (.bool v3)))) [] [], .as 15 false, .as 18 true, .ix (Thing.enc v7), .as 30 false, .call false [] (.o (.c (.v (.bool v10)))) [] [], .as 35 false, .as 38 true, .call false [] (.o (.c (.v (.bool v14)))) [] [], .as 44 false, .as 48 false, .call false [] (.o (.c (.v (.int .i64 v26)))) [] [], .as 65 false, .as 68 true, .ix (Thing.enc v30)] [] [] [] (And.intro (gi_map Thing.enc h2) (And.intro (spec_l1In_ok v1.Id 1 9999 v3 h4) (And.intro h5 (And.intro h6 (And.intro (gi_map Thing.enc h8) (And.intro h9 (And.intro (spec_l1In_ok v1.Own 1 30000 v10 h11) (And.intro h12 (And.intro h13 (And.intro (spec_l1In_ok v1.Room 1 1000000 v14 h15) (And.intro h16 (And.intro h17 (And.intro (spec_FindThing_ok a0 v1.In v26 h27) (And.intro h28 (And.intro h29 (And.intro (gi_map Thing.enc h31) True.intro)))))))))))))))) (by kernel_rfl)
                  · have hE : some false = some r := hM
                    have hE := Option.some.inj hE
                    subst hE
                    exact pr R 9999 [.ix (Thing.enc v1), .new 0, .call false [] (.o (.c (.v (.bool v3)))) [] [], .as 15 false, .as 18 true, .ix (Thing.enc v7), .as 30 false, .call false [] (.o (.c (.v (.bool v10)))) [] [], .as 35 false, .as 38 true, .call false [] (.o (.c (.v (.bool v14)))) [] [], .as 44 false, .as 48 false, .call false [] (.o (.c (.v (.int .i64 v26)))) [] [], .as 65 false, .as 68 false] [] [] [] (And.intro (gi_map Thing.enc h2) (And.intro (spec_l1In_ok v1.Id 1 9999 v3 h4) (And.intro h5 (And.intro h6 (And.intro (gi_map Thing.enc h8) (And.intro h9 (And.intro (spec_l1In_ok v1.Own 1 30000 v10 h11) (And.intro h12 (And.intro h13 (And.intro (spec_l1In_ok v1.Room 1 1000000 v14 h15) (And.intro h16 (And.intro h17 (And.intro (spec_FindThing_ok a0 v1.In v26 h27) (And.intro h28 (And.intro h29 True.intro))))))))))))))) (by kernel_rfl)
          · rcases cond_cases hM with ⟨h32, hM⟩ | ⟨h32, hM⟩
            · rcases cond_cases hM with ⟨h33, hM⟩ | ⟨h33, hM⟩
              · have hE : some false = some r := hM
                have hE := Option.some.inj hE
                subst hE
                exact pr R 9999 [.ix (Thing.enc v1), .new 0, .call false [] (.o (.c (.v (.bool v3)))) [] [], .as 15 false, .as 18 true, .ix (Thing.enc v7), .as 30 false, .call false [] (.o (.c (.v (.bool v10)))) [] [], .as 35 false, .as 38 false, .as 48 true, .as 52 true] [] [] [] (And.intro (gi_map Thing.enc h2) (And.intro (spec_l1In_ok v1.Id 1 9999 v3 h4) (And.intro h5 (And.intro h6 (And.intro (gi_map Thing.enc h8) (And.intro h9 (And.intro (spec_l1In_ok v1.Own 1 30000 v10 h11) (And.intro h12 (And.intro h13 (And.intro h32 (And.intro h33 True.intro))))))))))) (by kernel_rfl)
              · rcases cond_cases hM with ⟨h34, hM⟩ | ⟨h34, hM⟩
                · have hE : some false = some r := hM
                  have hE := Option.some.inj hE
                  subst hE
                  exact pr R 9999 [.ix (Thing.enc v1), .new 0, .call false [] (.o (.c (.v (.bool v3)))) [] [], .as 15 false, .as 18 true, .ix (Thing.enc v7), .as 30 false, .call false [] (.o (.c (.v (.bool v10)))) [] [], .as 35 false, .as 38 false, .as 48 true, .as 52 false, .as 57 true] [] [] [] (And.intro (gi_map Thing.enc h2) (And.intro (spec_l1In_ok v1.Id 1 9999 v3 h4) (And.intro h5 (And.intro h6 (And.intro (gi_map Thing.enc h8) (And.intro h9 (And.intro (spec_l1In_ok v1.Own 1 30000 v10 h11) (And.intro h12 (And.intro h13 (And.intro h32 (And.intro h33 (And.intro h34 True.intro)))))))))))) (by kernel_rfl)
                · obtain ⟨v35, h36, hM⟩ := bind_some hM
                  rcases cond_cases hM with ⟨h37, hM⟩ | ⟨h37, hM⟩
                  · have hE : some true = some r := hM
                    have hE := Option.some.inj hE
                    subst hE
                    exact pr R 9999 [.ix (Thing.enc v1), .new 0, .call false [] (.o (.c (.v (.bool v3)))) [] [], .as 15 false, .as 18 true, .ix (Thing.enc v7), .as 30 false, .call false [] (.o (.c (.v (.bool v10)))) [] [], .as 35 false, .as 38 false, .as 48 true, .as 52 false, .as 57 false, .call false [] (.o (.c (.v (.int .i64 v35)))) [] [], .as 65 true] [] [] [] (And.intro (gi_map Thing.enc h2) (And.intro (spec_l1In_ok v1.Id 1 9999 v3 h4) (And.intro h5 (And.intro h6 (And.intro (gi_map Thing.enc h8) (And.intro h9 (And.intro (spec_l1In_ok v1.Own 1 30000 v10 h11) (And.intro h12 (And.intro h13 (And.intro h32 (And.intro h33 (And.intro h34 (And.intro (spec_FindThing_ok a0 v1.In v35 h36) (And.intro h37 True.intro)))))))))))))) (by kernel_rfl)
                  · rcases cond_cases hM with ⟨h38, hM⟩ | ⟨h38, hM⟩
                    · obtain ⟨v39, h40, hM⟩ := bind_some hM
                      have hE : some v39.Box = some r := hM
                      have hE := Option.some.inj hE
                      subst hE
                      exact pr R 9999 [.ix (Thing.enc v1), .new 0, .call false [] (.o (.c (.v (.bool v3)))) [] [], .as 15 false, .as 18 true, .ix (Thing.enc v7), .as 30 false, .call false [] (.o (.c (.v (.bool v10)))) [] [], .as 35 false, .as 38 false, .as 48 true, .as 52 false, .as 57 false, .call false [] (.o (.c (.v (.int .i64 v35)))) [] [], .as 65 false, .as 68 true, .ix (Thing.enc v39)] [] [] [] (And.intro (gi_map Thing.enc h2) (And.intro (spec_l1In_ok v1.Id 1 9999 v3 h4) (And.intro h5 (And.intro h6 (And.intro (gi_map Thing.enc h8) (And.intro h9 (And.intro (spec_l1In_ok v1.Own 1 30000 v10 h11) (And.intro h12 (And.intro h13 (And.intro h32 (And.intro h33 (And.intro h34 (And.intro (spec_FindThing_ok a0 v1.In v35 h36) (And.intro h37 (And.intro h38 (And.intro (gi_map Thing.enc h40) True.intro)))))))))))))))) (by kernel_rfl)
                    · have hE : some false = some r := hM
                      have hE := Option.some.inj hE
                      subst hE
                      exact pr R 9999 [.ix (Thing.enc v1), .new 0, .call false [] (.o (.c (.v (.bool v3)))) [] [], .as 15 false, .as 18 true, .ix (Thing.enc v7), .as 30 false, .call false [] (.o (.c (.v (.bool v10)))) [] [], .as 35 false, .as 38 false, .as 48 true, .as 52 false, .as 57 false, .call false [] (.o (.c (.v (.int .i64 v35)))) [] [], .as 65 false, .as 68 false] [] [] [] (And.intro (gi_map Thing.enc h2) (And.intro (spec_l1In_ok v1.Id 1 9999 v3 h4) (And.intro h5 (And.intro h6 (And.intro (gi_map Thing.enc h8) (And.intro h9 (And.intro (spec_l1In_ok v1.Own 1 30000 v10 h11) (And.intro h12 (And.intro h13 (And.intro h32 (And.intro h33 (And.intro h34 (And.intro (spec_FindThing_ok a0 v1.In v35 h36) (And.intro h37 (And.intro h38 True.intro))))))))))))))) (by kernel_rfl)
            · obtain ⟨v41, h42, hM⟩ := bind_some hM
              rcases cond_cases hM with ⟨h43, hM⟩ | ⟨h43, hM⟩
              · have hE : some true = some r := hM
                have hE := Option.some.inj hE
                subst hE
                exact pr R 9999 [.ix (Thing.enc v1), .new 0, .call false [] (.o (.c (.v (.bool v3)))) [] [], .as 15 false, .as 18 true, .ix (Thing.enc v7), .as 30 false, .call false [] (.o (.c (.v (.bool v10)))) [] [], .as 35 false, .as 38 false, .as 48 false, .call false [] (.o (.c (.v (.int .i64 v41)))) [] [], .as 65 true] [] [] [] (And.intro (gi_map Thing.enc h2) (And.intro (spec_l1In_ok v1.Id 1 9999 v3 h4) (And.intro h5 (And.intro h6 (And.intro (gi_map Thing.enc h8) (And.intro h9 (And.intro (spec_l1In_ok v1.Own 1 30000 v10 h11) (And.intro h12 (And.intro h13 (And.intro h32 (And.intro (spec_FindThing_ok a0 v1.In v41 h42) (And.intro h43 True.intro)))))))))))) (by kernel_rfl)
              · rcases cond_cases hM with ⟨h44, hM⟩ | ⟨h44, hM⟩
                · obtain ⟨v45, h46, hM⟩ := bind_some hM
                  have hE : some v45.Box = some r := hM
                  have hE := Option.some.inj hE
                  subst hE
                  exact pr R 9999 [.ix (Thing.enc v1), .new 0, .call false [] (.o (.c (.v (.bool v3)))) [] [], .as 15 false, .as 18 true, .ix (Thing.enc v7), .as 30 false, .call false [] (.o (.c (.v (.bool v10)))) [] [], .as 35 false, .as 38 false, .as 48 false, .call false [] (.o (.c (.v (.int .i64 v41)))) [] [], .as 65 false, .as 68 true, .ix (Thing.enc v45)] [] [] [] (And.intro (gi_map Thing.enc h2) (And.intro (spec_l1In_ok v1.Id 1 9999 v3 h4) (And.intro h5 (And.intro h6 (And.intro (gi_map Thing.enc h8) (And.intro h9 (And.intro (spec_l1In_ok v1.Own 1 30000 v10 h11) (And.intro h12 (And.intro h13 (And.intro h32 (And.intro (spec_FindThing_ok a0 v1.In v41 h42) (And.intro h43 (And.intro h44 (And.intro (gi_map Thing.enc h46) True.intro)))))))))))))) (by kernel_rfl)
                · have hE : some false = some r := hM
                  have hE := Option.some.inj hE
                  subst hE
                  exact pr R 9999 [.ix (Thing.enc v1), .new 0, .call false [] (.o (.c (.v (.bool v3)))) [] [], .as 15 false, .as 18 true, .ix (Thing.enc v7), .as 30 false, .call false [] (.o (.c (.v (.bool v10)))) [] [], .as 35 false, .as 38 false, .as 48 false, .call false [] (.o (.c (.v (.int .i64 v41)))) [] [], .as 65 false, .as 68 false] [] [] [] (And.intro (gi_map Thing.enc h2) (And.intro (spec_l1In_ok v1.Id 1 9999 v3 h4) (And.intro h5 (And.intro h6 (And.intro (gi_map Thing.enc h8) (And.intro h9 (And.intro (spec_l1In_ok v1.Own 1 30000 v10 h11) (And.intro h12 (And.intro h13 (And.intro h32 (And.intro (spec_FindThing_ok a0 v1.In v41 h42) (And.intro h43 (And.intro h44 True.intro))))))))))))) (by kernel_rfl)
    · obtain ⟨v47, h48, hM⟩ := bind_some hM
      rcases cond_cases hM with ⟨h49, hM⟩ | ⟨h49, hM⟩
      · have hE : some false = some r := hM
        have hE := Option.some.inj hE
        subst hE
        exact pr R 9999 [.ix (Thing.enc v1), .new 0, .call false [] (.o (.c (.v (.bool v3)))) [] [], .as 15 false, .as 18 false, .call false [] (.o (.c (.v (.bool v47)))) [] [], .as 35 true] [] [] [] (And.intro (gi_map Thing.enc h2) (And.intro (spec_l1In_ok v1.Id 1 9999 v3 h4) (And.intro h5 (And.intro h6 (And.intro (spec_l1In_ok v1.Own 1 30000 v47 h48) (And.intro h49 True.intro)))))) (by kernel_rfl)
      · rcases cond_cases hM with ⟨h50, hM⟩ | ⟨h50, hM⟩
        · obtain ⟨v51, h52, hM⟩ := bind_some hM
          rcases cond_cases hM with ⟨h53, hM⟩ | ⟨h53, hM⟩
          · have hE : some false = some r := hM
            have hE := Option.some.inj hE
            subst hE
            exact pr R 9999 [.ix (Thing.enc v1), .new 0, .call false [] (.o (.c (.v (.bool v3)))) [] [], .as 15 false, .as 18 false, .call false [] (.o (.c (.v (.bool v47)))) [] [], .as 35 false, .as 38 true, .call false [] (.o (.c (.v (.bool v51)))) [] [], .as 44 true] [] [] [] (And.intro (gi_map Thing.enc h2) (And.intro (spec_l1In_ok v1.Id 1 9999 v3 h4) (And.intro h5 (And.intro h6 (And.intro (spec_l1In_ok v1.Own 1 30000 v47 h48) (And.intro h49 (And.intro h50 (And.intro (spec_l1In_ok v1.Room 1 1000000 v51 h52) (And.intro h53 True.intro))))))))) (by kernel_rfl)
          · rcases cond_cases hM with ⟨h54, hM⟩ | ⟨h54, hM⟩
            · rcases cond_cases hM with ⟨h55, hM⟩ | ⟨h55, hM⟩
              · have hE : some false = some r := hM
                have hE := Option.some.inj hE
                subst hE
                exact pr R 9999 [.ix (Thing.enc v1), .new 0, .call false [] (.o (.c (.v (.bool v3)))) [] [], .as 15 false, .as 18 false, .call false [] (.o (.c (.v (.bool v47)))) [] [], .as 35 false, .as 38 true, .call false [] (.o (.c (.v (.bool v51)))) [] [], .as 44 false, .as 48 true, .as 52 true] [] [] [] (And.intro (gi_map Thing.enc h2) (And.intro (spec_l1In_ok v1.Id 1 9999 v3 h4) (And.intro h5 (And.intro h6 (And.intro (spec_l1In_ok v1.Own 1 30000 v47 h48) (And.intro h49 (And.intro h50 (And.intro (spec_l1In_ok v1.Room 1 1000000 v51 h52) (And.intro h53 (And.intro h54 (And.intro h55 True.intro))))))))))) (by kernel_rfl)
              · rcases cond_cases hM with ⟨h56, hM⟩ | ⟨h56, hM⟩
                · have hE : some false = some r := hM
                  have hE := Option.some.inj hE
                  subst hE
                  exact pr R 9999 [.ix (Thing.enc v1), .new 0, .call false [] (.o (.c (.v (.bool v3)))) [] [], .as 15 false, .as 18 false, .call false [] (.o (.c (.v (.bool v47)))) [] [], .as 35 false, .as 38 true, .call false [] (.o (.c (.v (.bool v51)))) [] [], .as 44 false, .as 48 true, .as 52 false, .as 57 true] [] [] [] (And.intro (gi_map Thing.enc h2) (And.intro (spec_l1In_ok v1.Id 1 9999 v3 h4) (And.intro h5 (And.intro h6 (And.intro (spec_l1In_ok v1.Own 1 30000 v47 h48) (And.intro h49 (And.intro h50 (And.intro (spec_l1In_ok v1.Room 1 1000000 v51 h52) (And.intro h53 (And.intro h54 (And.intro h55 (And.intro h56 True.intro)))))))))))) (by kernel_rfl)
                · obtain ⟨v57, h58, hM⟩ := bind_some hM
                  rcases cond_cases hM with ⟨h59, hM⟩ | ⟨h59, hM⟩
                  · have hE : some true = some r := hM
                    have hE := Option.some.inj hE
                    subst hE
                    exact pr R 9999 [.ix (Thing.enc v1), .new 0, .call false [] (.o (.c (.v (.bool v3)))) [] [], .as 15 false, .as 18 false, .call false [] (.o (.c (.v (.bool v47)))) [] [], .as 35 false, .as 38 true, .call false [] (.o (.c (.v (.bool v51)))) [] [], .as 44 false, .as 48 true, .as 52 false, .as 57 false, .call false [] (.o (.c (.v (.int .i64 v57)))) [] [], .as 65 true] [] [] [] (And.intro (gi_map Thing.enc h2) (And.intro (spec_l1In_ok v1.Id 1 9999 v3 h4) (And.intro h5 (And.intro h6 (And.intro (spec_l1In_ok v1.Own 1 30000 v47 h48) (And.intro h49 (And.intro h50 (And.intro (spec_l1In_ok v1.Room 1 1000000 v51 h52) (And.intro h53 (And.intro h54 (And.intro h55 (And.intro h56 (And.intro (spec_FindThing_ok a0 v1.In v57 h58) (And.intro h59 True.intro)))))))))))))) (by kernel_rfl)
                  · rcases cond_cases hM with ⟨h60, hM⟩ | ⟨h60, hM⟩
                    · obtain ⟨v61, h62, hM⟩ := bind_some hM
                      have hE : some v61.Box = some r := hM
                      have hE := Option.some.inj hE
                      subst hE
                      exact pr R 9999 [.ix (Thing.enc v1), .new 0, .call false [] (.o (.c (.v (.bool v3)))) [] [], .as 15 false, .as 18 false, .call false [] (.o (.c (.v (.bool v47)))) [] [], .as 35 false, .as 38 true, .call false [] (.o (.c (.v (.bool v51)))) [] [], .as 44 false, .as 48 true, .as 52 false, .as 57 false, .call false [] (.o (.c (.v (.int .i64 v57)))) [] [], .as 65 false, .as 68 true, .ix (Thing.enc v61)] [] [] [] (And.intro (gi_map Thing.enc h2) (And.intro (spec_l1In_ok v1.Id 1 9999 v3 h4) (And.intro h5 (And.intro h6 (And.intro (spec_l1In_ok v1.Own 1 30000 v47 h48) (And.intro h49 (And.intro h50 (And.intro (spec_l1In_ok v1.Room 1 1000000 v51 h52) (And.intro h53 (And.intro h54 (And.intro h55 (And.intro h56 (And.intro (spec_FindThing_ok a0 v1.In v57 h58) (And.intro h59 (And.intro h60 (And.intro (gi_map Thing.enc h62) True.intro)))))))))))))))) (by kernel_rfl)
                    · have hE : some false = some r := hM
                      have hE := Option.some.inj hE
                      subst hE
                      exact pr R 9999 [.ix (Thing.enc v1), .new 0, .call false [] (.o (.c (.v (.bool v3)))) [] [], .as 15 false, .as 18 false, .call false [] (.o (.c (.v (.bool v47)))) [] [], .as 35 false, .as 38 true, .call false [] (.o (.c (.v (.bool v51)))) [] [], .as 44 false, .as 48 true, .as 52 false, .as 57 false, .call false [] (.o (.c (.v (.int .i64 v57)))) [] [], .as 65 false, .as 68 false] [] [] [] (And.intro (gi_map Thing.enc h2) (And.intro (spec_l1In_ok v1.Id 1 9999 v3 h4) (And.intro h5 (And.intro h6 (And.intro (spec_l1In_ok v1.Own 1 30000 v47 h48) (And.intro h49 (And.intro h50 (And.intro (spec_l1In_ok v1.Room 1 1000000 v51 h52) (And.intro h53 (And.intro h54 (And.intro h55 (And.intro h56 (And.intro (spec_FindThing_ok a0 v1.In v57 h58) (And.intro h59 (And.intro h60 True.intro))))))))))))))) (by kernel_rfl)
            · obtain ⟨v63, h64, hM⟩ := bind_some hM
              rcases cond_cases hM with ⟨h65, hM⟩ | ⟨h65, hM⟩
              · have hE : some true = some r := hM
                have hE := Option.some.inj hE
                subst hE
                exact pr R 9999 [.ix (Thing.enc v1), .new 0, .call false [] (.o (.c (.v (.bool v3)))) [] [], .as 15 false, .as 18 false, .call false [] (.o (.c (.v (.bool v47)))) [] [], .as 35 false, .as 38 true, .call false [] (.o (.c (.v (.bool v51)))) [] [], .as 44 false, .as 48 false, .call false [] (.o (.c (.v (.int .i64 v63)))) [] [], .as 65 true] [] [] [] (And.intro (gi_map Thing.enc h2) (And.intro (spec_l1In_ok v1.Id 1 9999 v3 h4) (And.intro h5 (And.intro h6 (And.intro (spec_l1In_ok v1.Own 1 30000 v47 h48) (And.intro h49 (And.intro h50 (And.intro (spec_l1In_ok v1.Room 1 1000000 v51 h52) (And.intro h53 (And.intro h54 (And.intro (spec_FindThing_ok a0 v1.In v63 h64) (And.intro h65 True.intro)))))))))))) (by kernel_rfl)
              · rcases cond_cases hM with ⟨h66, hM⟩ | ⟨h66, hM⟩
                · obtain ⟨v67, h68, hM⟩ := bind_some hM
                  have hE : some v67.Box = some r := hM
                  have hE := Option.some.inj hE
                  subst hE
                  exact pr R 9999 [.ix (Thing.enc v1), .new 0, .call false [] (.o (.c (.v (.bool v3)))) [] [], .as 15 false, .as 18 false, .call false [] (.o (.c (.v (.bool v47)))) [] [], .as 35 false, .as 38 true, .call false [] (.o (.c (.v (.bool v51)))) [] [], .as 44 false, .as 48 false, .call false [] (.o (.c (.v (.int .i64 v63)))) [] [], .as 65 false, .as 68 true, .ix (Thing.enc v67)] [] [] [] (And.intro (gi_map Thing.enc h2) (And.intro (spec_l1In_ok v1.Id 1 9999 v3 h4) (And.intro h5 (And.intro h6 (And.intro (spec_l1In_ok v1.Own 1 30000 v47 h48) (And.intro h49 (And.intro h50 (And.intro (spec_l1In_ok v1.Room 1 1000000 v51 h52) (And.intro h53 (And.intro h54 (And.intro (spec_FindThing_ok a0 v1.In v63 h64) (And.intro h65 (And.intro h66 (And.intro (gi_map Thing.enc h68) True.intro)))))))))))))) (by kernel_rfl)
                · have hE : some false = some r := hM
                  have hE := Option.some.inj hE
                  subst hE
                  exact pr R 9999 [.ix (Thing.enc v1), .new 0, .call false [] (.o (.c (.v (.bool v3)))) [] [], .as 15 false, .as 18 false, .call false [] (.o (.c (.v (.bool v47)))) [] [], .as 35 false, .as 38 true, .call false [] (.o (.c (.v (.bool v51)))) [] [], .as 44 false, .as 48 false, .call false [] (.o (.c (.v (.int .i64 v63)))) [] [], .as 65 false, .as 68 false] [] [] [] (And.intro (gi_map Thing.enc h2) (And.intro (spec_l1In_ok v1.Id 1 9999 v3 h4) (And.intro h5 (And.intro h6 (And.intro (spec_l1In_ok v1.Own 1 30000 v47 h48) (And.intro h49 (And.intro h50 (And.intro (spec_l1In_ok v1.Room 1 1000000 v51 h52) (And.intro h53 (And.intro h54 (And.intro (spec_FindThing_ok a0 v1.In v63 h64) (And.intro h65 (And.intro h66 True.intro))))))))))))) (by kernel_rfl)
        · rcases cond_cases hM with ⟨h69, hM⟩ | ⟨h69, hM⟩
          · rcases cond_cases hM with ⟨h70, hM⟩ | ⟨h70, hM⟩
            · have hE : some false = some r := hM
              have hE := Option.some.inj hE
              subst hE
              exact pr R 9999 [.ix (Thing.enc v1), .new 0, .call false [] (.o (.c (.v (.bool v3)))) [] [], .as 15 false, .as 18 false, .call false [] (.o (.c (.v (.bool v47)))) [] [], .as 35 false, .as 38 false, .as 48 true, .as 52 true] [] [] [] (And.intro (gi_map Thing.enc h2) (And.intro (spec_l1In_ok v1.Id 1 9999 v3 h4) (And.intro h5 (And.intro h6 (And.intro (spec_l1In_ok v1.Own 1 30000 v47 h48) (And.intro h49 (And.intro h50 (And.intro h69 (And.intro h70 True.intro))))))))) (by kernel_rfl)
            · rcases cond_cases hM with ⟨h71, hM⟩ | ⟨h71, hM⟩
              · have hE : some false = some r := hM
                have hE := Option.some.inj hE
                subst hE
                exact pr R 9999 [.ix (Thing.enc v1), .new 0, .call false [] (.o (.c (.v (.bool v3)))) [] [], .as 15 false, .as 18 false, .call false [] (.o (.c (.v (.bool v47)))) [] [], .as 35 false, .as 38 false, .as 48 true, .as 52 false, .as 57 true] [] [] [] (And.intro (gi_map Thing.enc h2) (And.intro (spec_l1In_ok v1.Id 1 9999 v3 h4) (And.intro h5 (And.intro h6 (And.intro (spec_l1In_ok v1.Own 1 30000 v47 h48) (And.intro h49 (And.intro h50 (And.intro h69 (And.intro h70 (And.intro h71 True.intro)))))))))) (by kernel_rfl)
              · obtain ⟨v72, h73, hM⟩ := bind_some hM
                rcases cond_cases hM with ⟨h74, hM⟩ | ⟨h74, hM⟩
                · have hE : some true = some r := hM
                  have hE := Option.some.inj hE
                  subst hE
                  exact pr R 9999 [.ix (Thing.enc v1), .new 0, .call false [] (.o (.c (.v (.bool v3)))) [] [], .as 15 false, .as 18 false, .call false [] (.o (.c (.v (.bool v47)))) [] [], .as 35 false, .as 38 false, .as 48 true, .as 52 false, .as 57 false, .call false [] (.o (.c (.v (.int .i64 v72)))) [] [], .as 65 true] [] [] [] (And.intro (gi_map Thing.enc h2) (And.intro (spec_l1In_ok v1.Id 1 9999 v3 h4) (And.intro h5 (And.intro h6 (And.intro (spec_l1In_ok v1.Own 1 30000 v47 h48) (And.intro h49 (And.intro h50 (And.intro h69 (And.intro h70 (And.intro h71 (And.intro (spec_FindThing_ok a0 v1.In v72 h73) (And.intro h74 True.intro)))))))))))) (by kernel_rfl)
                · rcases cond_cases hM with ⟨h75, hM⟩ | ⟨h75, hM⟩
                  · obtain ⟨v76, h77, hM⟩ := bind_some hM
                    have hE : some v76.Box = some r := hM
                    have hE := Option.some.inj hE
                    subst hE
                    exact pr R 9999 [.ix (Thing.enc v1), .new 0, .call false [] (.o (.c (.v (.bool v3)))) [] [], .as 15 false, .as 18 false, .call false [] (.o (.c (.v (.bool v47)))) [] [], .as 35 false, .as 38 false, .as 48 true, .as 52 false, .as 57 false, .call false [] (.o (.c (.v (.int .i64 v72)))) [] [], .as 65 false, .as 68 true, .ix (Thing.enc v76)] [] [] [] (And.intro (gi_map Thing.enc h2) (And.intro (spec_l1In_ok v1.Id 1 9999 v3 h4) (And.intro h5 (And.intro h6 (And.intro (spec_l1In_ok v1.Own 1 30000 v47 h48) (And.intro h49 (And.intro h50 (And.intro h69 (And.intro h70 (And.intro h71 (And.intro (spec_FindThing_ok a0 v1.In v72 h73) (And.intro h74 (And.intro h75 (And.intro (gi_map Thing.enc h77) True.intro)))))))))))))) (by kernel_rfl)
                  · have hE : some false = some r := hM
                    have hE := Option.some.inj hE
                    subst hE
                    exact pr R 9999 [.ix (Thing.enc v1), .new 0, .call false [] (.o (.c (.v (.bool v3)))) [] [], .as 15 false, .as 18 false, .call false [] (.o (.c (.v (.bool v47)))) [] [], .as 35 false, .as 38 false, .as 48 true, .as 52 false, .as 57 false, .call false [] (.o (.c (.v (.int .i64 v72)))) [] [], .as 65 false, .as 68 false] [] [] [] (And.intro (gi_map Thing.enc h2) (And.intro (spec_l1In_ok v1.Id 1 9999 v3 h4) (And.intro h5 (And.intro h6 (And.intro (spec_l1In_ok v1.Own 1 30000 v47 h48) (And.intro h49 (And.intro h50 (And.intro h69 (And.intro h70 (And.intro h71 (And.intro (spec_FindThing_ok a0 v1.In v72 h73) (And.intro h74 (And.intro h75 True.intro))))))))))))) (by kernel_rfl)
          · obtain ⟨v78, h79, hM⟩ := bind_some hM
            rcases cond_cases hM with ⟨h80, hM⟩ | ⟨h80, hM⟩
            · have hE : some true = some r := hM
              have hE := Option.some.inj hE
              subst hE
              exact pr R 9999 [.ix (Thing.enc v1), .new 0, .call false [] (.o (.c (.v (.bool v3)))) [] [], .as 15 false, .as 18 false, .call false [] (.o (.c (.v (.bool v47)))) [] [], .as 35 false, .as 38 false, .as 48 false, .call false [] (.o (.c (.v (.int .i64 v78)))) [] [], .as 65 true] [] [] [] (And.intro (gi_map Thing.enc h2) (And.intro (spec_l1In_ok v1.Id 1 9999 v3 h4) (And.intro h5 (And.intro h6 (And.intro (spec_l1In_ok v1.Own 1 30000 v47 h48) (And.intro h49 (And.intro h50 (And.intro h69 (And.intro (spec_FindThing_ok a0 v1.In v78 h79) (And.intro h80 True.intro)))))))))) (by kernel_rfl)
            · rcases cond_cases hM with ⟨h81, hM⟩ | ⟨h81, hM⟩
              · obtain ⟨v82, h83, hM⟩ := bind_some hM
                have hE : some v82.Box = some r := hM
                have hE := Option.some.inj hE
                subst hE
                exact pr R 9999 [.ix (Thing.enc v1), .new 0, .call false [] (.o (.c (.v (.bool v3)))) [] [], .as 15 false, .as 18 false, .call false [] (.o (.c (.v (.bool v47)))) [] [], .as 35 false, .as 38 false, .as 48 false, .call false [] (.o (.c (.v (.int .i64 v78)))) [] [], .as 65 false, .as 68 true, .ix (Thing.enc v82)] [] [] [] (And.intro (gi_map Thing.enc h2) (And.intro (spec_l1In_ok v1.Id 1 9999 v3 h4) (And.intro h5 (And.intro h6 (And.intro (spec_l1In_ok v1.Own 1 30000 v47 h48) (And.intro h49 (And.intro h50 (And.intro h69 (And.intro (spec_FindThing_ok a0 v1.In v78 h79) (And.intro h80 (And.intro h81 (And.intro (gi_map Thing.enc h83) True.intro)))))))))))) (by kernel_rfl)
              · have hE : some false = some r := hM
                have hE := Option.some.inj hE
                subst hE
                exact pr R 9999 [.ix (Thing.enc v1), .new 0, .call false [] (.o (.c (.v (.bool v3)))) [] [], .as 15 false, .as 18 false, .call false [] (.o (.c (.v (.bool v47)))) [] [], .as 35 false, .as 38 false, .as 48 false, .call false [] (.o (.c (.v (.int .i64 v78)))) [] [], .as 65 false, .as 68 false] [] [] [] (And.intro (gi_map Thing.enc h2) (And.intro (spec_l1In_ok v1.Id 1 9999 v3 h4) (And.intro h5 (And.intro h6 (And.intro (spec_l1In_ok v1.Own 1 30000 v47 h48) (And.intro h49 (And.intro h50 (And.intro h69 (And.intro (spec_FindThing_ok a0 v1.In v78 h79) (And.intro h80 (And.intro h81 True.intro))))))))))) (by kernel_rfl)

-- loop.example/g03014/spec.l5Depth
def spec_l5Depth_L1_b (a0 : (List Thing)) (s3 : Int) (s4 : Int) : Option (Ctl (Int × Int) Int Int) :=
  bif (decide (s4 ≥ 0)) then
  (gi a0 s4).bind fun v7 =>
  bif (v7.In != 0) then
  bif (decide (s3 ≤ 4)) then
  (gi a0 s4).bind fun v11 =>
  (spec_FindThing a0 v11.In).bind fun v13 =>
  some (.next (w64 (s3 + 1), v13))
  else
  some (.brk s3)
  else
  some (.brk s3)
  else
  some (.brk s3)
def spec_l5Depth_L1 (a0 : (List Thing)) (s : Int × Int) : Option (Ctl (Int × Int) Int Int) := spec_l5Depth_L1_b a0 s.1 s.2
def spec_l5Depth_L1_s (a0 : (List Thing)) (s3 : Int) (s4 : Int) : St := ⟨[(0, .o (.c (.rs 6 (a0.map Thing.enc)))), (5, .o (.c (.v (.int .i64 s3)))), (6, .o (.c (.v (.int .i64 s4))))], []⟩
def spec_l5Depth_L1_S (a0 : (List Thing)) (s : Int × Int) : St := spec_l5Depth_L1_s a0 s.1 s.2
def spec_l5Depth_L1_a (s5 : Int) : Option Int :=
  some s5
def spec_l5Depth_L1_k (x : (Int) ⊕ (Int)) : Option Int := match x with
  | .inl t => spec_l5Depth_L1_a t
  | .inr y => some y
def spec_l5Depth (a0 : (List Thing)) (a1 : Int) : Option Int :=
  (spec_FindThing a0 a1).bind fun v1 =>
  (loopM (spec_l5Depth_L1 a0) big (0, v1)).bind (spec_l5Depth_L1_k)
theorem spec_l5Depth_ok (a0 : (List Thing)) (a1 : Int) (r : Int) (hM : spec_l5Depth a0 a1 = some r) :
    Con Tryd.prog 42 [.c (.rs 6 (a0.map Thing.enc)), .c (.v (.int .i64 a1))] [] (.o (.c (.v (.int .i64 r)))) [] [] := by
  unfold spec_l5Depth at hM
  refine cn (N := 34) (pids := []) Tryd_mixed Tryd.func42 (by kernel_rfl) (by kernel_rfl) (by kernel_rfl) rfl fun ρ g w R => ?_
  obtain ⟨v1, h2, hM⟩ := bind_some hM
  have K1 : ∀ (s5 : Int), spec_l5Depth_L1_a s5 = some r → Gr R [.code (cAt Tryd.f42 [1, 1, 1, 1])] (⟨[(5, .o (.c (.v (.int .i64 s5))))], []⟩) := by
    intro s5 hM
    unfold spec_l5Depth_L1_a at hM
    have hE : some s5 = some r := hM
    have hE := Option.some.inj hE
    subst hE
    exact pr R 9999 [] [] [] [] True.intro (by kernel_rfl)
  refine pc R 9999 [.call false [] (.o (.c (.v (.int .i64 v1)))) [] []] [.keep [0, 5, 6] []] (k' := [.code (.loop (cAt Tryd.f42 [1, 1, 1, 0, 0, 0])), .blk 0, .code (cAt Tryd.f42 [1, 1, 1, 1])]) (S' := spec_l5Depth_L1_S a0 (0, v1)) (And.intro (spec_FindThing_ok a0 a1 v1 h2) True.intro) (by kernel_rfl) ?_
  refine lq (spec_l5Depth_L1_S a0) (body := spec_l5Depth_L1 a0) (k := spec_l5Depth_L1_k) hM fun m1 s c1 hM hK1 => ?_
  obtain ⟨s3, s4⟩ := s
  have hM : spec_l5Depth_L1_b a0 s3 s4 = some c1 := hM
  unfold spec_l5Depth_L1_b at hM
  rcases cond_cases hM with ⟨h6, hM⟩ | ⟨h6, hM⟩
  · obtain ⟨v7, h8, hM⟩ := bind_some hM
    rcases cond_cases hM with ⟨h9, hM⟩ | ⟨h9, hM⟩
    · rcases cond_cases hM with ⟨h10, hM⟩ | ⟨h10, hM⟩
      · obtain ⟨v11, h12, hM⟩ := bind_some hM
        obtain ⟨v13, h14, hM⟩ := bind_some hM
        have hE : some (Ctl.next (w64 (s3 + 1), v13)) = some c1 := hM
        have hE := Option.some.inj hE
        subst hE
        exact pc R 9999 [.as 12 true, .ix (Thing.enc v7), .as 20 true, .as 23 true, .ix (Thing.enc v11), .call false [] (.o (.c (.v (.int .i64 v13)))) [] []] [.keep [0, 5, 6] []] (And.intro h6 (And.intro (gi_map Thing.enc h8) (And.intro h9 (And.intro h10 (And.intro (gi_map Thing.enc h12) (And.intro (spec_FindThing_ok a0 v11.In v13 h14) True.intro)))))) (by kernel_rfl) (li (Sf := spec_l5Depth_L1_S a0) (M := Mk (spec_l5Depth_L1 a0) (spec_l5Depth_L1_k) r) (k := [.blk 0, .code (cAt Tryd.f42 [1, 1, 1, 1])]) (Nat.lt_succ_self m1) hK1)
      · have hE : some (Ctl.brk s3) = some c1 := hM
        have hE := Option.some.inj hE
        subst hE
        exact pc R 5 [.as 12 true, .ix (Thing.enc v7), .as 20 true, .as 23 false] [.keep [5] []] (And.intro h6 (And.intro (gi_map Thing.enc h8) (And.intro h9 (And.intro h10 True.intro)))) (by kernel_rfl) (K1 s3 hK1)
    · have hE : some (Ctl.brk s3) = some c1 := hM
      have hE := Option.some.inj hE
      subst hE
      exact pc R 5 [.as 12 true, .ix (Thing.enc v7), .as 20 false] [.keep [5] []] (And.intro h6 (And.intro (gi_map Thing.enc h8) (And.intro h9 True.intro))) (by kernel_rfl) (K1 s3 hK1)
  · have hE : some (Ctl.brk s3) = some c1 := hM
    have hE := Option.some.inj hE
    subst hE
    exact pc R 5 [.as 12 false] [.keep [5] []] (And.intro h6 True.intro) (by kernel_rfl) (K1 s3 hK1)

-- loop.example/g03014/spec.l5Gross
def spec_l5Gross_L1_b (self : (List Thing) → Int → Int → Option Int) (a0 : (List Thing)) (a1 : Int) (a2 : Int) (s7 : Int) (s8 : Int) : Option (Ctl (Int × Int) Int Int) :=
  bif (decide (s8 < (a0.length : Int))) then
  (gi a0 s8).bind fun v11 =>
  bif (v11.In == a1) then
  (gi a0 s8).bind fun v14 =>
  (self a0 v14.Id (w64 (a2 - 1))).bind fun v16 =>
  some (.next (w64 (s7 + v16), w64 (s8 + 1)))
  else
  some (.next (s7, w64 (s8 + 1)))
  else
  some (.brk s7)
def spec_l5Gross_L1 (self : (List Thing) → Int → Int → Option Int) (a0 : (List Thing)) (a1 : Int) (a2 : Int) (s : Int × Int) : Option (Ctl (Int × Int) Int Int) := spec_l5Gross_L1_b self a0 a1 a2 s.1 s.2
def spec_l5Gross_L1_s (a0 : (List Thing)) (a1 : Int) (a2 : Int) (s7 : Int) (s8 : Int) : St := ⟨[(0, .o (.c (.rs 6 (a0.map Thing.enc)))), (1, .o (.c (.v (.int .i64 a1)))), (2, .o (.c (.v (.int .i64 a2)))), (8, .o (.c (.v (.int .i64 s7)))), (9, .o (.c (.v (.int .i64 s8))))], []⟩
def spec_l5Gross_L1_S (a0 : (List Thing)) (a1 : Int) (a2 : Int) (s : Int × Int) : St := spec_l5Gross_L1_s a0 a1 a2 s.1 s.2
def spec_l5Gross_L1_a (s9 : Int) : Option Int :=
  some s9
def spec_l5Gross_L1_k (x : (Int) ⊕ (Int)) : Option Int := match x with
  | .inl t => spec_l5Gross_L1_a t
  | .inr y => some y
def spec_l5Gross_F (self : (List Thing) → Int → Int → Option Int) (a0 : (List Thing)) (a1 : Int) (a2 : Int) : Option Int :=
  (spec_FindThing a0 a1).bind fun v1 =>
  bif (decide (v1 < 0)) then
  some 0
  else
  bif (decide (a2 < 0)) then
  some 0
  else
  (gi a0 v1).bind fun v5 =>
  (loopM (spec_l5Gross_L1 self a0 a1 a2) big (v5.Own, 0)).bind (spec_l5Gross_L1_k)
def spec_l5Gross_n : Nat → (List Thing) → Int → Int → Option Int
  | 0, _, _, _ => none
  | n + 1, a0, a1, a2 => spec_l5Gross_F (spec_l5Gross_n n) a0 a1 a2
def spec_l5Gross (a0 : (List Thing)) (a1 : Int) (a2 : Int) : Option Int := spec_l5Gross_n big a0 a1 a2
theorem spec_l5Gross_step (self : (List Thing) → Int → Int → Option Int) (ih : ∀ (a0 : (List Thing)) (a1 : Int) (a2 : Int) (r : Int), self a0 a1 a2 = some r →
    Con Tryd.prog 54 [.c (.rs 6 (a0.map Thing.enc)), .c (.v (.int .i64 a1)), .c (.v (.int .i64 a2))] [] (.o (.c (.v (.int .i64 r)))) [] [])
     (a0 : (List Thing)) (a1 : Int) (a2 : Int) (r : Int) (hM : spec_l5Gross_F self a0 a1 a2 = some r) :
    Con Tryd.prog 54 [.c (.rs 6 (a0.map Thing.enc)), .c (.v (.int .i64 a1)), .c (.v (.int .i64 a2))] [] (.o (.c (.v (.int .i64 r)))) [] [] := by
  unfold spec_l5Gross_F at hM
  refine cn (N := 49) (pids := []) Tryd_mixed Tryd.func54 (by kernel_rfl) (by kernel_rfl) (by kernel_rfl) rfl fun ρ g w R => ?_
  obtain ⟨v1, h2, hM⟩ := bind_some hM
  rcases cond_cases hM with ⟨h3, hM⟩ | ⟨h3, hM⟩
  · have hE : some 0 = some r := hM
    have hE := Option.some.inj hE
    subst hE
    exact pr R 9999 [.call false [] (.o (.c (.v (.int .i64 v1)))) [] [], .as 15 true] [] [] [] (And.intro (spec_FindThing_ok a0 a1 v1 h2) (And.intro h3 True.intro)) (by kernel_rfl)
  · rcases cond_cases hM with ⟨h4, hM⟩ | ⟨h4, hM⟩
    · have hE : some 0 = some r := hM
      have hE := Option.some.inj hE
      subst hE
      exact pr R 9999 [.call false [] (.o (.c (.v (.int .i64 v1)))) [] [], .as 15 false, .as 18 true] [] [] [] (And.intro (spec_FindThing_ok a0 a1 v1 h2) (And.intro h3 (And.intro h4 True.intro))) (by kernel_rfl)
    · obtain ⟨v5, h6, hM⟩ := bind_some hM
      have K1 : ∀ (s9 : Int), spec_l5Gross_L1_a s9 = some r → Gr R [.code (cAt Tryd.f54 [1, 1, 1, 1, 1])] (⟨[(8, .o (.c (.v (.int .i64 s9))))], []⟩) := by
        intro s9 hM
        unfold spec_l5Gross_L1_a at hM
        have hE : some s9 = some r := hM
        have hE := Option.some.inj hE
        subst hE
        exact pr R 9999 [] [] [] [] True.intro (by kernel_rfl)
      refine pc R 9999 [.call false [] (.o (.c (.v (.int .i64 v1)))) [] [], .as 15 false, .as 18 false, .ix (Thing.enc v5)] [.keep [0, 1, 2, 8, 9] []] (k' := [.code (.loop (cAt Tryd.f54 [1, 1, 1, 1, 0, 1, 0, 0])), .blk 0, .code (cAt Tryd.f54 [1, 1, 1, 1, 1])]) (S' := spec_l5Gross_L1_S a0 a1 a2 (v5.Own, 0)) (And.intro (spec_FindThing_ok a0 a1 v1 h2) (And.intro h3 (And.intro h4 (And.intro (gi_map Thing.enc h6) True.intro)))) (by kernel_rfl) ?_
      refine lq (spec_l5Gross_L1_S a0 a1 a2) (body := spec_l5Gross_L1 self a0 a1 a2) (k := spec_l5Gross_L1_k) hM fun m1 s c1 hM hK1 => ?_
      obtain ⟨s7, s8⟩ := s
      have hM : spec_l5Gross_L1_b self a0 a1 a2 s7 s8 = some c1 := hM
      unfold spec_l5Gross_L1_b at hM
      rcases cond_cases hM with ⟨h10, hM⟩ | ⟨h10, hM⟩
      · obtain ⟨v11, h12, hM⟩ := bind_some hM
        rcases cond_cases hM with ⟨h13, hM⟩ | ⟨h13, hM⟩
        · obtain ⟨v14, h15, hM⟩ := bind_some hM
          obtain ⟨v16, h17, hM⟩ := bind_some hM
          have hE : some (Ctl.next (w64 (s7 + v16), w64 (s8 + 1))) = some c1 := hM
          have hE := Option.some.inj hE
          subst hE
          exact pc R 9999 [.ln (a0.length), .as 27 true, .ix (Thing.enc v11), .as 36 true, .ix (Thing.enc v14), .call false [] (.o (.c (.v (.int .i64 v16)))) [] []] [.keep [0, 1, 2, 8, 9] []] (And.intro (lenm Thing.enc a0) (And.intro h10 (And.intro (gi_map Thing.enc h12) (And.intro h13 (And.intro (gi_map Thing.enc h15) (And.intro (ih a0 v14.Id (w64 (a2 - 1)) v16 h17) True.intro)))))) (by kernel_rfl) (li (Sf := spec_l5Gross_L1_S a0 a1 a2) (M := Mk (spec_l5Gross_L1 self a0 a1 a2) (spec_l5Gross_L1_k) r) (k := [.blk 0, .code (cAt Tryd.f54 [1, 1, 1, 1, 1])]) (Nat.lt_succ_self m1) hK1)
        · have hE : some (Ctl.next (s7, w64 (s8 + 1))) = some c1 := hM
          have hE := Option.some.inj hE
          subst hE
          exact pc R 9999 [.ln (a0.length), .as 27 true, .ix (Thing.enc v11), .as 36 false] [.keep [0, 1, 2, 8, 9] []] (And.intro (lenm Thing.enc a0) (And.intro h10 (And.intro (gi_map Thing.enc h12) (And.intro h13 True.intro)))) (by kernel_rfl) (li (Sf := spec_l5Gross_L1_S a0 a1 a2) (M := Mk (spec_l5Gross_L1 self a0 a1 a2) (spec_l5Gross_L1_k) r) (k := [.blk 0, .code (cAt Tryd.f54 [1, 1, 1, 1, 1])]) (Nat.lt_succ_self m1) hK1)
      · have hE : some (Ctl.brk s7) = some c1 := hM
        have hE := Option.some.inj hE
        subst hE
        exact pc R 5 [.ln (a0.length), .as 27 false] [.keep [8] []] (And.intro (lenm Thing.enc a0) (And.intro h10 True.intro)) (by kernel_rfl) (K1 s7 hK1)
theorem spec_l5Gross_nok : ∀ (n : Nat) (a0 : (List Thing)) (a1 : Int) (a2 : Int) (r : Int), spec_l5Gross_n n a0 a1 a2 = some r →
    Con Tryd.prog 54 [.c (.rs 6 (a0.map Thing.enc)), .c (.v (.int .i64 a1)), .c (.v (.int .i64 a2))] [] (.o (.c (.v (.int .i64 r)))) [] []
  | 0, _, _, _, _, h => by cases h
  | n + 1, a0, a1, a2, r, h => spec_l5Gross_step (spec_l5Gross_n n) (spec_l5Gross_nok n) a0 a1 a2 r h
theorem spec_l5Gross_ok (a0 : (List Thing)) (a1 : Int) (a2 : Int) (r : Int) (h : spec_l5Gross a0 a1 a2 = some r) :
    Con Tryd.prog 54 [.c (.rs 6 (a0.map Thing.enc)), .c (.v (.int .i64 a1)), .c (.v (.int .i64 a2))] [] (.o (.c (.v (.int .i64 r)))) [] [] := spec_l5Gross_nok big a0 a1 a2 r h

-- loop.example/g03014/spec.l5Load
def spec_l5Load (a0 : (List Thing)) (a1 : Int) : Option Int :=
  (spec_FindThing a0 a1).bind fun v1 =>
  (spec_l5Gross a0 a1 5).bind fun v3 =>
  (gi a0 v1).bind fun v5 =>
  some (w64 (v3 - v5.Own))
theorem spec_l5Load_ok (a0 : (List Thing)) (a1 : Int) (r : Int) (hM : spec_l5Load a0 a1 = some r) :
    Con Tryd.prog 43 [.c (.rs 6 (a0.map Thing.enc)), .c (.v (.int .i64 a1))] [] (.o (.c (.v (.int .i64 r)))) [] [] := by
  unfold spec_l5Load at hM
  refine cn (N := 18) (pids := []) Tryd_mixed Tryd.func43 (by kernel_rfl) (by kernel_rfl) (by kernel_rfl) rfl fun ρ g w R => ?_
  obtain ⟨v1, h2, hM⟩ := bind_some hM
  obtain ⟨v3, h4, hM⟩ := bind_some hM
  obtain ⟨v5, h6, hM⟩ := bind_some hM
  have hE : some (w64 (v3 - v5.Own)) = some r := hM
  have hE := Option.some.inj hE
  subst hE
  exact pr R 9999 [.call false [] (.o (.c (.v (.int .i64 v1)))) [] [], .call false [] (.o (.c (.v (.int .i64 v3)))) [] [], .ix (Thing.enc v5)] [] [] [] (And.intro (spec_FindThing_ok a0 a1 v1 h2) (And.intro (spec_l5Gross_ok a0 a1 5 v3 h4) (And.intro (gi_map Thing.enc h6) True.intro))) (by kernel_rfl)

-- loop.example/g03014/spec.AreThings
def spec_AreThings_L2_b (a0 : (List Thing)) (s3 : Int) : Option (Ctl Int Unit Bool) :=
  bif (decide (s3 < (a0.length : Int))) then
  (gi a0 s3).bind fun v5 =>
  bif v5.Box then
  (gi a0 s3).bind fun v8 =>
  (spec_l5Load a0 v8.Id).bind fun v10 =>
  (gi a0 s3).bind fun v12 =>
  bif (decide (v10 > v12.Room)) then
  some (.ret false)
  else
  some (.next (w64 (s3 + 1)))
  else
  some (.next (w64 (s3 + 1)))
  else
  some (.brk ())
def spec_AreThings_L2 (a0 : (List Thing)) (s : Int) : Option (Ctl Int Unit Bool) := spec_AreThings_L2_b a0 s
def spec_AreThings_L2_s (a0 : (List Thing)) (s3 : Int) : St := ⟨[(0, .o (.c (.rs 6 (a0.map Thing.enc)))), (4, .o (.c (.v (.int .i64 s3))))], []⟩
def spec_AreThings_L2_S (a0 : (List Thing)) (s : Int) : St := spec_AreThings_L2_s a0 s
def spec_AreThings_L2_a : Option Bool :=
  some true
def spec_AreThings_L2_k (x : (Unit) ⊕ (Bool)) : Option Bool := match x with
  | .inl t => spec_AreThings_L2_a
  | .inr y => some y
def spec_AreThings_L1_b (a0 : (List Thing)) (s2 : Int) : Option (Ctl Int Unit Bool) :=
  bif (decide (s2 < (a0.length : Int))) then
  (spec_l5One a0 s2).bind fun v16 =>
  bif (!v16) then
  some (.ret false)
  else
  (gi a0 s2).bind fun v19 =>
  (spec_l5Depth a0 v19.Id).bind fun v21 =>
  bif (decide (v21 > 4)) then
  some (.ret false)
  else
  some (.next (w64 (s2 + 1)))
  else
  some (.brk ())
def spec_AreThings_L1 (a0 : (List Thing)) (s : Int) : Option (Ctl Int Unit Bool) := spec_AreThings_L1_b a0 s
def spec_AreThings_L1_s (a0 : (List Thing)) (s2 : Int) : St := ⟨[(0, .o (.c (.rs 6 (a0.map Thing.enc)))), (3, .o (.c (.v (.int .i64 s2))))], []⟩
def spec_AreThings_L1_S (a0 : (List Thing)) (s : Int) : St := spec_AreThings_L1_s a0 s
def spec_AreThings_L1_a (a0 : (List Thing)) : Option Bool :=
  (loopM (spec_AreThings_L2 a0) big 0).bind (spec_AreThings_L2_k)
def spec_AreThings_L1_k (a0 : (List Thing)) (x : (Unit) ⊕ (Bool)) : Option Bool := match x with
  | .inl t => spec_AreThings_L1_a a0
  | .inr y => some y
def spec_AreThings (a0 : (List Thing)) : Option Bool :=
  bif (decide ((a0.length : Int) > 40)) then
  some false
  else
  (loopM (spec_AreThings_L1 a0) big 0).bind (spec_AreThings_L1_k a0)
theorem spec_AreThings_ok (a0 : (List Thing)) (r : Bool) (hM : spec_AreThings a0 = some r) :
    Con Tryd.prog 25 [.c (.rs 6 (a0.map Thing.enc))] [] (.o (.c (.v (.bool r)))) [] [] := by
  unfold spec_AreThings at hM
  refine cn (N := 54) (pids := []) Tryd_mixed Tryd.func25 (by kernel_rfl) (by kernel_rfl) (by kernel_rfl) rfl fun ρ g w R => ?_
  rcases cond_cases hM with ⟨h1, hM⟩ | ⟨h1, hM⟩
  · have hE : some false = some r := hM
    have hE := Option.some.inj hE
    subst hE
    exact pr R 9999 [.ln (a0.length), .as 7 true] [] [] [] (And.intro (lenm Thing.enc a0) (And.intro h1 True.intro)) (by kernel_rfl)
  · have K1 : ∀ (_ : Unit), spec_AreThings_L1_a a0 = some r → Gr R [.code (cAt Tryd.f25 [1, 1, 1])] (⟨[(0, .o (.c (.rs 6 (a0.map Thing.enc))))], []⟩) := by
      intro _ hM
      unfold spec_AreThings_L1_a at hM
      have K2 : ∀ (_ : Unit), spec_AreThings_L2_a = some r → Gr R [.code (cAt Tryd.f25 [1, 1, 1, 1])] (⟨[], []⟩) := by
        intro _ hM
        unfold spec_AreThings_L2_a at hM
        have hE : some true = some r := hM
        have hE := Option.some.inj hE
        subst hE
        exact pr R 9999 [] [] [] [] True.intro (by kernel_rfl)
      refine pc R 9999 [] [.keep [0, 4] []] (k' := [.code (.loop (cAt Tryd.f25 [1, 1, 1, 0, 1, 0, 0])), .blk 2, .code (cAt Tryd.f25 [1, 1, 1, 1])]) (S' := spec_AreThings_L2_S a0 0) True.intro (by kernel_rfl) ?_
      refine lq (spec_AreThings_L2_S a0) (body := spec_AreThings_L2 a0) (k := spec_AreThings_L2_k) hM fun m2 s c2 hM hK2 => ?_
      obtain ⟨s3, hs⟩ : ∃ z, z = s := ⟨_, rfl⟩
      subst hs
      have hM : spec_AreThings_L2_b a0 s3 = some c2 := hM
      unfold spec_AreThings_L2_b at hM
      rcases cond_cases hM with ⟨h4, hM⟩ | ⟨h4, hM⟩
      · obtain ⟨v5, h6, hM⟩ := bind_some hM
        rcases cond_cases hM with ⟨h7, hM⟩ | ⟨h7, hM⟩
        · obtain ⟨v8, h9, hM⟩ := bind_some hM
          obtain ⟨v10, h11, hM⟩ := bind_some hM
          obtain ⟨v12, h13, hM⟩ := bind_some hM
          rcases cond_cases hM with ⟨h14, hM⟩ | ⟨h14, hM⟩
          · have hE : some (Ctl.ret false) = some c2 := hM
            have hE := Option.some.inj hE
            subst hE
            have hE : some false = some r := hK2
            have hE := Option.some.inj hE
            subst hE
            exact pr R 9999 [.ln (a0.length), .as 31 true, .ix (Thing.enc v5), .as 39 true, .ix (Thing.enc v8), .call false [] (.o (.c (.v (.int .i64 v10)))) [] [], .ix (Thing.enc v12), .as 53 true] [] [] [] (And.intro (lenm Thing.enc a0) (And.intro h4 (And.intro (gi_map Thing.enc h6) (And.intro h7 (And.intro (gi_map Thing.enc h9) (And.intro (spec_l5Load_ok a0 v8.Id v10 h11) (And.intro (gi_map Thing.enc h13) (And.intro h14 True.intro)))))))) (by kernel_rfl)
          · have hE : some (Ctl.next (w64 (s3 + 1))) = some c2 := hM
            have hE := Option.some.inj hE
            subst hE
            exact pc R 9999 [.ln (a0.length), .as 31 true, .ix (Thing.enc v5), .as 39 true, .ix (Thing.enc v8), .call false [] (.o (.c (.v (.int .i64 v10)))) [] [], .ix (Thing.enc v12), .as 53 false] [.keep [0, 4] []] (And.intro (lenm Thing.enc a0) (And.intro h4 (And.intro (gi_map Thing.enc h6) (And.intro h7 (And.intro (gi_map Thing.enc h9) (And.intro (spec_l5Load_ok a0 v8.Id v10 h11) (And.intro (gi_map Thing.enc h13) (And.intro h14 True.intro)))))))) (by kernel_rfl) (li (Sf := spec_AreThings_L2_S a0) (M := Mk (spec_AreThings_L2 a0) (spec_AreThings_L2_k) r) (k := [.blk 2, .code (cAt Tryd.f25 [1, 1, 1, 1])]) (Nat.lt_succ_self m2) hK2)
        · have hE : some (Ctl.next (w64 (s3 + 1))) = some c2 := hM
          have hE := Option.some.inj hE
          subst hE
          exact pc R 9999 [.ln (a0.length), .as 31 true, .ix (Thing.enc v5), .as 39 false] [.keep [0, 4] []] (And.intro (lenm Thing.enc a0) (And.intro h4 (And.intro (gi_map Thing.enc h6) (And.intro h7 True.intro)))) (by kernel_rfl) (li (Sf := spec_AreThings_L2_S a0) (M := Mk (spec_AreThings_L2 a0) (spec_AreThings_L2_k) r) (k := [.blk 2, .code (cAt Tryd.f25 [1, 1, 1, 1])]) (Nat.lt_succ_self m2) hK2)
      · have hE : some (Ctl.brk ()) = some c2 := hM
        have hE := Option.some.inj hE
        subst hE
        exact pc R 5 [.ln (a0.length), .as 31 false] [.keep [] []] (And.intro (lenm Thing.enc a0) (And.intro h4 True.intro)) (by kernel_rfl) (K2 () hK2)
    refine pc R 9999 [.ln (a0.length), .as 7 false] [.keep [0, 3] []] (k' := [.code (.loop (cAt Tryd.f25 [1, 1, 0, 1, 0, 0])), .blk 0, .code (cAt Tryd.f25 [1, 1, 1])]) (S' := spec_AreThings_L1_S a0 0) (And.intro (lenm Thing.enc a0) (And.intro h1 True.intro)) (by kernel_rfl) ?_
    refine lq (spec_AreThings_L1_S a0) (body := spec_AreThings_L1 a0) (k := spec_AreThings_L1_k a0) hM fun m1 s c1 hM hK1 => ?_
    obtain ⟨s2, hs⟩ : ∃ z, z = s := ⟨_, rfl⟩
    subst hs
    have hM : spec_AreThings_L1_b a0 s2 = some c1 := hM
    unfold spec_AreThings_L1_b at hM
    rcases cond_cases hM with ⟨h15, hM⟩ | ⟨h15, hM⟩
    · obtain ⟨v16, h17, hM⟩ := bind_some hM
      rcases cond_cases hM with ⟨h18, hM⟩ | ⟨h18, hM⟩
      · have hE : some (Ctl.ret false) = some c1 := hM
        have hE := Option.some.inj hE
        subst hE
        have hE : some false = some r := hK1
        have hE := Option.some.inj hE
        subst hE
        exact pr R 9999 [.ln (a0.length), .as 11 true, .call false [] (.o (.c (.v (.bool v16)))) [] [], .as 18 true] [] [] [] (And.intro (lenm Thing.enc a0) (And.intro h15 (And.intro (spec_l5One_ok a0 s2 v16 h17) (And.intro h18 True.intro)))) (by kernel_rfl)
      · obtain ⟨v19, h20, hM⟩ := bind_some hM
        obtain ⟨v21, h22, hM⟩ := bind_some hM
        rcases cond_cases hM with ⟨h23, hM⟩ | ⟨h23, hM⟩
        · have hE : some (Ctl.ret false) = some c1 := hM
          have hE := Option.some.inj hE
          subst hE
          have hE : some false = some r := hK1
          have hE := Option.some.inj hE
          subst hE
          exact pr R 9999 [.ln (a0.length), .as 11 true, .call false [] (.o (.c (.v (.bool v16)))) [] [], .as 18 false, .ix (Thing.enc v19), .call false [] (.o (.c (.v (.int .i64 v21)))) [] [], .as 27 true] [] [] [] (And.intro (lenm Thing.enc a0) (And.intro h15 (And.intro (spec_l5One_ok a0 s2 v16 h17) (And.intro h18 (And.intro (gi_map Thing.enc h20) (And.intro (spec_l5Depth_ok a0 v19.Id v21 h22) (And.intro h23 True.intro))))))) (by kernel_rfl)
        · have hE : some (Ctl.next (w64 (s2 + 1))) = some c1 := hM
          have hE := Option.some.inj hE
          subst hE
          exact pc R 9999 [.ln (a0.length), .as 11 true, .call false [] (.o (.c (.v (.bool v16)))) [] [], .as 18 false, .ix (Thing.enc v19), .call false [] (.o (.c (.v (.int .i64 v21)))) [] [], .as 27 false] [.keep [0, 3] []] (And.intro (lenm Thing.enc a0) (And.intro h15 (And.intro (spec_l5One_ok a0 s2 v16 h17) (And.intro h18 (And.intro (gi_map Thing.enc h20) (And.intro (spec_l5Depth_ok a0 v19.Id v21 h22) (And.intro h23 True.intro))))))) (by kernel_rfl) (li (Sf := spec_AreThings_L1_S a0) (M := Mk (spec_AreThings_L1 a0) (spec_AreThings_L1_k a0) r) (k := [.blk 0, .code (cAt Tryd.f25 [1, 1, 1])]) (Nat.lt_succ_self m1) hK1)
    · have hE : some (Ctl.brk ()) = some c1 := hM
      have hE := Option.some.inj hE
      subst hE
      exact pc R 5 [.ln (a0.length), .as 11 false] [.keep [0] []] (And.intro (lenm Thing.enc a0) (And.intro h15 True.intro)) (by kernel_rfl) (K1 () hK1)

-- loop.example/g03014/spec.FormatInt
def spec_FormatInt_L1_b (s2 : ByteArray) (s3 : Int) : Option (Ctl (ByteArray × Int) ByteArray ByteArray) :=
  bif (s3 != 0) then
  bif (decide ((Int.tmod s3 10) < 0)) then
  (catM (strOfNums ([IntKind.u8.wrap (w64 (48 + (w64 (0 - (Int.tmod s3 10)))))] : List Int)) s2).bind fun v10 =>
  some (.next (v10, w64 (Int.tdiv s3 10)))
  else
  (catM (strOfNums ([IntKind.u8.wrap (w64 (48 + (Int.tmod s3 10)))] : List Int)) s2).bind fun v12 =>
  some (.next (v12, w64 (Int.tdiv s3 10)))
  else
  some (.brk s2)
def spec_FormatInt_L1 (s : ByteArray × Int) : Option (Ctl (ByteArray × Int) ByteArray ByteArray) := spec_FormatInt_L1_b s.1 s.2
def spec_FormatInt_L1_s (a0 : Int) (s2 : ByteArray) (s3 : Int) : St := ⟨[(0, .o (.c (.v (.int .i64 a0)))), (3, .o (.c (.v (.string s2)))), (4, .o (.c (.v (.int .i64 s3))))], []⟩
def spec_FormatInt_L1_S (a0 : Int) (s : ByteArray × Int) : St := spec_FormatInt_L1_s a0 s.1 s.2
def spec_FormatInt_L1_a (a0 : Int) (s4 : ByteArray) : Option ByteArray :=
  bif (decide (a0 < 0)) then
  (catM (ByteArray.mk #[45]) s4).bind fun v6 =>
  some v6
  else
  some s4
def spec_FormatInt_L1_k (a0 : Int) (x : (ByteArray) ⊕ (ByteArray)) : Option ByteArray := match x with
  | .inl t => spec_FormatInt_L1_a a0 t
  | .inr y => some y
def spec_FormatInt (a0 : Int) : Option ByteArray :=
  bif (a0 == 0) then
  some (ByteArray.mk #[48])
  else
  (loopM (spec_FormatInt_L1) big ((ByteArray.mk #[]), a0)).bind (spec_FormatInt_L1_k a0)
theorem spec_FormatInt_ok (a0 : Int) (r : ByteArray) (hM : spec_FormatInt a0 = some r) :
    Con Tryd.prog 44 [.c (.v (.int .i64 a0))] [] (.o (.c (.v (.string r)))) [] [] := by
  unfold spec_FormatInt at hM
  refine cn (N := 31) (pids := []) Tryd_mixed Tryd.func44 (by kernel_rfl) (by kernel_rfl) (by kernel_rfl) rfl fun ρ g w R => ?_
  rcases cond_cases hM with ⟨h1, hM⟩ | ⟨h1, hM⟩
  · have hE : some (ByteArray.mk #[48]) = some r := hM
    have hE := Option.some.inj hE
    subst hE
    exact pr R 9999 [.as 7 true] [] [] [] (And.intro h1 True.intro) (by kernel_rfl)
  · have K1 : ∀ (s4 : ByteArray), spec_FormatInt_L1_a a0 s4 = some r → Gr R [.code (cAt Tryd.f44 [1, 1, 1, 1])] (⟨[(0, .o (.c (.v (.int .i64 a0)))), (3, .o (.c (.v (.string s4))))], []⟩) := by
      intro s4 hM
      unfold spec_FormatInt_L1_a at hM
      rcases cond_cases hM with ⟨h5, hM⟩ | ⟨h5, hM⟩
      · obtain ⟨v6, h7, hM⟩ := bind_some hM
        have hE : some v6 = some r := hM
        have hE := Option.some.inj hE
        subst hE
        exact pr R 9999 [.as 27 true, .run 29 (.string v6)] [] [] [] (And.intro h5 (And.intro (catM_run (P := Tryd.prog) (t := 9) (x := .tmp 0) (y := .tmp 0) h7) True.intro)) (by kernel_rfl)
      · have hE : some s4 = some r := hM
        have hE := Option.some.inj hE
        subst hE
        exact pr R 9999 [.as 27 false] [] [] [] (And.intro h5 True.intro) (by kernel_rfl)
    refine pc R 9999 [.as 7 false] [.keep [0, 3, 4] []] (k' := [.code (.loop (cAt Tryd.f44 [1, 1, 1, 0, 1, 0, 0])), .blk 0, .code (cAt Tryd.f44 [1, 1, 1, 1])]) (S' := spec_FormatInt_L1_S a0 ((ByteArray.mk #[]), a0)) (And.intro h1 True.intro) (by kernel_rfl) ?_
    refine lq (spec_FormatInt_L1_S a0) (body := spec_FormatInt_L1) (k := spec_FormatInt_L1_k a0) hM fun m1 s c1 hM hK1 => ?_
    obtain ⟨s2, s3⟩ := s
    have hM : spec_FormatInt_L1_b s2 s3 = some c1 := hM
    unfold spec_FormatInt_L1_b at hM
    rcases cond_cases hM with ⟨h8, hM⟩ | ⟨h8, hM⟩
    · rcases cond_cases hM with ⟨h9, hM⟩ | ⟨h9, hM⟩
      · obtain ⟨v10, h11, hM⟩ := bind_some hM
        have hE : some (Ctl.next (v10, w64 (Int.tdiv s3 10))) = some c1 := hM
        have hE := Option.some.inj hE
        subst hE
        exact pc R 9999 [.as 10 true, .as 16 true, .new 0, .ix [.string (strOfNums ([IntKind.u8.wrap (w64 (48 + (w64 (0 - (Int.tmod s3 10)))))] : List Int))], .run 25 (.string v10)] [.keep [0, 3, 4] []] (And.intro h8 (And.intro h9 (And.intro (conv_ok ([IntKind.u8.wrap (w64 (48 + (w64 (0 - (Int.tmod s3 10)))))] : List Int)) (And.intro (catM_run (P := Tryd.prog) (t := 9) (x := .tmp 0) (y := .tmp 0) h11) True.intro)))) (by kernel_rfl) (li (Sf := spec_FormatInt_L1_S a0) (M := Mk (spec_FormatInt_L1) (spec_FormatInt_L1_k a0) r) (k := [.blk 0, .code (cAt Tryd.f44 [1, 1, 1, 1])]) (Nat.lt_succ_self m1) hK1)
      · obtain ⟨v12, h13, hM⟩ := bind_some hM
        have hE : some (Ctl.next (v12, w64 (Int.tdiv s3 10))) = some c1 := hM
        have hE := Option.some.inj hE
        subst hE
        exact pc R 9999 [.as 10 true, .as 16 false, .new 1, .ix [.string (strOfNums ([IntKind.u8.wrap (w64 (48 + (Int.tmod s3 10)))] : List Int))], .run 25 (.string v12)] [.keep [0, 3, 4] []] (And.intro h8 (And.intro h9 (And.intro (conv_ok ([IntKind.u8.wrap (w64 (48 + (Int.tmod s3 10)))] : List Int)) (And.intro (catM_run (P := Tryd.prog) (t := 9) (x := .tmp 0) (y := .tmp 0) h13) True.intro)))) (by kernel_rfl) (li (Sf := spec_FormatInt_L1_S a0) (M := Mk (spec_FormatInt_L1) (spec_FormatInt_L1_k a0) r) (k := [.blk 0, .code (cAt Tryd.f44 [1, 1, 1, 1])]) (Nat.lt_succ_self m1) hK1)
    · have hE : some (Ctl.brk s2) = some c1 := hM
      have hE := Option.some.inj hE
      subst hE
      exact pc R 5 [.as 10 false] [.keep [0, 3] []] (And.intro h8 True.intro) (by kernel_rfl) (K1 s2 hK1)

-- loop.example/g03014/spec.l5Text
def spec_l5Text_j1 (self : (List Thing) → Int → Option ByteArray) (a0 : (List Thing)) (s12 : Int) (s20 : ByteArray) : Option (Ctl (ByteArray × Bool × Int) ByteArray ByteArray) :=
  (gi a0 s12).bind fun v21 =>
  (self a0 v21.Id).bind fun v23 =>
  (catM s20 v23).bind fun v25 =>
  some (.next (v25, false, w64 (s12 + 1)))
def spec_l5Text_L1_b (self : (List Thing) → Int → Option ByteArray) (a0 : (List Thing)) (a1 : Int) (s10 : ByteArray) (s11 : Bool) (s12 : Int) : Option (Ctl (ByteArray × Bool × Int) ByteArray ByteArray) :=
  bif (decide (s12 < (a0.length : Int))) then
  (gi a0 s12).bind fun v17 =>
  bif (v17.In == a1) then
  bif (!s11) then
  (catM s10 (ByteArray.mk #[32])).bind fun v28 =>
  spec_l5Text_j1 self a0 s12 v28
  else
  spec_l5Text_j1 self a0 s12 s10
  else
  some (.next (s10, s11, w64 (s12 + 1)))
  else
  some (.brk s10)
def spec_l5Text_L1 (self : (List Thing) → Int → Option ByteArray) (a0 : (List Thing)) (a1 : Int) (s : ByteArray × Bool × Int) : Option (Ctl (ByteArray × Bool × Int) ByteArray ByteArray) := spec_l5Text_L1_b self a0 a1 s.1 s.2.1 s.2.2
def spec_l5Text_L1_s (a0 : (List Thing)) (a1 : Int) (s10 : ByteArray) (s11 : Bool) (s12 : Int) : St := ⟨[(0, .o (.c (.rs 6 (a0.map Thing.enc)))), (1, .o (.c (.v (.int .i64 a1)))), (5, .o (.c (.v (.string s10)))), (7, .o (.c (.v (.bool s11)))), (8, .o (.c (.v (.int .i64 s12))))], []⟩
def spec_l5Text_L1_S (a0 : (List Thing)) (a1 : Int) (s : ByteArray × Bool × Int) : St := spec_l5Text_L1_s a0 a1 s.1 s.2.1 s.2.2
def spec_l5Text_L1_a (s13 : ByteArray) : Option ByteArray :=
  (catM s13 (ByteArray.mk #[93])).bind fun v14 =>
  some v14
def spec_l5Text_L1_k (x : (ByteArray) ⊕ (ByteArray)) : Option ByteArray := match x with
  | .inl t => spec_l5Text_L1_a t
  | .inr y => some y
def spec_l5Text_F (self : (List Thing) → Int → Option ByteArray) (a0 : (List Thing)) (a1 : Int) : Option ByteArray :=
  (spec_FormatInt a1).bind fun v1 =>
  (spec_FindThing a0 a1).bind fun v3 =>
  (gi a0 v3).bind fun v5 =>
  bif (!v5.Box) then
  some v1
  else
  (catM v1 (ByteArray.mk #[91])).bind fun v8 =>
  (loopM (spec_l5Text_L1 self a0 a1) big (v8, true, 0)).bind (spec_l5Text_L1_k)
def spec_l5Text_n : Nat → (List Thing) → Int → Option ByteArray
  | 0, _, _ => none
  | n + 1, a0, a1 => spec_l5Text_F (spec_l5Text_n n) a0 a1
def spec_l5Text (a0 : (List Thing)) (a1 : Int) : Option ByteArray := spec_l5Text_n big a0 a1
theorem spec_l5Text_step (self : (List Thing) → Int → Option ByteArray) (ih : ∀ (a0 : (List Thing)) (a1 : Int) (r : ByteArray), self a0 a1 = some r →
    Con Tryd.prog 27 [.c (.rs 6 (a0.map Thing.enc)), .c (.v (.int .i64 a1))] [] (.o (.c (.v (.string r)))) [] [])
     (a0 : (List Thing)) (a1 : Int) (r : ByteArray) (hM : spec_l5Text_F self a0 a1 = some r) :
    Con Tryd.prog 27 [.c (.rs 6 (a0.map Thing.enc)), .c (.v (.int .i64 a1))] [] (.o (.c (.v (.string r)))) [] [] := by
  unfold spec_l5Text_F at hM
  refine cn (N := 51) (pids := []) Tryd_mixed Tryd.func27 (by kernel_rfl) (by kernel_rfl) (by kernel_rfl) rfl fun ρ g w R => ?_
  obtain ⟨v1, h2, hM⟩ := bind_some hM
  obtain ⟨v3, h4, hM⟩ := bind_some hM
  obtain ⟨v5, h6, hM⟩ := bind_some hM
  rcases cond_cases hM with ⟨h7, hM⟩ | ⟨h7, hM⟩
  · have hE : some v1 = some r := hM
    have hE := Option.some.inj hE
    subst hE
    exact pr R 9999 [.call false [] (.o (.c (.v (.string v1)))) [] [], .call false [] (.o (.c (.v (.int .i64 v3)))) [] [], .ix (Thing.enc v5), .as 19 true] [] [] [] (And.intro (spec_FormatInt_ok a1 v1 h2) (And.intro (spec_FindThing_ok a0 a1 v3 h4) (And.intro (gi_map Thing.enc h6) (And.intro h7 True.intro)))) (by kernel_rfl)
  · obtain ⟨v8, h9, hM⟩ := bind_some hM
    have K1 : ∀ (s13 : ByteArray), spec_l5Text_L1_a s13 = some r → Gr R [.code (cAt Tryd.f27 [1, 1, 1, 1, 1, 1, 1])] (⟨[(5, .o (.c (.v (.string s13))))], []⟩) := by
      intro s13 hM
      unfold spec_l5Text_L1_a at hM
      obtain ⟨v14, h15, hM⟩ := bind_some hM
      have hE : some v14 = some r := hM
      have hE := Option.some.inj hE
      subst hE
      exact pr R 9999 [.run 50 (.string v14)] [] [] [] (And.intro (catM_run (P := Tryd.prog) (t := 9) (x := .tmp 0) (y := .tmp 0) h15) True.intro) (by kernel_rfl)
    refine pc R 9999 [.call false [] (.o (.c (.v (.string v1)))) [] [], .call false [] (.o (.c (.v (.int .i64 v3)))) [] [], .ix (Thing.enc v5), .as 19 false, .run 22 (.string v8)] [.keep [0, 1, 5, 7, 8] []] (k' := [.code (.loop (cAt Tryd.f27 [1, 1, 1, 1, 1, 1, 0, 1, 0, 0])), .blk 0, .code (cAt Tryd.f27 [1, 1, 1, 1, 1, 1, 1])]) (S' := spec_l5Text_L1_S a0 a1 (v8, true, 0)) (And.intro (spec_FormatInt_ok a1 v1 h2) (And.intro (spec_FindThing_ok a0 a1 v3 h4) (And.intro (gi_map Thing.enc h6) (And.intro h7 (And.intro (catM_run (P := Tryd.prog) (t := 9) (x := .tmp 0) (y := .tmp 0) h9) True.intro))))) (by kernel_rfl) ?_
    refine lq (spec_l5Text_L1_S a0 a1) (body := spec_l5Text_L1 self a0 a1) (k := spec_l5Text_L1_k) hM fun m1 s c1 hM hK1 => ?_
    obtain ⟨s10, s11, s12⟩ := s
    have hM : spec_l5Text_L1_b self a0 a1 s10 s11 s12 = some c1 := hM
    unfold spec_l5Text_L1_b at hM
    rcases cond_cases hM with ⟨h16, hM⟩ | ⟨h16, hM⟩
    · obtain ⟨v17, h18, hM⟩ := bind_some hM
      rcases cond_cases hM with ⟨h19, hM⟩ | ⟨h19, hM⟩
      · have J1 : ∀ (s20 : ByteArray), spec_l5Text_j1 self a0 s12 s20 = some c1 → Gr R [.code (cAt Tryd.f27 [1, 1, 1, 1, 1, 1, 0, 1, 0, 0, 1, 0, 0, 1, 0, 1]), .blk 1, .code (cAt Tryd.f27 [1, 1, 1, 1, 1, 1, 0, 1, 0, 0, 1, 1]), .inv (Jr R (spec_l5Text_L1_S a0 a1) (Mk (spec_l5Text_L1 self a0 a1) (spec_l5Text_L1_k) r) (m1 + 1)), .blk 0, .code (cAt Tryd.f27 [1, 1, 1, 1, 1, 1, 1])] (⟨[(0, .o (.c (.rs 6 (a0.map Thing.enc)))), (1, .o (.c (.v (.int .i64 a1)))), (5, .o (.c (.v (.string s20)))), (8, .o (.c (.v (.int .i64 s12))))], []⟩) := by
          intro s20 hM
          unfold spec_l5Text_j1 at hM
          obtain ⟨v21, h22, hM⟩ := bind_some hM
          obtain ⟨v23, h24, hM⟩ := bind_some hM
          obtain ⟨v25, h26, hM⟩ := bind_some hM
          have hE : some (Ctl.next (v25, false, w64 (s12 + 1))) = some c1 := hM
          have hE := Option.some.inj hE
          subst hE
          exact pc R 9999 [.ix (Thing.enc v21), .call false [] (.o (.c (.v (.string v23)))) [] [], .run 48 (.string v25)] [.keep [0, 1, 5, 7, 8] []] (And.intro (gi_map Thing.enc h22) (And.intro (ih a0 v21.Id v23 h24) (And.intro (catM_run (P := Tryd.prog) (t := 9) (x := .tmp 0) (y := .tmp 0) h26) True.intro))) (by kernel_rfl) (li (Sf := spec_l5Text_L1_S a0 a1) (M := Mk (spec_l5Text_L1 self a0 a1) (spec_l5Text_L1_k) r) (k := [.blk 0, .code (cAt Tryd.f27 [1, 1, 1, 1, 1, 1, 1])]) (Nat.lt_succ_self m1) hK1)
        rcases cond_cases hM with ⟨h27, hM⟩ | ⟨h27, hM⟩
        · obtain ⟨v28, h29, hM⟩ := bind_some hM
          exact pc R 15 [.ln (a0.length), .as 26 true, .ix (Thing.enc v17), .as 35 true, .as 37 true, .run 39 (.string v28)] [.keep [0, 1, 5, 8] []] (And.intro (lenm Thing.enc a0) (And.intro h16 (And.intro (gi_map Thing.enc h18) (And.intro h19 (And.intro h27 (And.intro (catM_run (P := Tryd.prog) (t := 9) (x := .tmp 0) (y := .tmp 0) h29) True.intro)))))) (by kernel_rfl) (J1 v28 hM)
        · exact pc R 15 [.ln (a0.length), .as 26 true, .ix (Thing.enc v17), .as 35 true, .as 37 false] [.keep [0, 1, 5, 8] []] (And.intro (lenm Thing.enc a0) (And.intro h16 (And.intro (gi_map Thing.enc h18) (And.intro h19 (And.intro h27 True.intro))))) (by kernel_rfl) (J1 s10 hM)
      · have hE : some (Ctl.next (s10, s11, w64 (s12 + 1))) = some c1 := hM
        have hE := Option.some.inj hE
        subst hE
        exact pc R 9999 [.ln (a0.length), .as 26 true, .ix (Thing.enc v17), .as 35 false] [.keep [0, 1, 5, 7, 8] []] (And.intro (lenm Thing.enc a0) (And.intro h16 (And.intro (gi_map Thing.enc h18) (And.intro h19 True.intro)))) (by kernel_rfl) (li (Sf := spec_l5Text_L1_S a0 a1) (M := Mk (spec_l5Text_L1 self a0 a1) (spec_l5Text_L1_k) r) (k := [.blk 0, .code (cAt Tryd.f27 [1, 1, 1, 1, 1, 1, 1])]) (Nat.lt_succ_self m1) hK1)
    · have hE : some (Ctl.brk s10) = some c1 := hM
      have hE := Option.some.inj hE
      subst hE
      exact pc R 5 [.ln (a0.length), .as 26 false] [.keep [5] []] (And.intro (lenm Thing.enc a0) (And.intro h16 True.intro)) (by kernel_rfl) (K1 s10 hK1)
theorem spec_l5Text_nok : ∀ (n : Nat) (a0 : (List Thing)) (a1 : Int) (r : ByteArray), spec_l5Text_n n a0 a1 = some r →
    Con Tryd.prog 27 [.c (.rs 6 (a0.map Thing.enc)), .c (.v (.int .i64 a1))] [] (.o (.c (.v (.string r)))) [] []
  | 0, _, _, _, h => by cases h
  | n + 1, a0, a1, r, h => spec_l5Text_step (spec_l5Text_n n) (spec_l5Text_nok n) a0 a1 r h
theorem spec_l5Text_ok (a0 : (List Thing)) (a1 : Int) (r : ByteArray) (h : spec_l5Text a0 a1 = some r) :
    Con Tryd.prog 27 [.c (.rs 6 (a0.map Thing.enc)), .c (.v (.int .i64 a1))] [] (.o (.c (.v (.string r)))) [] [] := spec_l5Text_nok big a0 a1 r h

-- loop.example/g03014/spec.Manifest
def spec_Manifest (a0 : (List Thing)) (a1 : Int) : Option ByteArray :=
  (spec_AreThings a0).bind fun v1 =>
  bif (!v1) then
  some (ByteArray.mk #[])
  else
  (spec_FindThing a0 a1).bind fun v4 =>
  bif (decide (v4 < 0)) then
  some (ByteArray.mk #[])
  else
  (spec_l5Text a0 a1).bind fun v7 =>
  some v7
theorem spec_Manifest_ok (a0 : (List Thing)) (a1 : Int) (r : ByteArray) (hM : spec_Manifest a0 a1 = some r) :
    Con Tryd.prog 9 [.c (.rs 6 (a0.map Thing.enc)), .c (.v (.int .i64 a1))] [] (.o (.c (.v (.string r)))) [] [] := by
  unfold spec_Manifest at hM
  refine cn (N := 17) (pids := []) Tryd_mixed Tryd.func9 (by kernel_rfl) (by kernel_rfl) (by kernel_rfl) rfl fun ρ g w R => ?_
  obtain ⟨v1, h2, hM⟩ := bind_some hM
  rcases cond_cases hM with ⟨h3, hM⟩ | ⟨h3, hM⟩
  · have hE : some (ByteArray.mk #[]) = some r := hM
    have hE := Option.some.inj hE
    subst hE
    exact pr R 9999 [.call false [] (.o (.c (.v (.bool v1)))) [] [], .as 8 true] [] [] [] (And.intro (spec_AreThings_ok a0 v1 h2) (And.intro h3 True.intro)) (by kernel_rfl)
  · obtain ⟨v4, h5, hM⟩ := bind_some hM
    rcases cond_cases hM with ⟨h6, hM⟩ | ⟨h6, hM⟩
    · have hE : some (ByteArray.mk #[]) = some r := hM
      have hE := Option.some.inj hE
      subst hE
      exact pr R 9999 [.call false [] (.o (.c (.v (.bool v1)))) [] [], .as 8 false, .call false [] (.o (.c (.v (.int .i64 v4)))) [] [], .as 13 true] [] [] [] (And.intro (spec_AreThings_ok a0 v1 h2) (And.intro h3 (And.intro (spec_FindThing_ok a0 a1 v4 h5) (And.intro h6 True.intro)))) (by kernel_rfl)
    · obtain ⟨v7, h8, hM⟩ := bind_some hM
      have hE : some v7 = some r := hM
      have hE := Option.some.inj hE
      subst hE
      exact pr R 9999 [.call false [] (.o (.c (.v (.bool v1)))) [] [], .as 8 false, .call false [] (.o (.c (.v (.int .i64 v4)))) [] [], .as 13 false, .call false [] (.o (.c (.v (.string v7)))) [] []] [] [] [] (And.intro (spec_AreThings_ok a0 v1 h2) (And.intro h3 (And.intro (spec_FindThing_ok a0 a1 v4 h5) (And.intro h6 (And.intro (spec_l5Text_ok a0 a1 v7 h8) True.intro))))) (by kernel_rfl)

-- loop.example/g03014/impl.within
def impl_within (a0 : Int) (a1 : Int) (a2 : Int) : Option Bool :=
  bif (decide (a1 ≤ a0)) then
  some (decide (a0 ≤ a2))
  else
  some false
theorem impl_within_ok (a0 : Int) (a1 : Int) (a2 : Int) (r : Bool) (hM : impl_within a0 a1 a2 = some r) :
    Con Tryd.prog 46 [.c (.v (.int .i64 a0)), .c (.v (.int .i64 a1)), .c (.v (.int .i64 a2))] [] (.o (.c (.v (.bool r)))) [] [] := by
  unfold impl_within at hM
  refine cn (N := 15) (pids := []) Tryd_mixed Tryd.func46 (by kernel_rfl) (by kernel_rfl) (by kernel_rfl) rfl fun ρ g w R => ?_
  rcases cond_cases hM with ⟨h1, hM⟩ | ⟨h1, hM⟩
  · have hE : some (decide (a0 ≤ a2)) = some r := hM
    have hE := Option.some.inj hE
    subst hE
    exact pr R 9999 [.as 10 true] [] [] [] (And.intro h1 True.intro) (by kernel_rfl)
  · have hE : some false = some r := hM
    have hE := Option.some.inj hE
    subst hE
    exact pr R 9999 [.as 10 false] [] [] [] (And.intro h1 True.intro) (by kernel_rfl)

-- loop.example/g03014/impl.FindThing
def impl_FindThing_L1_b (a0 : (List Thing)) (a1 : Int) (s1 : Int) : Option (Ctl Int Unit Int) :=
  bif (decide (s1 < (a0.length : Int))) then
  (gi a0 s1).bind fun v3 =>
  bif (v3.Id == a1) then
  some (.ret s1)
  else
  some (.next (w64 (s1 + 1)))
  else
  some (.brk ())
def impl_FindThing_L1 (a0 : (List Thing)) (a1 : Int) (s : Int) : Option (Ctl Int Unit Int) := impl_FindThing_L1_b a0 a1 s
def impl_FindThing_L1_s (a0 : (List Thing)) (a1 : Int) (s1 : Int) : St := ⟨[(1, .o (.c (.v (.int .i64 a1)))), (7, .o (.c (.rs 6 (a0.map Thing.enc)))), (8, .o (.c (.v (.int .i64 (a0.length : Int))))), (9, .o (.c (.v (.int .i64 s1))))], []⟩
def impl_FindThing_L1_S (a0 : (List Thing)) (a1 : Int) (s : Int) : St := impl_FindThing_L1_s a0 a1 s
def impl_FindThing_L1_a : Option Int :=
  some (-1)
def impl_FindThing_L1_k (x : (Unit) ⊕ (Int)) : Option Int := match x with
  | .inl t => impl_FindThing_L1_a
  | .inr y => some y
def impl_FindThing (a0 : (List Thing)) (a1 : Int) : Option Int :=
  (loopM (impl_FindThing_L1 a0 a1) big 0).bind (impl_FindThing_L1_k)
theorem impl_FindThing_ok (a0 : (List Thing)) (a1 : Int) (r : Int) (hM : impl_FindThing a0 a1 = some r) :
    Con Tryd.prog 12 [.c (.rs 6 (a0.map Thing.enc)), .c (.v (.int .i64 a1))] [] (.o (.c (.v (.int .i64 r)))) [] [] := by
  unfold impl_FindThing at hM
  refine cn (N := 20) (pids := []) Tryd_mixed Tryd.func12 (by kernel_rfl) (by kernel_rfl) (by kernel_rfl) rfl fun ρ g w R => ?_
  have K1 : ∀ (_ : Unit), impl_FindThing_L1_a = some r → Gr R [.code (cAt Tryd.f12 [1, 1])] (⟨[], []⟩) := by
    intro _ hM
    unfold impl_FindThing_L1_a at hM
    have hE : some (-1) = some r := hM
    have hE := Option.some.inj hE
    subst hE
    exact pr R 9999 [] [] [] [] True.intro (by kernel_rfl)
  refine pc R 9999 [.ln (a0.length)] [.keep [1, 7, 8, 9] []] (k' := [.code (.loop (cAt Tryd.f12 [1, 0, 1, 0, 0])), .blk 0, .code (cAt Tryd.f12 [1, 1])]) (S' := impl_FindThing_L1_S a0 a1 0) (And.intro (lenm Thing.enc a0) True.intro) (by kernel_rfl) ?_
  refine lq (impl_FindThing_L1_S a0 a1) (body := impl_FindThing_L1 a0 a1) (k := impl_FindThing_L1_k) hM fun m1 s c1 hM hK1 => ?_
  obtain ⟨s1, hs⟩ : ∃ z, z = s := ⟨_, rfl⟩
  subst hs
  have hM : impl_FindThing_L1_b a0 a1 s1 = some c1 := hM
  unfold impl_FindThing_L1_b at hM
  rcases cond_cases hM with ⟨h2, hM⟩ | ⟨h2, hM⟩
  · obtain ⟨v3, h4, hM⟩ := bind_some hM
    rcases cond_cases hM with ⟨h5, hM⟩ | ⟨h5, hM⟩
    · have hE : some (Ctl.ret s1) = some c1 := hM
      have hE := Option.some.inj hE
      subst hE
      have hE : some s1 = some r := hK1
      have hE := Option.some.inj hE
      subst hE
      exact pr R 9999 [.as 10 true, .ix (Thing.enc v3), .new 0, .as 17 true] [] [] [] (And.intro h2 (And.intro (gi_map Thing.enc h4) (And.intro h5 True.intro))) (by kernel_rfl)
    · have hE : some (Ctl.next (w64 (s1 + 1))) = some c1 := hM
      have hE := Option.some.inj hE
      subst hE
      exact pc R 9999 [.as 10 true, .ix (Thing.enc v3), .new 0, .as 17 false] [.keep [1, 7, 8, 9] []] (And.intro h2 (And.intro (gi_map Thing.enc h4) (And.intro h5 True.intro))) (by kernel_rfl) (li (Sf := impl_FindThing_L1_S a0 a1) (M := Mk (impl_FindThing_L1 a0 a1) (impl_FindThing_L1_k) r) (k := [.blk 0, .code (cAt Tryd.f12 [1, 1])]) (Nat.lt_succ_self m1) hK1)
  · have hE : some (Ctl.brk ()) = some c1 := hM
    have hE := Option.some.inj hE
    subst hE
    exact pc R 5 [.as 10 false] [.keep [] []] (And.intro h2 True.intro) (by kernel_rfl) (K1 () hK1)

-- loop.example/g03014/impl.isBox
def impl_isBox (a0 : (List Thing)) (a1 : Int) : Option Bool :=
  (impl_FindThing a0 a1).bind fun v1 =>
  bif (decide (v1 ≥ 0)) then
  (gi a0 v1).bind fun v4 =>
  some v4.Box
  else
  some false
theorem impl_isBox_ok (a0 : (List Thing)) (a1 : Int) (r : Bool) (hM : impl_isBox a0 a1 = some r) :
    Con Tryd.prog 23 [.c (.rs 6 (a0.map Thing.enc)), .c (.v (.int .i64 a1))] [] (.o (.c (.v (.bool r)))) [] [] := by
  unfold impl_isBox at hM
  refine cn (N := 18) (pids := []) Tryd_mixed Tryd.func23 (by kernel_rfl) (by kernel_rfl) (by kernel_rfl) rfl fun ρ g w R => ?_
  obtain ⟨v1, h2, hM⟩ := bind_some hM
  rcases cond_cases hM with ⟨h3, hM⟩ | ⟨h3, hM⟩
  · obtain ⟨v4, h5, hM⟩ := bind_some hM
    have hE : some v4.Box = some r := hM
    have hE := Option.some.inj hE
    subst hE
    exact pr R 9999 [.call false [] (.o (.c (.v (.int .i64 v1)))) [] [], .as 11 true, .ix (Thing.enc v4)] [] [] [] (And.intro (impl_FindThing_ok a0 a1 v1 h2) (And.intro h3 (And.intro (gi_map Thing.enc h5) True.intro))) (by kernel_rfl)
  · have hE : some false = some r := hM
    have hE := Option.some.inj hE
    subst hE
    exact pr R 9999 [.call false [] (.o (.c (.v (.int .i64 v1)))) [] [], .as 11 false] [] [] [] (And.intro (impl_FindThing_ok a0 a1 v1 h2) (And.intro h3 True.intro)) (by kernel_rfl)

-- loop.example/g03014/impl.around
def impl_around_L1_b (a0 : (List Thing)) (s3 : (List Int)) (s4 : Int) : Option (Ctl ((List Int) × Int) (List Int) (List Int)) :=
  bif (decide (s4 ≥ 0)) then
  (gi a0 s4).bind fun v7 =>
  bif (v7.In != 0) then
  bif (decide ((s3.length : Int) ≤ 4)) then
  (gi a0 s4).bind fun v11 =>
  (ap 8 s3 ([v11.In] : List Int)).bind fun v13 =>
  (gi a0 s4).bind fun v15 =>
  (impl_FindThing a0 v15.In).bind fun v17 =>
  some (.next (v13, v17))
  else
  some (.brk s3)
  else
  some (.brk s3)
  else
  some (.brk s3)
def impl_around_L1 (a0 : (List Thing)) (s : (List Int) × Int) : Option (Ctl ((List Int) × Int) (List Int) (List Int)) := impl_around_L1_b a0 s.1 s.2
def impl_around_L1_s (a0 : (List Thing)) (s3 : (List Int)) (s4 : Int) : St := ⟨[(0, .o (.c (.rs 6 (a0.map Thing.enc)))), (5, .o (.c (.sl 0))), (6, .o (.c (.v (.int .i64 s4))))], [(0, .row 3 1 (s3.map encI))]⟩
def impl_around_L1_S (a0 : (List Thing)) (s : (List Int) × Int) : St := impl_around_L1_s a0 s.1 s.2
def impl_around_L1_a (s5 : (List Int)) : Option (List Int) :=
  some s5
def impl_around_L1_k (x : ((List Int)) ⊕ ((List Int))) : Option (List Int) := match x with
  | .inl t => impl_around_L1_a t
  | .inr y => some y
def impl_around (a0 : (List Thing)) (a1 : Int) : Option (List Int) :=
  (impl_FindThing a0 a1).bind fun v1 =>
  (loopM (impl_around_L1 a0) big (([] : List Int), v1)).bind (impl_around_L1_k)
theorem impl_around_ok (a0 : (List Thing)) (a1 : Int) (r : (List Int)) (hM : impl_around a0 a1 = some r) :
    Con Tryd.prog 30 [.c (.rs 6 (a0.map Thing.enc)), .c (.v (.int .i64 a1))] [] (.o (.c (.sl 1000))) [] [(1000, .row 3 1 (r.map encI))] := by
  unfold impl_around at hM
  refine cn (N := 42) (pids := []) Tryd_mixed Tryd.func30 (by kernel_rfl) (by kernel_rfl) (by kernel_rfl) rfl fun ρ g w R => ?_
  obtain ⟨v1, h2, hM⟩ := bind_some hM
  have K1 : ∀ (s5 : (List Int)), impl_around_L1_a s5 = some r → Gr R [.code (cAt Tryd.f30 [1, 1, 1, 1])] (⟨[(5, .o (.c (.sl 0)))], [(0, .row 3 1 (s5.map encI))]⟩) := by
    intro s5 hM
    unfold impl_around_L1_a at hM
    have hE : some s5 = some r := hM
    have hE := Option.some.inj hE
    subst hE
    exact pr R 9999 [] [.sw 0 1000] [] [1000] True.intro (by kernel_rfl)
  refine pc R 9999 [.new 0, .call false [] (.o (.c (.v (.int .i64 v1)))) [] []] [.keep [0, 5, 6] [0]] (k' := [.code (.loop (cAt Tryd.f30 [1, 1, 1, 0, 0, 0])), .blk 0, .code (cAt Tryd.f30 [1, 1, 1, 1])]) (S' := impl_around_L1_S a0 (([] : List Int), v1)) (And.intro (impl_FindThing_ok a0 a1 v1 h2) True.intro) (by kernel_rfl) ?_
  refine lq (impl_around_L1_S a0) (body := impl_around_L1 a0) (k := impl_around_L1_k) hM fun m1 s c1 hM hK1 => ?_
  obtain ⟨s3, s4⟩ := s
  have hM : impl_around_L1_b a0 s3 s4 = some c1 := hM
  unfold impl_around_L1_b at hM
  rcases cond_cases hM with ⟨h6, hM⟩ | ⟨h6, hM⟩
  · obtain ⟨v7, h8, hM⟩ := bind_some hM
    rcases cond_cases hM with ⟨h9, hM⟩ | ⟨h9, hM⟩
    · rcases cond_cases hM with ⟨h10, hM⟩ | ⟨h10, hM⟩
      · obtain ⟨v11, h12, hM⟩ := bind_some hM
        obtain ⟨v13, h14, hM⟩ := bind_some hM
        obtain ⟨v15, h16, hM⟩ := bind_some hM
        obtain ⟨v17, h18, hM⟩ := bind_some hM
        have hE : some (Ctl.next (v13, v17)) = some c1 := hM
        have hE := Option.some.inj hE
        subst hE
        exact pc R 9999 [.as 13 true, .ix (Thing.enc v7), .as 21 true, .ln (s3.length), .as 25 true, .ix (Thing.enc v11), .new 1, .new 2, .nm (v13.map encI), .ix (Thing.enc v15), .call false [] (.o (.c (.v (.int .i64 v17)))) [] []] [.sw 2 0, .keep [0, 5, 6] [0]] (And.intro h6 (And.intro (gi_map Thing.enc h8) (And.intro h9 (And.intro (lenm encI s3) (And.intro h10 (And.intro (gi_map Thing.enc h12) (And.intro (ap_ok encI h14) (And.intro (gi_map Thing.enc h16) (And.intro (impl_FindThing_ok a0 v15.In v17 h18) True.intro))))))))) (by kernel_rfl) (li (Sf := impl_around_L1_S a0) (M := Mk (impl_around_L1 a0) (impl_around_L1_k) r) (k := [.blk 0, .code (cAt Tryd.f30 [1, 1, 1, 1])]) (Nat.lt_succ_self m1) hK1)
      · have hE : some (Ctl.brk s3) = some c1 := hM
        have hE := Option.some.inj hE
        subst hE
        exact pc R 5 [.as 13 true, .ix (Thing.enc v7), .as 21 true, .ln (s3.length), .as 25 false] [.keep [5] [0]] (And.intro h6 (And.intro (gi_map Thing.enc h8) (And.intro h9 (And.intro (lenm encI s3) (And.intro h10 True.intro))))) (by kernel_rfl) (K1 s3 hK1)
    · have hE : some (Ctl.brk s3) = some c1 := hM
      have hE := Option.some.inj hE
      subst hE
      exact pc R 5 [.as 13 true, .ix (Thing.enc v7), .as 21 false] [.keep [5] [0]] (And.intro h6 (And.intro (gi_map Thing.enc h8) (And.intro h9 True.intro))) (by kernel_rfl) (K1 s3 hK1)
  · have hE : some (Ctl.brk s3) = some c1 := hM
    have hE := Option.some.inj hE
    subst hE
    exact pc R 5 [.as 13 false] [.keep [5] [0]] (And.intro h6 True.intro) (by kernel_rfl) (K1 s3 hK1)

-- loop.example/g03014/impl.areDeep
def impl_areDeep_L2_b (a0 : (List Thing)) (s2 : Int) : Option (Ctl Int Unit Bool) :=
  bif (decide (s2 < (a0.length : Int))) then
  (gi a0 s2).bind fun v4 =>
  (impl_around a0 v4.Id).bind fun v6 =>
  bif (decide ((v6.length : Int) > 4)) then
  some (.ret false)
  else
  some (.next (w64 (s2 + 1)))
  else
  some (.brk ())
def impl_areDeep_L2 (a0 : (List Thing)) (s : Int) : Option (Ctl Int Unit Bool) := impl_areDeep_L2_b a0 s
def impl_areDeep_L2_s (a0 : (List Thing)) (s2 : Int) : St := ⟨[(0, .o (.c (.rs 6 (a0.map Thing.enc)))), (74, .o (.c (.rs 6 (a0.map Thing.enc)))), (75, .o (.c (.v (.int .i64 (a0.length : Int))))), (76, .o (.c (.v (.int .i64 s2))))], []⟩
def impl_areDeep_L2_S (a0 : (List Thing)) (s : Int) : St := impl_areDeep_L2_s a0 s
def impl_areDeep_L2_a (a0 : (List Thing)) : Option Bool :=
  some (decide ((a0.length : Int) ≤ 40))
def impl_areDeep_L2_k (a0 : (List Thing)) (x : (Unit) ⊕ (Bool)) : Option Bool := match x with
  | .inl t => impl_areDeep_L2_a a0
  | .inr y => some y
def impl_areDeep_L1_b (a0 : (List Thing)) (s1 : Int) : Option (Ctl Int Unit Bool) :=
  bif (decide (s1 < (a0.length : Int))) then
  (gi a0 s1).bind fun v10 =>
  (impl_within v10.Id 1 9999).bind fun v12 =>
  bif (!v12) then
  some (.ret false)
  else
  bif (decide (s1 > 0)) then
  (gi a0 (w64 (s1 - 1))).bind fun v16 =>
  bif (decide (v16.Id ≥ v10.Id)) then
  some (.ret false)
  else
  (impl_within v10.Own 1 30000).bind fun v19 =>
  bif (!v19) then
  some (.ret false)
  else
  bif v10.Box then
  (impl_within v10.Room 1 1000000).bind fun v23 =>
  bif (!v23) then
  some (.ret false)
  else
  bif (!v10.Box) then
  bif (v10.Room != 0) then
  some (.ret false)
  else
  bif v10.Sealed then
  some (.ret false)
  else
  bif (v10.In != 0) then
  (impl_isBox a0 v10.In).bind fun v30 =>
  bif (!v30) then
  some (.ret false)
  else
  some (.next (w64 (s1 + 1)))
  else
  some (.next (w64 (s1 + 1)))
  else
  bif (v10.In != 0) then
  (impl_isBox a0 v10.In).bind fun v34 =>
  bif (!v34) then
  some (.ret false)
  else
  some (.next (w64 (s1 + 1)))
  else
  some (.next (w64 (s1 + 1)))
  else
  bif (!v10.Box) then
  bif (v10.Room != 0) then
  some (.ret false)
  else
  bif v10.Sealed then
  some (.ret false)
  else
  bif (v10.In != 0) then
  (impl_isBox a0 v10.In).bind fun v41 =>
  bif (!v41) then
  some (.ret false)
  else
  some (.next (w64 (s1 + 1)))
  else
  some (.next (w64 (s1 + 1)))
  else
  bif (v10.In != 0) then
  (impl_isBox a0 v10.In).bind fun v45 =>
  bif (!v45) then
  some (.ret false)
  else
  some (.next (w64 (s1 + 1)))
  else
  some (.next (w64 (s1 + 1)))
  else
  (impl_within v10.Own 1 30000).bind fun v48 =>
  bif (!v48) then
  some (.ret false)
  else
  bif v10.Box then
  (impl_within v10.Room 1 1000000).bind fun v52 =>
  bif (!v52) then
  some (.ret false)
  else
  bif (!v10.Box) then
  bif (v10.Room != 0) then
  some (.ret false)
  else
  bif v10.Sealed then
  some (.ret false)
  else
  bif (v10.In != 0) then
  (impl_isBox a0 v10.In).bind fun v59 =>
  bif (!v59) then
  some (.ret false)
  else
  some (.next (w64 (s1 + 1)))
  else
  some (.next (w64 (s1 + 1)))
  else
  bif (v10.In != 0) then
  (impl_isBox a0 v10.In).bind fun v63 =>
  bif (!v63) then
  some (.ret false)
  else
  some (.next (w64 (s1 + 1)))
  else
  some (.next (w64 (s1 + 1)))
  else
  bif (!v10.Box) then
  bif (v10.Room != 0) then
  some (.ret false)
  else
  bif v10.Sealed then
  some (.ret false)
  else
  bif (v10.In != 0) then
  (impl_isBox a0 v10.In).bind fun v70 =>
  bif (!v70) then
  some (.ret false)
  else
  some (.next (w64 (s1 + 1)))
  else
  some (.next (w64 (s1 + 1)))
  else
  bif (v10.In != 0) then
  (impl_isBox a0 v10.In).bind fun v74 =>
  bif (!v74) then
  some (.ret false)
  else
  some (.next (w64 (s1 + 1)))
  else
  some (.next (w64 (s1 + 1)))
  else
  some (.brk ())
def impl_areDeep_L1 (a0 : (List Thing)) (s : Int) : Option (Ctl Int Unit Bool) := impl_areDeep_L1_b a0 s
def impl_areDeep_L1_s (a0 : (List Thing)) (s1 : Int) : St := ⟨[(0, .o (.c (.rs 6 (a0.map Thing.enc)))), (7, .o (.c (.rs 6 (a0.map Thing.enc)))), (8, .o (.c (.v (.int .i64 (a0.length : Int))))), (9, .o (.c (.v (.int .i64 s1))))], []⟩
def impl_areDeep_L1_S (a0 : (List Thing)) (s : Int) : St := impl_areDeep_L1_s a0 s
def impl_areDeep_L1_a (a0 : (List Thing)) : Option Bool :=
  (loopM (impl_areDeep_L2 a0) big 0).bind (impl_areDeep_L2_k a0)
def impl_areDeep_L1_k (a0 : (List Thing)) (x : (Unit) ⊕ (Bool)) : Option Bool := match x with
  | .inl t => impl_areDeep_L1_a a0
  | .inr y => some y
def impl_areDeep (a0 : (List Thing)) : Option Bool :=
  (loopM (impl_areDeep_L1 a0) big 0).bind (impl_areDeep_L1_k a0)
theorem impl_areDeep_ok (a0 : (List Thing)) (r : Bool) (hM : impl_areDeep a0 = some r) :
    Con Tryd.prog 51 [.c (.rs 6 (a0.map Thing.enc))] [] (.o (.c (.v (.bool r)))) [] [] := by
  unfold impl_areDeep at hM
  refine cn (N := 90) (pids := []) Tryd_mixed Tryd.func51 (by kernel_rfl) (by kernel_rfl) (by kernel_rfl) rfl fun ρ g w R => ?_
  have K1 : ∀ (_ : Unit), impl_areDeep_L1_a a0 = some r → Gr R [.code (cAt Tryd.f51 [1, 1])] (⟨[(0, .o (.c (.rs 6 (a0.map Thing.enc))))], []⟩) := by
    intro _ hM
    unfold impl_areDeep_L1_a at hM
    have K2 : ∀ (_ : Unit), impl_areDeep_L2_a a0 = some r → Gr R [.code (cAt Tryd.f51 [1, 1, 1])] (⟨[(0, .o (.c (.rs 6 (a0.map Thing.enc))))], []⟩) := by
      intro _ hM
      unfold impl_areDeep_L2_a at hM
      have hE : some (decide ((a0.length : Int) ≤ 40)) = some r := hM
      have hE := Option.some.inj hE
      subst hE
      exact pr R 9999 [.ln (a0.length)] [] [] [] (And.intro (lenm Thing.enc a0) True.intro) (by kernel_rfl)
    refine pc R 9999 [.ln (a0.length)] [.keep [0, 74, 75, 76] []] (k' := [.code (.loop (cAt Tryd.f51 [1, 1, 0, 1, 0, 0])), .blk 2, .code (cAt Tryd.f51 [1, 1, 1])]) (S' := impl_areDeep_L2_S a0 0) (And.intro (lenm Thing.enc a0) True.intro) (by kernel_rfl) ?_
    refine lq (impl_areDeep_L2_S a0) (body := impl_areDeep_L2 a0) (k := impl_areDeep_L2_k a0) hM fun m2 s c2 hM hK2 => ?_
    obtain ⟨s2, hs⟩ : ∃ z, z = s := ⟨_, rfl⟩
    subst hs
    have hM : impl_areDeep_L2_b a0 s2 = some c2 := hM
    unfold impl_areDeep_L2_b at hM
    rcases cond_cases hM with ⟨h3, hM⟩ | ⟨h3, hM⟩
    · obtain ⟨v4, h5, hM⟩ := bind_some hM
      obtain ⟨v6, h7, hM⟩ := bind_some hM
      rcases cond_cases hM with ⟨h8, hM⟩ | ⟨h8, hM⟩
      · have hE : some (Ctl.ret false) = some c2 := hM
        have hE := Option.some.inj hE
        subst hE
        have hE : some false = some r := hK2
        have hE := Option.some.inj hE
        subst hE
        exact pr R 9999 [.as 77 true, .ix (Thing.enc v4), .new 0, .call false [] (.o (.c (.sl 1))) [] [(1, .row 3 1 (v6.map encI))], .ln (v6.length), .as 85 true] [] [] [] (And.intro h3 (And.intro (gi_map Thing.enc h5) (And.intro (And.intro (con_sw 1000 1 (impl_around_ok a0 v4.Id v6 h7)) (rfl : ([] : List Nat) = [])) (And.intro (lenm encI v6) (And.intro h8 True.intro))))) (by kernel_rfl)
      · have hE : some (Ctl.next (w64 (s2 + 1))) = some c2 := hM
        have hE := Option.some.inj hE
        subst hE
        exact pc R 9999 [.as 77 true, .ix (Thing.enc v4), .new 0, .call false [] (.o (.c (.sl 1))) [] [(1, .row 3 1 (v6.map encI))], .ln (v6.length), .as 85 false] [.keep [0, 74, 75, 76] []] (And.intro h3 (And.intro (gi_map Thing.enc h5) (And.intro (And.intro (con_sw 1000 1 (impl_around_ok a0 v4.Id v6 h7)) (rfl : ([] : List Nat) = [])) (And.intro (lenm encI v6) (And.intro h8 True.intro))))) (by kernel_rfl) (li (Sf := impl_areDeep_L2_S a0) (M := Mk (impl_areDeep_L2 a0) (impl_areDeep_L2_k a0) r) (k := [.blk 2, .code (cAt Tryd.f51 [1, 1, 1])]) (Nat.lt_succ_self m2) hK2)
    · have hE : some (Ctl.brk ()) = some c2 := hM
      have hE := Option.some.inj hE
      subst hE
      exact pc R 5 [.as 77 false] [.keep [0] []] (And.intro h3 True.intro) (by kernel_rfl) (K2 () hK2)
  refine pc R 9999 [.ln (a0.length)] [.keep [0, 7, 8, 9] []] (k' := [.code (.loop (cAt Tryd.f51 [1, 0, 1, 0, 0])), .blk 0, .code (cAt Tryd.f51 [1, 1])]) (S' := impl_areDeep_L1_S a0 0) (And.intro (lenm Thing.enc a0) True.intro) (by kernel_rfl) ?_
  refine lq (impl_areDeep_L1_S a0) (body := impl_areDeep_L1 a0) (k := impl_areDeep_L1_k a0) hM fun m1 s c1 hM hK1 => ?_
  obtain ⟨s1, hs⟩ : ∃ z, z = s := ⟨_, rfl⟩
  subst hs
  have hM : impl_areDeep_L1_b a0 s1 = some c1 := hM
  unfold impl_areDeep_L1_b at hM
  rcases cond_cases hM with ⟨h9, hM⟩ | ⟨h9, hM⟩
  · obtain ⟨v10, h11, hM⟩ := bind_some hM
    obtain ⟨v12, h13, hM⟩ := bind_some hM
    rcases cond_cases hM with ⟨h14, hM⟩ | ⟨h14, hM⟩
    · have hE : some (Ctl.ret false) = some c1 := hM
      have hE := Option.some.inj hE
      subst hE
      have hE : some false = some r := hK1
      have hE := Option.some.inj hE
      subst hE
      exact pr R 9999 [.as 10 true, .ix (Thing.enc v10), .new 2, .call false [] (.o (.c (.v (.bool v12)))) [] [], .as 18 true] [] [] [] (And.intro h9 (And.intro (gi_map Thing.enc h11) (And.intro (impl_within_ok v10.Id 1 9999 v12 h13) (And.intro h14 True.intro)))) (by kernel_rfl)
    · rcases cond_cases hM with ⟨h15, hM⟩ | ⟨h15, hM⟩
      · obtain ⟨v16, h17, hM⟩ := bind_some hM
        rcases cond_cases hM with ⟨h18, hM⟩ | ⟨h18, hM⟩
        · have hE : some (Ctl.ret false) = some c1 := hM
          have hE := Option.some.inj hE
          subst hE
          have hE : some false = some r := hK1
          have hE := Option.some.inj hE
          subst hE
          exact pr R 9999 [.as 10 true, .ix (Thing.enc v10), .new 2, .call false [] (.o (.c (.v (.bool v12)))) [] [], .as 18 false, .as 21 true, .ix (Thing.enc v16), .as 33 true] [] [] [] (And.intro h9 (And.intro (gi_map Thing.enc h11) (And.intro (impl_within_ok v10.Id 1 9999 v12 h13) (And.intro h14 (And.intro h15 (And.intro (gi_map Thing.enc h17) (And.intro h18 True.intro))))))) (by kernel_rfl)
        · obtain ⟨v19, h20, hM⟩ := bind_some hM
          rcases cond_cases hM with ⟨h21, hM⟩ | ⟨h21, hM⟩
          · have hE : some (Ctl.ret false) = some c1 := hM
            have hE := Option.some.inj hE
            subst hE
            have hE : some false = some r := hK1
            have hE := Option.some.inj hE
            subst hE
            exact pr R 9999 [.as 10 true, .ix (Thing.enc v10), .new 2, .call false [] (.o (.c (.v (.bool v12)))) [] [], .as 18 false, .as 21 true, .ix (Thing.enc v16), .as 33 false, .call false [] (.o (.c (.v (.bool v19)))) [] [], .as 38 true] [] [] [] (And.intro h9 (And.intro (gi_map Thing.enc h11) (And.intro (impl_within_ok v10.Id 1 9999 v12 h13) (And.intro h14 (And.intro h15 (And.intro (gi_map Thing.enc h17) (And.intro h18 (And.intro (impl_within_ok v10.Own 1 30000 v19 h20) (And.intro h21 True.intro))))))))) (by kernel_rfl)
          · rcases cond_cases hM with ⟨h22, hM⟩ | ⟨h22, hM⟩
            · obtain ⟨v23, h24, hM⟩ := bind_some hM
              rcases cond_cases hM with ⟨h25, hM⟩ | ⟨h25, hM⟩
              · have hE : some (Ctl.ret false) = some c1 := hM
                have hE := Option.some.inj hE
                subst hE
                have hE : some false = some r := hK1
                have hE := Option.some.inj hE
                subst hE
                exact pr R 9999 [.as 10 true, .ix (Thing.enc v10), .new 2, .call false [] (.o (.c (.v (.bool v12)))) [] [], .as 18 false, .as 21 true, .ix (Thing.enc v16), .as 33 false, .call false [] (.o (.c (.v (.bool v19)))) [] [], .as 38 false, .as 41 true, .call false [] (.o (.c (.v (.bool v23)))) [] [], .as 47 true] [] [] [] (And.intro h9 (And.intro (gi_map Thing.enc h11) (And.intro (impl_within_ok v10.Id 1 9999 v12 h13) (And.intro h14 (And.intro h15 (And.intro (gi_map Thing.enc h17) (And.intro h18 (And.intro (impl_within_ok v10.Own 1 30000 v19 h20) (And.intro h21 (And.intro h22 (And.intro (impl_within_ok v10.Room 1 1000000 v23 h24) (And.intro h25 True.intro)))))))))))) (by kernel_rfl)
              · rcases cond_cases hM with ⟨h26, hM⟩ | ⟨h26, hM⟩
                · rcases cond_cases hM with ⟨h27, hM⟩ | ⟨h27, hM⟩
                  · have hE : some (Ctl.ret false) = some c1 := hM
                    have hE := Option.some.inj hE
                    subst hE
                    have hE : some false = some r := hK1
                    have hE := Option.some.inj hE
                    subst hE
                    exact pr R 9999 [.as 10 true, .ix (Thing.enc v10), .new 2, .call false [] (.o (.c (.v (.bool v12)))) [] [], .as 18 false, .as 21 true, .ix (Thing.enc v16), .as 33 false, .call false [] (.o (.c (.v (.bool v19)))) [] [], .as 38 false, .as 41 true, .call false [] (.o (.c (.v (.bool v23)))) [] [], .as 47 false, .as 51 true, .as 55 true] [] [] [] (And.intro h9 (And.intro (gi_map Thing.enc h11) (And.intro (impl_within_ok v10.Id 1 9999 v12 h13) (And.intro h14 (And.intro h15 (And.intro (gi_map Thing.enc h17) (And.intro h18 (And.intro (impl_within_ok v10.Own 1 30000 v19 h20) (And.intro h21 (And.intro h22 (And.intro (impl_within_ok v10.Room 1 1000000 v23 h24) (And.intro h25 (And.intro h26 (And.intro h27 True.intro)))))))))))))) (by kernel_rfl)
                  · rcases cond_cases hM with ⟨h28, hM⟩ | ⟨h28, hM⟩
                    · have hE : some (Ctl.ret false) = some c1 := hM
                      have hE := Option.some.inj hE
                      subst hE
                      have hE : some false = some r := hK1
                      have hE := Option.some.inj hE
                      subst hE
                      exact pr R 9999 [.as 10 true, .ix (Thing.enc v10), .new 2, .call false [] (.o (.c (.v (.bool v12)))) [] [], .as 18 false, .as 21 true, .ix (Thing.enc v16), .as 33 false, .call false [] (.o (.c (.v (.bool v19)))) [] [], .as 38 false, .as 41 true, .call false [] (.o (.c (.v (.bool v23)))) [] [], .as 47 false, .as 51 true, .as 55 false, .as 61 true] [] [] [] (And.intro h9 (And.intro (gi_map Thing.enc h11) (And.intro (impl_within_ok v10.Id 1 9999 v12 h13) (And.intro h14 (And.intro h15 (And.intro (gi_map Thing.enc h17) (And.intro h18 (And.intro (impl_within_ok v10.Own 1 30000 v19 h20) (And.intro h21 (And.intro h22 (And.intro (impl_within_ok v10.Room 1 1000000 v23 h24) (And.intro h25 (And.intro h26 (And.intro h27 (And.intro h28 True.intro))))))))))))))) (by kernel_rfl)
                    · rcases cond_cases hM with ⟨h29, hM⟩ | ⟨h29, hM⟩
                      · obtain ⟨v30, h31, hM⟩ := bind_some hM
                        rcases cond_cases hM with ⟨h32, hM⟩ | ⟨h32, hM⟩
                        · have hE : some (Ctl.ret false) = some c1 := hM
                          have hE := Option.some.inj hE
                          subst hE
                          have hE : some false = some r := hK1
                          have hE := Option.some.inj hE
                          subst hE
                          exact pr R 9999 [.as 10 true, .ix (Thing.enc v10), .new 2, .call false [] (.o (.c (.v (.bool v12)))) [] [], .as 18 false, .as 21 true, .ix (Thing.enc v16), .as 33 false, .call false [] (.o (.c (.v (.bool v19)))) [] [], .as 38 false, .as 41 true, .call false [] (.o (.c (.v (.bool v23)))) [] [], .as 47 false, .as 51 true, .as 55 false, .as 61 false, .as 65 true, .call false [] (.o (.c (.v (.bool v30)))) [] [], .as 72 true] [] [] [] (And.intro h9 (And.intro (gi_map Thing.enc h11) (And.intro (impl_within_ok v10.Id 1 9999 v12 h13) (And.intro h14 (And.intro h15 (And.intro (gi_map Thing.enc h17) (And.intro h18 (And.intro (impl_within_ok v10.Own 1 30000 v19 h20) (And.intro h21 (And.intro h22 (And.intro (impl_within_ok v10.Room 1 1000000 v23 h24) (And.intro h25 (And.intro h26 (And.intro h27 (And.intro h28 (And.intro h29 (And.intro (impl_isBox_ok a0 v10.In v30 h31) (And.intro h32 True.intro)))))))))))))))))) (by kernel_rfl)
                        · have hE : some (Ctl.next (w64 (s1 + 1))) = some c1 := hM
                          have hE := Option.some.inj hE
                          subst hE
                          exact pc R 9999 [.as 10 true, .ix (Thing.enc v10), .new 2, .call false [] (.o (.c (.v (.bool v12)))) [] [], .as 18 false, .as 21 true, .ix (Thing.enc v16), .as 33 false, .call false [] (.o (.c (.v (.bool v19)))) [] [], .as 38 false, .as 41 true, .call false [] (.o (.c (.v (.bool v23)))) [] [], .as 47 false, .as 51 true, .as 55 false, .as 61 false, .as 65 true, .call false [] (.o (.c (.v (.bool v30)))) [] [], .as 72 false] [.keep [0, 7, 8, 9] []] (And.intro h9 (And.intro (gi_map Thing.enc h11) (And.intro (impl_within_ok v10.Id 1 9999 v12 h13) (And.intro h14 (And.intro h15 (And.intro (gi_map Thing.enc h17) (And.intro h18 (And.intro (impl_within_ok v10.Own 1 30000 v19 h20) (And.intro h21 (And.intro h22 (And.intro (impl_within_ok v10.Room 1 1000000 v23 h24) (And.intro h25 (And.intro h26 (And.intro h27 (And.intro h28 (And.intro h29 (And.intro (impl_isBox_ok a0 v10.In v30 h31) (And.intro h32 True.intro)))))))))))))))))) (by kernel_rfl) (li (Sf := impl_areDeep_L1_S a0) (M := Mk (impl_areDeep_L1 a0) (impl_areDeep_L1_k a0) r) (k := [.blk 0, .code (cAt Tryd.f51 [1, 1])]) (Nat.lt_succ_self m1) hK1)
                      · have hE : some (Ctl.next (w64 (s1 + 1))) = some c1 := hM
                        have hE := Option.some.inj hE
                        subst hE
                        exact pc R 9999 [.as 10 true, .ix (Thing.enc v10), .new 2, .call false [] (.o (.c (.v (.bool v12)))) [] [], .as 18 false, .as 21 true, .ix (Thing.enc v16), .as 33 false, .call false [] (.o (.c (.v (.bool v19)))) [] [], .as 38 false, .as 41 true, .call false [] (.o (.c (.v (.bool v23)))) [] [], .as 47 false, .as 51 true, .as 55 false, .as 61 false, .as 65 false] [.keep [0, 7, 8, 9] []] (And.intro h9 (And.intro (gi_map Thing.enc h11) (And.intro (impl_within_ok v10.Id 1 9999 v12 h13) (And.intro h14 (And.intro h15 (And.intro (gi_map Thing.enc h17) (And.intro h18 (And.intro (impl_within_ok v10.Own 1 30000 v19 h20) (And.intro h21 (And.intro h22 (And.intro (impl_within_ok v10.Room 1 1000000 v23 h24) (And.intro h25 (And.intro h26 (And.intro h27 (And.intro h28 (And.intro h29 True.intro)))))))))))))))) (by kernel_rfl) (li (Sf := impl_areDeep_L1_S a0) (M := Mk (impl_areDeep_L1 a0) (impl_areDeep_L1_k a0) r) (k := [.blk 0, .code (cAt Tryd.f51 [1, 1])]) (Nat.lt_succ_self m1) hK1)
                · rcases cond_cases hM with ⟨h33, hM⟩ | ⟨h33, hM⟩
                  · obtain ⟨v34, h35, hM⟩ := bind_some hM
                    rcases cond_cases hM with ⟨h36, hM⟩ | ⟨h36, hM⟩
                    · have hE : some (Ctl.ret false) = some c1 := hM
                      have hE := Option.some.inj hE
                      subst hE
                      have hE : some false = some r := hK1
                      have hE := Option.some.inj hE
                      subst hE
                      exact pr R 9999 [.as 10 true, .ix (Thing.enc v10), .new 2, .call false [] (.o (.c (.v (.bool v12)))) [] [], .as 18 false, .as 21 true, .ix (Thing.enc v16), .as 33 false, .call false [] (.o (.c (.v (.bool v19)))) [] [], .as 38 false, .as 41 true, .call false [] (.o (.c (.v (.bool v23)))) [] [], .as 47 false, .as 51 false, .as 65 true, .call false [] (.o (.c (.v (.bool v34)))) [] [], .as 72 true] [] [] [] (And.intro h9 (And.intro (gi_map Thing.enc h11) (And.intro (impl_within_ok v10.Id 1 9999 v12 h13) (And.intro h14 (And.intro h15 (And.intro (gi_map Thing.enc h17) (And.intro h18 (And.intro (impl_within_ok v10.Own 1 30000 v19 h20) (And.intro h21 (And.intro h22 (And.intro (impl_within_ok v10.Room 1 1000000 v23 h24) (And.intro h25 (And.intro h26 (And.intro h33 (And.intro (impl_isBox_ok a0 v10.In v34 h35) (And.intro h36 True.intro)))))))))))))))) (by kernel_rfl)
                    · have hE : some (Ctl.next (w64 (s1 + 1))) = some c1 := hM
                      have hE := Option.some.inj hE
                      subst hE
                      exact pc R 9999 [.as 10 true, .ix (Thing.enc v10), .new 2, .call false [] (.o (.c (.v (.bool v12)))) [] [], .as 18 false, .as 21 true, .ix (Thing.enc v16), .as 33 false, .call false [] (.o (.c (.v (.bool v19)))) [] [], .as 38 false, .as 41 true, .call false [] (.o (.c (.v (.bool v23)))) [] [], .as 47 false, .as 51 false, .as 65 true, .call false [] (.o (.c (.v (.bool v34)))) [] [], .as 72 false] [.keep [0, 7, 8, 9] []] (And.intro h9 (And.intro (gi_map Thing.enc h11) (And.intro (impl_within_ok v10.Id 1 9999 v12 h13) (And.intro h14 (And.intro h15 (And.intro (gi_map Thing.enc h17) (And.intro h18 (And.intro (impl_within_ok v10.Own 1 30000 v19 h20) (And.intro h21 (And.intro h22 (And.intro (impl_within_ok v10.Room 1 1000000 v23 h24) (And.intro h25 (And.intro h26 (And.intro h33 (And.intro (impl_isBox_ok a0 v10.In v34 h35) (And.intro h36 True.intro)))))))))))))))) (by kernel_rfl) (li (Sf := impl_areDeep_L1_S a0) (M := Mk (impl_areDeep_L1 a0) (impl_areDeep_L1_k a0) r) (k := [.blk 0, .code (cAt Tryd.f51 [1, 1])]) (Nat.lt_succ_self m1) hK1)
                  · have hE : some (Ctl.next (w64 (s1 + 1))) = some c1 := hM
                    have hE := Option.some.inj hE
                    subst hE
                    exact pc R 9999 [.as 10 true, .ix (Thing.enc v10), .new 2, .call false [] (.o (.c (.v (.bool v12)))) [] [], .as 18 false, .as 21 true, .ix (Thing.enc v16), .as 33 false, .call false [] (.o (.c (.v (.bool v19)))) [] [], .as 38 false, .as 41 true, .call false [] (.o (.c (.v (.bool v23)))) [] [], .as 47 false, .as 51 false, .as 65 false] [.keep [0, 7, 8, 9] []] (And.intro h9 (And.intro (gi_map Thing.enc h11) (And.intro (impl_within_ok v10.Id 1 9999 v12 h13) (And.intro h14 (And.intro h15 (And.intro (gi_map Thing.enc h17) (And.intro h18 (And.intro (impl_within_ok v10.Own 1 30000 v19 h20) (And.intro h21 (And.intro h22 (And.intro (impl_within_ok v10.Room 1 1000000 v23 h24) (And.intro h25 (And.intro h26 (And.intro h33 True.intro)))))))))))))) (by kernel_rfl) (li (Sf := impl_areDeep_L1_S a0) (M := Mk (impl_areDeep_L1 a0) (impl_areDeep_L1_k a0) r) (k := [.blk 0, .code (cAt Tryd.f51 [1, 1])]) (Nat.lt_succ_self m1) hK1)
            · rcases cond_cases hM with ⟨h37, hM⟩ | ⟨h37, hM⟩
              · rcases cond_cases hM with ⟨h38, hM⟩ | ⟨h38, hM⟩
                · have hE : some (Ctl.ret false) = some c1 := hM
                  have hE := Option.some.inj hE
                  subst hE
                  have hE : some false = some r := hK1
                  have hE := Option.some.inj hE
                  subst hE
                  exact pr R 9999 [.as 10 true, .ix (Thing.enc v10), .new 2, .call false [] (.o (.c (.v (.bool v12)))) [] [], .as 18 false, .as 21 true, .ix (Thing.enc v16), .as 33 false, .call false [] (.o (.c (.v (.bool v19)))) [] [], .as 38 false, .as 41 false, .as 51 true, .as 55 true] [] [] [] (And.intro h9 (And.intro (gi_map Thing.enc h11) (And.intro (impl_within_ok v10.Id 1 9999 v12 h13) (And.intro h14 (And.intro h15 (And.intro (gi_map Thing.enc h17) (And.intro h18 (And.intro (impl_within_ok v10.Own 1 30000 v19 h20) (And.intro h21 (And.intro h22 (And.intro h37 (And.intro h38 True.intro)))))))))))) (by kernel_rfl)
                · rcases cond_cases hM with ⟨h39, hM⟩ | ⟨h39, hM⟩
                  · have hE : some (Ctl.ret false) = some c1 := hM
                    have hE := Option.some.inj hE
                    subst hE
                    have hE : some false = some r := hK1
                    have hE := Option.some.inj hE
                    subst hE
                    exact pr R 9999 [.as 10 true, .ix (Thing.enc v10), .new 2, .call false [] (.o (.c (.v (.bool v12)))) [] [], .as 18 false, .as 21 true, .ix (Thing.enc v16), .as 33 false, .call false [] (.o (.c (.v (.bool v19)))) [] [], .as 38 false, .as 41 false, .as 51 true, .as 55 false, .as 61 true] [] [] [] (And.intro h9 (And.intro (gi_map Thing.enc h11) (And.intro (impl_within_ok v10.Id 1 9999 v12 h13) (And.intro h14 (And.intro h15 (And.intro (gi_map Thing.enc h17) (And.intro h18 (And.intro (impl_within_ok v10.Own 1 30000 v19 h20) (And.intro h21 (And.intro h22 (And.intro h37 (And.intro h38 (And.intro h39 True.intro))))))))))))) (by kernel_rfl)
                  · rcases cond_cases hM with ⟨h40, hM⟩ | ⟨h40, hM⟩
                    · obtain ⟨v41, h42, hM⟩ := bind_some hM
                      rcases cond_cases hM with ⟨h43, hM⟩ | ⟨h43, hM⟩
                      · have hE : some (Ctl.ret false) = some c1 := hM
                        have hE := Option.some.inj hE
                        subst hE
                        have hE : some false = some r := hK1
                        have hE := Option.some.inj hE
                        subst hE
                        exact pr R 9999 [.as 10 true, .ix (Thing.enc v10), .new 2, .call false [] (.o (.c (.v (.bool v12)))) [] [], .as 18 false, .as 21 true, .ix (Thing.enc v16), .as 33 false, .call false [] (.o (.c (.v (.bool v19)))) [] [], .as 38 false, .as 41 false, .as 51 true, .as 55 false, .as 61 false, .as 65 true, .call false [] (.o (.c (.v (.bool v41)))) [] [], .as 72 true] [] [] [] (And.intro h9 (And.intro (gi_map Thing.enc h11) (And.intro (impl_within_ok v10.Id 1 9999 v12 h13) (And.intro h14 (And.intro h15 (And.intro (gi_map Thing.enc h17) (And.intro h18 (And.intro (impl_within_ok v10.Own 1 30000 v19 h20) (And.intro h21 (And.intro h22 (And.intro h37 (And.intro h38 (And.intro h39 (And.intro h40 (And.intro (impl_isBox_ok a0 v10.In v41 h42) (And.intro h43 True.intro)))))))))))))))) (by kernel_rfl)
                      · have hE : some (Ctl.next (w64 (s1 + 1))) = some c1 := hM
                        have hE := Option.some.inj hE
                        subst hE
                        exact pc R 9999 [.as 10 true, .ix (Thing.enc v10), .new 2, .call false [] (.o (.c (.v (.bool v12)))) [] [], .as 18 false, .as 21 true, .ix (Thing.enc v16), .as 33 false, .call false [] (.o (.c (.v (.bool v19)))) [] [], .as 38 false, .as 41 false, .as 51 true, .as 55 false, .as 61 false, .as 65 true, .call false [] (.o (.c (.v (.bool v41)))) [] [], .as 72 false] [.keep [0, 7, 8, 9] []] (And.intro h9 (And.intro (gi_map Thing.enc h11) (And.intro (impl_within_ok v10.Id 1 9999 v12 h13) (And.intro h14 (And.intro h15 (And.intro (gi_map Thing.enc h17) (And.intro h18 (And.intro (impl_within_ok v10.Own 1 30000 v19 h20) (And.intro h21 (And.intro h22 (And.intro h37 (And.intro h38 (And.intro h39 (And.intro h40 (And.intro (impl_isBox_ok a0 v10.In v41 h42) (And.intro h43 True.intro)))))))))))))))) (by kernel_rfl) (li (Sf := impl_areDeep_L1_S a0) (M := Mk (impl_areDeep_L1 a0) (impl_areDeep_L1_k a0) r) (k := [.blk 0, .code (cAt Tryd.f51 [1, 1])]) (Nat.lt_succ_self m1) hK1)
                    · have hE : some (Ctl.next (w64 (s1 + 1))) = some c1 := hM
                      have hE := Option.some.inj hE
                      subst hE
                      exact pc R 9999 [.as 10 true, .ix (Thing.enc v10), .new 2, .call false [] (.o (.c (.v (.bool v12)))) [] [], .as 18 false, .as 21 true, .ix (Thing.enc v16), .as 33 false, .call false [] (.o (.c (.v (.bool v19)))) [] [], .as 38 false, .as 41 false, .as 51 true, .as 55 false, .as 61 false, .as 65 false] [.keep [0, 7, 8, 9] []] (And.intro h9 (And.intro (gi_map Thing.enc h11) (And.intro (impl_within_ok v10.Id 1 9999 v12 h13) (And.intro h14 (And.intro h15 (And.intro (gi_map Thing.enc h17) (And.intro h18 (And.intro (impl_within_ok v10.Own 1 30000 v19 h20) (And.intro h21 (And.intro h22 (And.intro h37 (And.intro h38 (And.intro h39 (And.intro h40 True.intro)))))))))))))) (by kernel_rfl) (li (Sf := impl_areDeep_L1_S a0) (M := Mk (impl_areDeep_L1 a0) (impl_areDeep_L1_k a0) r) (k := [.blk 0, .code (cAt Tryd.f51 [1, 1])]) (Nat.lt_succ_self m1) hK1)
              · rcases cond_cases hM with ⟨h44, hM⟩ | ⟨h44, hM⟩
                · obtain ⟨v45, h46, hM⟩ := bind_some hM
                  rcases cond_cases hM with ⟨h47, hM⟩ | ⟨h47, hM⟩
                  · have hE : some (Ctl.ret false) = some c1 := hM
                    have hE := Option.some.inj hE
                    subst hE
                    have hE : some false = some r := hK1
                    have hE := Option.some.inj hE
                    subst hE
                    exact pr R 9999 [.as 10 true, .ix (Thing.enc v10), .new 2, .call false [] (.o (.c (.v (.bool v12)))) [] [], .as 18 false, .as 21 true, .ix (Thing.enc v16), .as 33 false, .call false [] (.o (.c (.v (.bool v19)))) [] [], .as 38 false, .as 41 false, .as 51 false, .as 65 true, .call false [] (.o (.c (.v (.bool v45)))) [] [], .as 72 true] [] [] [] (And.intro h9 (And.intro (gi_map Thing.enc h11) (And.intro (impl_within_ok v10.Id 1 9999 v12 h13) (And.intro h14 (And.intro h15 (And.intro (gi_map Thing.enc h17) (And.intro h18 (And.intro (impl_within_ok v10.Own 1 30000 v19 h20) (And.intro h21 (And.intro h22 (And.intro h37 (And.intro h44 (And.intro (impl_isBox_ok a0 v10.In v45 h46) (And.intro h47 True.intro)))))))))))))) (by kernel_rfl)
                  · have hE : some (Ctl.next (w64 (s1 + 1))) = some c1 := hM
                    have hE := Option.some.inj hE
                    subst hE
                    exact pc R 9999 [.as 10 true, .ix (Thing.enc v10), .new 2, .call false [] (.o (.c (.v (.bool v12)))) [] [], .as 18 false, .as 21 true, .ix (Thing.enc v16), .as 33 false, .call false [] (.o (.c (.v (.bool v19)))) [] [], .as 38 false, .as 41 false, .as 51 false, .as 65 true, .call false [] (.o (.c (.v (.bool v45)))) [] [], .as 72 false] [.keep [0, 7, 8, 9] []] (And.intro h9 (And.intro (gi_map Thing.enc h11) (And.intro (impl_within_ok v10.Id 1 9999 v12 h13) (And.intro h14 (And.intro h15 (And.intro (gi_map Thing.enc h17) (And.intro h18 (And.intro (impl_within_ok v10.Own 1 30000 v19 h20) (And.intro h21 (And.intro h22 (And.intro h37 (And.intro h44 (And.intro (impl_isBox_ok a0 v10.In v45 h46) (And.intro h47 True.intro)))))))))))))) (by kernel_rfl) (li (Sf := impl_areDeep_L1_S a0) (M := Mk (impl_areDeep_L1 a0) (impl_areDeep_L1_k a0) r) (k := [.blk 0, .code (cAt Tryd.f51 [1, 1])]) (Nat.lt_succ_self m1) hK1)
                · have hE : some (Ctl.next (w64 (s1 + 1))) = some c1 := hM
                  have hE := Option.some.inj hE
                  subst hE
                  exact pc R 9999 [.as 10 true, .ix (Thing.enc v10), .new 2, .call false [] (.o (.c (.v (.bool v12)))) [] [], .as 18 false, .as 21 true, .ix (Thing.enc v16), .as 33 false, .call false [] (.o (.c (.v (.bool v19)))) [] [], .as 38 false, .as 41 false, .as 51 false, .as 65 false] [.keep [0, 7, 8, 9] []] (And.intro h9 (And.intro (gi_map Thing.enc h11) (And.intro (impl_within_ok v10.Id 1 9999 v12 h13) (And.intro h14 (And.intro h15 (And.intro (gi_map Thing.enc h17) (And.intro h18 (And.intro (impl_within_ok v10.Own 1 30000 v19 h20) (And.intro h21 (And.intro h22 (And.intro h37 (And.intro h44 True.intro)))))))))))) (by kernel_rfl) (li (Sf := impl_areDeep_L1_S a0) (M := Mk (impl_areDeep_L1 a0) (impl_areDeep_L1_k a0) r) (k := [.blk 0, .code (cAt Tryd.f51 [1, 1])]) (Nat.lt_succ_self m1) hK1)
      · obtain ⟨v48, h49, hM⟩ := bind_some hM
        rcases cond_cases hM with ⟨h50, hM⟩ | ⟨h50, hM⟩
        · have hE : some (Ctl.ret false) = some c1 := hM
          have hE := Option.some.inj hE
          subst hE
          have hE : some false = some r := hK1
          have hE := Option.some.inj hE
          subst hE
          exact pr R 9999 [.as 10 true, .ix (Thing.enc v10), .new 2, .call false [] (.o (.c (.v (.bool v12)))) [] [], .as 18 false, .as 21 false, .call false [] (.o (.c (.v (.bool v48)))) [] [], .as 38 true] [] [] [] (And.intro h9 (And.intro (gi_map Thing.enc h11) (And.intro (impl_within_ok v10.Id 1 9999 v12 h13) (And.intro h14 (And.intro h15 (And.intro (impl_within_ok v10.Own 1 30000 v48 h49) (And.intro h50 True.intro))))))) (by kernel_rfl)
        · rcases cond_cases hM with ⟨h51, hM⟩ | ⟨h51, hM⟩
          · obtain ⟨v52, h53, hM⟩ := bind_some hM
            rcases cond_cases hM with ⟨h54, hM⟩ | ⟨h54, hM⟩
            · have hE : some (Ctl.ret false) = some c1 := hM
              have hE := Option.some.inj hE
              subst hE
              have hE : some false = some r := hK1
              have hE := Option.some.inj hE
              subst hE
              exact pr R 9999 [.as 10 true, .ix (Thing.enc v10), .new 2, .call false [] (.o (.c (.v (.bool v12)))) [] [], .as 18 false, .as 21 false, .call false [] (.o (.c (.v (.bool v48)))) [] [], .as 38 false, .as 41 true, .call false [] (.o (.c (.v (.bool v52)))) [] [], .as 47 true] [] [] [] (And.intro h9 (And.intro (gi_map Thing.enc h11) (And.intro (impl_within_ok v10.Id 1 9999 v12 h13) (And.intro h14 (And.intro h15 (And.intro (impl_within_ok v10.Own 1 30000 v48 h49) (And.intro h50 (And.intro h51 (And.intro (impl_within_ok v10.Room 1 1000000 v52 h53) (And.intro h54 True.intro)))))))))) (by kernel_rfl)
            · rcases cond_cases hM with ⟨h55, hM⟩ | ⟨h55, hM⟩
              · rcases cond_cases hM with ⟨h56, hM⟩ | ⟨h56, hM⟩
                · have hE : some (Ctl.ret false) = some c1 := hM
                  have hE := Option.some.inj hE
                  subst hE
                  have hE : some false = some r := hK1
                  have hE := Option.some.inj hE
                  subst hE
                  exact pr R 9999 [.as 10 true, .ix (Thing.enc v10), .new 2, .call false [] (.o (.c (.v (.bool v12)))) [] [], .as 18 false, .as 21 false, .call false [] (.o (.c (.v (.bool v48)))) [] [], .as 38 false, .as 41 true, .call false [] (.o (.c (.v (.bool v52)))) [] [], .as 47 false, .as 51 true, .as 55 true] [] [] [] (And.intro h9 (And.intro (gi_map Thing.enc h11) (And.intro (impl_within_ok v10.Id 1 9999 v12 h13) (And.intro h14 (And.intro h15 (And.intro (impl_within_ok v10.Own 1 30000 v48 h49) (And.intro h50 (And.intro h51 (And.intro (impl_within_ok v10.Room 1 1000000 v52 h53) (And.intro h54 (And.intro h55 (And.intro h56 True.intro)))))))))))) (by kernel_rfl)
                · rcases cond_cases hM with ⟨h57, hM⟩ | ⟨h57, hM⟩
                  · have hE : some (Ctl.ret false) = some c1 := hM
                    have hE := Option.some.inj hE
                    subst hE
                    have hE : some false = some r := hK1
                    have hE := Option.some.inj hE
                    subst hE
                    exact pr R 9999 [.as 10 true, .ix (Thing.enc v10), .new 2, .call false [] (.o (.c (.v (.bool v12)))) [] [], .as 18 false, .as 21 false, .call false [] (.o (.c (.v (.bool v48)))) [] [], .as 38 false, .as 41 true, .call false [] (.o (.c (.v (.bool v52)))) [] [], .as 47 false, .as 51 true, .as 55 false, .as 61 true] [] [] [] (And.intro h9 (And.intro (gi_map Thing.enc h11) (And.intro (impl_within_ok v10.Id 1 9999 v12 h13) (And.intro h14 (And.intro h15 (And.intro (impl_within_ok v10.Own 1 30000 v48 h49) (And.intro h50 (And.intro h51 (And.intro (impl_within_ok v10.Room 1 1000000 v52 h53) (And.intro h54 (And.intro h55 (And.intro h56 (And.intro h57 True.intro))))))))))))) (by kernel_rfl)
                  · rcases cond_cases hM with ⟨h58, hM⟩ | ⟨h58, hM⟩
                    · obtain ⟨v59, h60, hM⟩ := bind_some hM
                      rcases cond_cases hM with ⟨h61, hM⟩ | ⟨h61, hM⟩
                      · have hE : some (Ctl.ret false) = some c1 := hM
                        have hE := Option.some.inj hE
                        subst hE
                        have hE : some false = some r := hK1
                        have hE := Option.some.inj hE
                        subst hE
                        exact pr R 9999 [.as 10 true, .ix (Thing.enc v10), .new 2, .call false [] (.o (.c (.v (.bool v12)))) [] [], .as 18 false, .as 21 false, .call false [] (.o (.c (.v (.bool v48)))) [] [], .as 38 false, .as 41 true, .call false [] (.o (.c (.v (.bool v52)))) [] [], .as 47 false, .as 51 true, .as 55 false, .as 61 false, .as 65 true, .call false [] (.o (.c (.v (.bool v59)))) [] [], .as 72 true] [] [] [] (And.intro h9 (And.intro (gi_map Thing.enc h11) (And.intro (impl_within_ok v10.Id 1 9999 v12 h13) (And.intro h14 (And.intro h15 (And.intro (impl_within_ok v10.Own 1 30000 v48 h49) (And.intro h50 (And.intro h51 (And.intro (impl_within_ok v10.Room 1 1000000 v52 h53) (And.intro h54 (And.intro h55 (And.intro h56 (And.intro h57 (And.intro h58 (And.intro (impl_isBox_ok a0 v10.In v59 h60) (And.intro h61 True.intro)))))))))))))))) (by kernel_rfl)
                      · have hE : some (Ctl.next (w64 (s1 + 1))) = some c1 := hM
                        have hE := Option.some.inj hE
                        subst hE
                        exact pc R 9999 [.as 10 true, .ix (Thing.enc v10), .new 2, .call false [] (.o (.c (.v (.bool v12)))) [] [], .as 18 false, .as 21 false, .call false [] (.o (.c (.v (.bool v48)))) [] [], .as 38 false, .as 41 true, .call false [] (.o (.c (.v (.bool v52)))) [] [], .as 47 false, .as 51 true, .as 55 false, .as 61 false, .as 65 true, .call false [] (.o (.c (.v (.bool v59)))) [] [], .as 72 false] [.keep [0, 7, 8, 9] []] (And.intro h9 (And.intro (gi_map Thing.enc h11) (And.intro (impl_within_ok v10.Id 1 9999 v12 h13) (And.intro h14 (And.intro h15 (And.intro (impl_within_ok v10.Own 1 30000 v48 h49) (And.intro h50 (And.intro h51 (And.intro (impl_within_ok v10.Room 1 1000000 v52 h53) (And.intro h54 (And.intro h55 (And.intro h56 (And.intro h57 (And.intro h58 (And.intro (impl_isBox_ok a0 v10.In v59 h60) (And.intro h61 True.intro)))))))))))))))) (by kernel_rfl) (li (Sf := impl_areDeep_L1_S a0) (M := Mk (impl_areDeep_L1 a0) (impl_areDeep_L1_k a0) r) (k := [.blk 0, .code (cAt Tryd.f51 [1, 1])]) (Nat.lt_succ_self m1) hK1)
                    · have hE : some (Ctl.next (w64 (s1 + 1))) = some c1 := hM
                      have hE := Option.some.inj hE
                      subst hE
                      exact pc R 9999 [.as 10 true, .ix (Thing.enc v10), .new 2, .call false [] (.o (.c (.v (.bool v12)))) [] [], .as 18 false, .as 21 false, .call false [] (.o (.c (.v (.bool v48)))) [] [], .as 38 false, .as 41 true, .call false [] (.o (.c (.v (.bool v52)))) [] [], .as 47 false, .as 51 true, .as 55 false, .as 61 false, .as 65 false] [.keep [0, 7, 8, 9] []] (And.intro h9 (And.intro (gi_map Thing.enc h11) (And.intro (impl_within_ok v10.Id 1 9999 v12 h13) (And.intro h14 (And.intro h15 (And.intro (impl_within_ok v10.Own 1 30000 v48 h49) (And.intro h50 (And.intro h51 (And.intro (impl_within_ok v10.Room 1 1000000 v52 h53) (And.intro h54 (And.intro h55 (And.intro h56 (And.intro h57 (And.intro h58 True.intro)))))))))))))) (by kernel_rfl) (li (Sf := impl_areDeep_L1_S a0) (M := Mk (impl_areDeep_L1 a0) (impl_areDeep_L1_k a0) r) (k := [.blk 0, .code (cAt Tryd.f51 [1, 1])]) (Nat.lt_succ_self m1) hK1)
              · rcases cond_cases hM with ⟨h62, hM⟩ | ⟨h62, hM⟩
                · obtain ⟨v63, h64, hM⟩ := bind_some hM
                  rcases cond_cases hM with ⟨h65, hM⟩ | ⟨h65, hM⟩
                  · have hE : some (Ctl.ret false) = some c1 := hM
                    have hE := Option.some.inj hE
                    subst hE
                    have hE : some false = some r := hK1
                    have hE := Option.some.inj hE
                    subst hE
                    exact pr R 9999 [.as 10 true, .ix (Thing.enc v10), .new 2, .call false [] (.o (.c (.v (.bool v12)))) [] [], .as 18 false, .as 21 false, .call false [] (.o (.c (.v (.bool v48)))) [] [], .as 38 false, .as 41 true, .call false [] (.o (.c (.v (.bool v52)))) [] [], .as 47 false, .as 51 false, .as 65 true, .call false [] (.o (.c (.v (.bool v63)))) [] [], .as 72 true] [] [] [] (And.intro h9 (And.intro (gi_map Thing.enc h11) (And.intro (impl_within_ok v10.Id 1 9999 v12 h13) (And.intro h14 (And.intro h15 (And.intro (impl_within_ok v10.Own 1 30000 v48 h49) (And.intro h50 (And.intro h51 (And.intro (impl_within_ok v10.Room 1 1000000 v52 h53) (And.intro h54 (And.intro h55 (And.intro h62 (And.intro (impl_isBox_ok a0 v10.In v63 h64) (And.intro h65 True.intro)))))))))))))) (by kernel_rfl)
                  · have hE : some (Ctl.next (w64 (s1 + 1))) = some c1 := hM
                    have hE := Option.some.inj hE
                    subst hE
                    exact pc R 9999 [.as 10 true, .ix (Thing.enc v10), .new 2, .call false [] (.o (.c (.v (.bool v12)))) [] [], .as 18 false, .as 21 false, .call false [] (.o (.c (.v (.bool v48)))) [] [], .as 38 false, .as 41 true, .call false [] (.o (.c (.v (.bool v52)))) [] [], .as 47 false, .as 51 false, .as 65 true, .call false [] (.o (.c (.v (.bool v63)))) [] [], .as 72 false] [.keep [0, 7, 8, 9] []] (And.intro h9 (And.intro (gi_map Thing.enc h11) (And.intro (impl_within_ok v10.Id 1 9999 v12 h13) (And.intro h14 (And.intro h15 (And.intro (impl_within_ok v10.Own 1 30000 v48 h49) (And.intro h50 (And.intro h51 (And.intro (impl_within_ok v10.Room 1 1000000 v52 h53) (And.intro h54 (And.intro h55 (And.intro h62 (And.intro (impl_isBox_ok a0 v10.In v63 h64) (And.intro h65 True.intro)))))))))))))) (by kernel_rfl) (li (Sf := impl_areDeep_L1_S a0) (M := Mk (impl_areDeep_L1 a0) (impl_areDeep_L1_k a0) r) (k := [.blk 0, .code (cAt Tryd.f51 [1, 1])]) (Nat.lt_succ_self m1) hK1)
                · have hE : some (Ctl.next (w64 (s1 + 1))) = some c1 := hM
                  have hE := Option.some.inj hE
                  subst hE
                  exact pc R 9999 [.as 10 true, .ix (Thing.enc v10), .new 2, .call false [] (.o (.c (.v (.bool v12)))) [] [], .as 18 false, .as 21 false, .call false [] (.o (.c (.v (.bool v48)))) [] [], .as 38 false, .as 41 true, .call false [] (.o (.c (.v (.bool v52)))) [] [], .as 47 false, .as 51 false, .as 65 false] [.keep [0, 7, 8, 9] []] (And.intro h9 (And.intro (gi_map Thing.enc h11) (And.intro (impl_within_ok v10.Id 1 9999 v12 h13) (And.intro h14 (And.intro h15 (And.intro (impl_within_ok v10.Own 1 30000 v48 h49) (And.intro h50 (And.intro h51 (And.intro (impl_within_ok v10.Room 1 1000000 v52 h53) (And.intro h54 (And.intro h55 (And.intro h62 True.intro)))))))))))) (by kernel_rfl) (li (Sf := impl_areDeep_L1_S a0) (M := Mk (impl_areDeep_L1 a0) (impl_areDeep_L1_k a0) r) (k := [.blk 0, .code (cAt Tryd.f51 [1, 1])]) (Nat.lt_succ_self m1) hK1)
          · rcases cond_cases hM with ⟨h66, hM⟩ | ⟨h66, hM⟩
            · rcases cond_cases hM with ⟨h67, hM⟩ | ⟨h67, hM⟩
              · have hE : some (Ctl.ret false) = some c1 := hM
                have hE := Option.some.inj hE
                subst hE
                have hE : some false = some r := hK1
                have hE := Option.some.inj hE
                subst hE
                exact pr R 9999 [.as 10 true, .ix (Thing.enc v10), .new 2, .call false [] (.o (.c (.v (.bool v12)))) [] [], .as 18 false, .as 21 false, .call false [] (.o (.c (.v (.bool v48)))) [] [], .as 38 false, .as 41 false, .as 51 true, .as 55 true] [] [] [] (And.intro h9 (And.intro (gi_map Thing.enc h11) (And.intro (impl_within_ok v10.Id 1 9999 v12 h13) (And.intro h14 (And.intro h15 (And.intro (impl_within_ok v10.Own 1 30000 v48 h49) (And.intro h50 (And.intro h51 (And.intro h66 (And.intro h67 True.intro)))))))))) (by kernel_rfl)
              · rcases cond_cases hM with ⟨h68, hM⟩ | ⟨h68, hM⟩
                · have hE : some (Ctl.ret false) = some c1 := hM
                  have hE := Option.some.inj hE
                  subst hE
                  have hE : some false = some r := hK1
                  have hE := Option.some.inj hE
                  subst hE
                  exact pr R 9999 [.as 10 true, .ix (Thing.enc v10), .new 2, .call false [] (.o (.c (.v (.bool v12)))) [] [], .as 18 false, .as 21 false, .call false [] (.o (.c (.v (.bool v48)))) [] [], .as 38 false, .as 41 false, .as 51 true, .as 55 false, .as 61 true] [] [] [] (And.intro h9 (And.intro (gi_map Thing.enc h11) (And.intro (impl_within_ok v10.Id 1 9999 v12 h13) (And.intro h14 (And.intro h15 (And.intro (impl_within_ok v10.Own 1 30000 v48 h49) (And.intro h50 (And.intro h51 (And.intro h66 (And.intro h67 (And.intro h68 True.intro))))))))))) (by kernel_rfl)
                · rcases cond_cases hM with ⟨h69, hM⟩ | ⟨h69, hM⟩
                  · obtain ⟨v70, h71, hM⟩ := bind_some hM
                    rcases cond_cases hM with ⟨h72, hM⟩ | ⟨h72, hM⟩
                    · have hE : some (Ctl.ret false) = some c1 := hM
                      have hE := Option.some.inj hE
                      subst hE
                      have hE : some false = some r := hK1
                      have hE := Option.some.inj hE
                      subst hE
                      exact pr R 9999 [.as 10 true, .ix (Thing.enc v10), .new 2, .call false [] (.o (.c (.v (.bool v12)))) [] [], .as 18 false, .as 21 false, .call false [] (.o (.c (.v (.bool v48)))) [] [], .as 38 false, .as 41 false, .as 51 true, .as 55 false, .as 61 false, .as 65 true, .call false [] (.o (.c (.v (.bool v70)))) [] [], .as 72 true] [] [] [] (And.intro h9 (And.intro (gi_map Thing.enc h11) (And.intro (impl_within_ok v10.Id 1 9999 v12 h13) (And.intro h14 (And.intro h15 (And.intro (impl_within_ok v10.Own 1 30000 v48 h49) (And.intro h50 (And.intro h51 (And.intro h66 (And.intro h67 (And.intro h68 (And.intro h69 (And.intro (impl_isBox_ok a0 v10.In v70 h71) (And.intro h72 True.intro)))))))))))))) (by kernel_rfl)
                    · have hE : some (Ctl.next (w64 (s1 + 1))) = some c1 := hM
                      have hE := Option.some.inj hE
                      subst hE
                      exact pc R 9999 [.as 10 true, .ix (Thing.enc v10), .new 2, .call false [] (.o (.c (.v (.bool v12)))) [] [], .as 18 false, .as 21 false, .call false [] (.o (.c (.v (.bool v48)))) [] [], .as 38 false, .as 41 false, .as 51 true, .as 55 false, .as 61 false, .as 65 true, .call false [] (.o (.c (.v (.bool v70)))) [] [], .as 72 false] [.keep [0, 7, 8, 9] []] (And.intro h9 (And.intro (gi_map Thing.enc h11) (And.intro (impl_within_ok v10.Id 1 9999 v12 h13) (And.intro h14 (And.intro h15 (And.intro (impl_within_ok v10.Own 1 30000 v48 h49) (And.intro h50 (And.intro h51 (And.intro h66 (And.intro h67 (And.intro h68 (And.intro h69 (And.intro (impl_isBox_ok a0 v10.In v70 h71) (And.intro h72 True.intro)))))))))))))) (by kernel_rfl) (li (Sf := impl_areDeep_L1_S a0) (M := Mk (impl_areDeep_L1 a0) (impl_areDeep_L1_k a0) r) (k := [.blk 0, .code (cAt Tryd.f51 [1, 1])]) (Nat.lt_succ_self m1) hK1)
                  · have hE : some (Ctl.next (w64 (s1 + 1))) = some c1 := hM
                    have hE := Option.some.inj hE
                    subst hE
                    exact pc R 9999 [.as 10 true, .ix (Thing.enc v10), .new 2, .call false [] (.o (.c (.v (.bool v12)))) [] [], .as 18 false, .as 21 false, .call false [] (.o (.c (.v (.bool v48)))) [] [], .as 38 false, .as 41 false, .as 51 true, .as 55 false, .as 61 false, .as 65 false] [.keep [0, 7, 8, 9] []] (And.intro h9 (And.intro (gi_map Thing.enc h11) (And.intro (impl_within_ok v10.Id 1 9999 v12 h13) (And.intro h14 (And.intro h15 (And.intro (impl_within_ok v10.Own 1 30000 v48 h49) (And.intro h50 (And.intro h51 (And.intro h66 (And.intro h67 (And.intro h68 (And.intro h69 True.intro)))))))))))) (by kernel_rfl) (li (Sf := impl_areDeep_L1_S a0) (M := Mk (impl_areDeep_L1 a0) (impl_areDeep_L1_k a0) r) (k := [.blk 0, .code (cAt Tryd.f51 [1, 1])]) (Nat.lt_succ_self m1) hK1)
            · rcases cond_cases hM with ⟨h73, hM⟩ | ⟨h73, hM⟩
              · obtain ⟨v74, h75, hM⟩ := bind_some hM
                rcases cond_cases hM with ⟨h76, hM⟩ | ⟨h76, hM⟩
                · have hE : some (Ctl.ret false) = some c1 := hM
                  have hE := Option.some.inj hE
                  subst hE
                  have hE : some false = some r := hK1
                  have hE := Option.some.inj hE
                  subst hE
                  exact pr R 9999 [.as 10 true, .ix (Thing.enc v10), .new 2, .call false [] (.o (.c (.v (.bool v12)))) [] [], .as 18 false, .as 21 false, .call false [] (.o (.c (.v (.bool v48)))) [] [], .as 38 false, .as 41 false, .as 51 false, .as 65 true, .call false [] (.o (.c (.v (.bool v74)))) [] [], .as 72 true] [] [] [] (And.intro h9 (And.intro (gi_map Thing.enc h11) (And.intro (impl_within_ok v10.Id 1 9999 v12 h13) (And.intro h14 (And.intro h15 (And.intro (impl_within_ok v10.Own 1 30000 v48 h49) (And.intro h50 (And.intro h51 (And.intro h66 (And.intro h73 (And.intro (impl_isBox_ok a0 v10.In v74 h75) (And.intro h76 True.intro)))))))))))) (by kernel_rfl)
                · have hE : some (Ctl.next (w64 (s1 + 1))) = some c1 := hM
                  have hE := Option.some.inj hE
                  subst hE
                  exact pc R 9999 [.as 10 true, .ix (Thing.enc v10), .new 2, .call false [] (.o (.c (.v (.bool v12)))) [] [], .as 18 false, .as 21 false, .call false [] (.o (.c (.v (.bool v48)))) [] [], .as 38 false, .as 41 false, .as 51 false, .as 65 true, .call false [] (.o (.c (.v (.bool v74)))) [] [], .as 72 false] [.keep [0, 7, 8, 9] []] (And.intro h9 (And.intro (gi_map Thing.enc h11) (And.intro (impl_within_ok v10.Id 1 9999 v12 h13) (And.intro h14 (And.intro h15 (And.intro (impl_within_ok v10.Own 1 30000 v48 h49) (And.intro h50 (And.intro h51 (And.intro h66 (And.intro h73 (And.intro (impl_isBox_ok a0 v10.In v74 h75) (And.intro h76 True.intro)))))))))))) (by kernel_rfl) (li (Sf := impl_areDeep_L1_S a0) (M := Mk (impl_areDeep_L1 a0) (impl_areDeep_L1_k a0) r) (k := [.blk 0, .code (cAt Tryd.f51 [1, 1])]) (Nat.lt_succ_self m1) hK1)
              · have hE : some (Ctl.next (w64 (s1 + 1))) = some c1 := hM
                have hE := Option.some.inj hE
                subst hE
                exact pc R 9999 [.as 10 true, .ix (Thing.enc v10), .new 2, .call false [] (.o (.c (.v (.bool v12)))) [] [], .as 18 false, .as 21 false, .call false [] (.o (.c (.v (.bool v48)))) [] [], .as 38 false, .as 41 false, .as 51 false, .as 65 false] [.keep [0, 7, 8, 9] []] (And.intro h9 (And.intro (gi_map Thing.enc h11) (And.intro (impl_within_ok v10.Id 1 9999 v12 h13) (And.intro h14 (And.intro h15 (And.intro (impl_within_ok v10.Own 1 30000 v48 h49) (And.intro h50 (And.intro h51 (And.intro h66 (And.intro h73 True.intro)))))))))) (by kernel_rfl) (li (Sf := impl_areDeep_L1_S a0) (M := Mk (impl_areDeep_L1 a0) (impl_areDeep_L1_k a0) r) (k := [.blk 0, .code (cAt Tryd.f51 [1, 1])]) (Nat.lt_succ_self m1) hK1)
  · have hE : some (Ctl.brk ()) = some c1 := hM
    have hE := Option.some.inj hE
    subst hE
    exact pc R 5 [.as 10 false] [.keep [0] []] (And.intro h9 True.intro) (by kernel_rfl) (K1 () hK1)

-- loop.example/g03014/impl.gross
def impl_gross_L1_b (self : (List Thing) → Int → Option Int) (a0 : (List Thing)) (a1 : Int) (s3 : Int) (s4 : Int) : Option (Ctl (Int × Int) Int Int) :=
  bif (decide (s4 < (a0.length : Int))) then
  (gi a0 s4).bind fun v7 =>
  (gi a0 a1).bind fun v9 =>
  bif (v7.In == v9.Id) then
  (self a0 s4).bind fun v12 =>
  some (.next (w64 (s3 + v12), w64 (s4 + 1)))
  else
  some (.next (s3, w64 (s4 + 1)))
  else
  some (.brk s3)
def impl_gross_L1 (self : (List Thing) → Int → Option Int) (a0 : (List Thing)) (a1 : Int) (s : Int × Int) : Option (Ctl (Int × Int) Int Int) := impl_gross_L1_b self a0 a1 s.1 s.2
def impl_gross_L1_s (a0 : (List Thing)) (a1 : Int) (s3 : Int) (s4 : Int) : St := ⟨[(0, .o (.c (.rs 6 (a0.map Thing.enc)))), (1, .o (.c (.v (.int .i64 a1)))), (5, .o (.c (.v (.int .i64 s3)))), (13, .o (.c (.rs 6 (a0.map Thing.enc)))), (14, .o (.c (.v (.int .i64 (a0.length : Int))))), (15, .o (.c (.v (.int .i64 s4))))], []⟩
def impl_gross_L1_S (a0 : (List Thing)) (a1 : Int) (s : Int × Int) : St := impl_gross_L1_s a0 a1 s.1 s.2
def impl_gross_L1_a (s5 : Int) : Option Int :=
  some s5
def impl_gross_L1_k (x : (Int) ⊕ (Int)) : Option Int := match x with
  | .inl t => impl_gross_L1_a t
  | .inr y => some y
def impl_gross_F (self : (List Thing) → Int → Option Int) (a0 : (List Thing)) (a1 : Int) : Option Int :=
  (gi a0 a1).bind fun v1 =>
  (loopM (impl_gross_L1 self a0 a1) big (v1.Own, 0)).bind (impl_gross_L1_k)
def impl_gross_n : Nat → (List Thing) → Int → Option Int
  | 0, _, _ => none
  | n + 1, a0, a1 => impl_gross_F (impl_gross_n n) a0 a1
def impl_gross (a0 : (List Thing)) (a1 : Int) : Option Int := impl_gross_n big a0 a1
theorem impl_gross_step (self : (List Thing) → Int → Option Int) (ih : ∀ (a0 : (List Thing)) (a1 : Int) (r : Int), self a0 a1 = some r →
    Con Tryd.prog 52 [.c (.rs 6 (a0.map Thing.enc)), .c (.v (.int .i64 a1))] [] (.o (.c (.v (.int .i64 r)))) [] [])
     (a0 : (List Thing)) (a1 : Int) (r : Int) (hM : impl_gross_F self a0 a1 = some r) :
    Con Tryd.prog 52 [.c (.rs 6 (a0.map Thing.enc)), .c (.v (.int .i64 a1))] [] (.o (.c (.v (.int .i64 r)))) [] [] := by
  unfold impl_gross_F at hM
  refine cn (N := 35) (pids := []) Tryd_mixed Tryd.func52 (by kernel_rfl) (by kernel_rfl) (by kernel_rfl) rfl fun ρ g w R => ?_
  obtain ⟨v1, h2, hM⟩ := bind_some hM
  have K1 : ∀ (s5 : Int), impl_gross_L1_a s5 = some r → Gr R [.code (cAt Tryd.f52 [1, 1, 1])] (⟨[(5, .o (.c (.v (.int .i64 s5))))], []⟩) := by
    intro s5 hM
    unfold impl_gross_L1_a at hM
    have hE : some s5 = some r := hM
    have hE := Option.some.inj hE
    subst hE
    exact pr R 9999 [] [] [] [] True.intro (by kernel_rfl)
  refine pc R 9999 [.ix (Thing.enc v1), .ln (a0.length)] [.keep [0, 1, 5, 13, 14, 15] []] (k' := [.code (.loop (cAt Tryd.f52 [1, 1, 0, 1, 0, 0])), .blk 0, .code (cAt Tryd.f52 [1, 1, 1])]) (S' := impl_gross_L1_S a0 a1 (v1.Own, 0)) (And.intro (gi_map Thing.enc h2) (And.intro (lenm Thing.enc a0) True.intro)) (by kernel_rfl) ?_
  refine lq (impl_gross_L1_S a0 a1) (body := impl_gross_L1 self a0 a1) (k := impl_gross_L1_k) hM fun m1 s c1 hM hK1 => ?_
  obtain ⟨s3, s4⟩ := s
  have hM : impl_gross_L1_b self a0 a1 s3 s4 = some c1 := hM
  unfold impl_gross_L1_b at hM
  rcases cond_cases hM with ⟨h6, hM⟩ | ⟨h6, hM⟩
  · obtain ⟨v7, h8, hM⟩ := bind_some hM
    obtain ⟨v9, h10, hM⟩ := bind_some hM
    rcases cond_cases hM with ⟨h11, hM⟩ | ⟨h11, hM⟩
    · obtain ⟨v12, h13, hM⟩ := bind_some hM
      have hE : some (Ctl.next (w64 (s3 + v12), w64 (s4 + 1))) = some c1 := hM
      have hE := Option.some.inj hE
      subst hE
      exact pc R 9999 [.as 16 true, .ix (Thing.enc v7), .new 0, .ix (Thing.enc v9), .as 27 true, .call false [] (.o (.c (.v (.int .i64 v12)))) [] []] [.keep [0, 1, 5, 13, 14, 15] []] (And.intro h6 (And.intro (gi_map Thing.enc h8) (And.intro (gi_map Thing.enc h10) (And.intro h11 (And.intro (ih a0 s4 v12 h13) True.intro))))) (by kernel_rfl) (li (Sf := impl_gross_L1_S a0 a1) (M := Mk (impl_gross_L1 self a0 a1) (impl_gross_L1_k) r) (k := [.blk 0, .code (cAt Tryd.f52 [1, 1, 1])]) (Nat.lt_succ_self m1) hK1)
    · have hE : some (Ctl.next (s3, w64 (s4 + 1))) = some c1 := hM
      have hE := Option.some.inj hE
      subst hE
      exact pc R 9999 [.as 16 true, .ix (Thing.enc v7), .new 0, .ix (Thing.enc v9), .as 27 false] [.keep [0, 1, 5, 13, 14, 15] []] (And.intro h6 (And.intro (gi_map Thing.enc h8) (And.intro (gi_map Thing.enc h10) (And.intro h11 True.intro)))) (by kernel_rfl) (li (Sf := impl_gross_L1_S a0 a1) (M := Mk (impl_gross_L1 self a0 a1) (impl_gross_L1_k) r) (k := [.blk 0, .code (cAt Tryd.f52 [1, 1, 1])]) (Nat.lt_succ_self m1) hK1)
  · have hE : some (Ctl.brk s3) = some c1 := hM
    have hE := Option.some.inj hE
    subst hE
    exact pc R 5 [.as 16 false] [.keep [5] []] (And.intro h6 True.intro) (by kernel_rfl) (K1 s3 hK1)
theorem impl_gross_nok : ∀ (n : Nat) (a0 : (List Thing)) (a1 : Int) (r : Int), impl_gross_n n a0 a1 = some r →
    Con Tryd.prog 52 [.c (.rs 6 (a0.map Thing.enc)), .c (.v (.int .i64 a1))] [] (.o (.c (.v (.int .i64 r)))) [] []
  | 0, _, _, _, h => by cases h
  | n + 1, a0, a1, r, h => impl_gross_step (impl_gross_n n) (impl_gross_nok n) a0 a1 r h
theorem impl_gross_ok (a0 : (List Thing)) (a1 : Int) (r : Int) (h : impl_gross a0 a1 = some r) :
    Con Tryd.prog 52 [.c (.rs 6 (a0.map Thing.enc)), .c (.v (.int .i64 a1))] [] (.o (.c (.v (.int .i64 r)))) [] [] := impl_gross_nok big a0 a1 r h

-- loop.example/g03014/impl.AreThings
def impl_AreThings_L1_b (a0 : (List Thing)) (s5 : Int) : Option (Ctl Int Unit Bool) :=
  bif (decide (s5 < (a0.length : Int))) then
  (gi a0 s5).bind fun v7 =>
  bif v7.Box then
  (impl_gross a0 s5).bind fun v10 =>
  bif (decide ((w64 (v10 - v7.Own)) > v7.Room)) then
  some (.ret false)
  else
  some (.next (w64 (s5 + 1)))
  else
  some (.next (w64 (s5 + 1)))
  else
  some (.brk ())
def impl_AreThings_L1 (a0 : (List Thing)) (s : Int) : Option (Ctl Int Unit Bool) := impl_AreThings_L1_b a0 s
def impl_AreThings_L1_s (a0 : (List Thing)) (s5 : Int) : St := ⟨[(0, .o (.c (.rs 6 (a0.map Thing.enc)))), (13, .o (.c (.rs 6 (a0.map Thing.enc)))), (14, .o (.c (.v (.int .i64 (a0.length : Int))))), (15, .o (.c (.v (.int .i64 s5))))], []⟩
def impl_AreThings_L1_S (a0 : (List Thing)) (s : Int) : St := impl_AreThings_L1_s a0 s
def impl_AreThings_L1_a : Option Bool :=
  some true
def impl_AreThings_L1_k (x : (Unit) ⊕ (Bool)) : Option Bool := match x with
  | .inl t => impl_AreThings_L1_a
  | .inr y => some y
def impl_AreThings (a0 : (List Thing)) : Option Bool :=
  bif (decide ((a0.length : Int) > 40)) then
  some false
  else
  (impl_areDeep a0).bind fun v2 =>
  bif (!v2) then
  some false
  else
  (loopM (impl_AreThings_L1 a0) big 0).bind (impl_AreThings_L1_k)
theorem impl_AreThings_ok (a0 : (List Thing)) (r : Bool) (hM : impl_AreThings a0 = some r) :
    Con Tryd.prog 39 [.c (.rs 6 (a0.map Thing.enc))] [] (.o (.c (.v (.bool r)))) [] [] := by
  unfold impl_AreThings at hM
  refine cn (N := 34) (pids := []) Tryd_mixed Tryd.func39 (by kernel_rfl) (by kernel_rfl) (by kernel_rfl) rfl fun ρ g w R => ?_
  rcases cond_cases hM with ⟨h1, hM⟩ | ⟨h1, hM⟩
  · have hE : some false = some r := hM
    have hE := Option.some.inj hE
    subst hE
    exact pr R 9999 [.ln (a0.length), .as 8 true] [] [] [] (And.intro (lenm Thing.enc a0) (And.intro h1 True.intro)) (by kernel_rfl)
  · obtain ⟨v2, h3, hM⟩ := bind_some hM
    rcases cond_cases hM with ⟨h4, hM⟩ | ⟨h4, hM⟩
    · have hE : some false = some r := hM
      have hE := Option.some.inj hE
      subst hE
      exact pr R 9999 [.ln (a0.length), .as 8 false, .call false [] (.o (.c (.v (.bool v2)))) [] [], .as 12 true] [] [] [] (And.intro (lenm Thing.enc a0) (And.intro h1 (And.intro (impl_areDeep_ok a0 v2 h3) (And.intro h4 True.intro)))) (by kernel_rfl)
    · have K1 : ∀ (_ : Unit), impl_AreThings_L1_a = some r → Gr R [.code (cAt Tryd.f39 [1, 1, 1])] (⟨[], []⟩) := by
        intro _ hM
        unfold impl_AreThings_L1_a at hM
        have hE : some true = some r := hM
        have hE := Option.some.inj hE
        subst hE
        exact pr R 9999 [] [] [] [] True.intro (by kernel_rfl)
      refine pc R 9999 [.ln (a0.length), .as 8 false, .call false [] (.o (.c (.v (.bool v2)))) [] [], .as 12 false, .ln (a0.length)] [.keep [0, 13, 14, 15] []] (k' := [.code (.loop (cAt Tryd.f39 [1, 1, 0, 1, 0, 0])), .blk 0, .code (cAt Tryd.f39 [1, 1, 1])]) (S' := impl_AreThings_L1_S a0 0) (And.intro (lenm Thing.enc a0) (And.intro h1 (And.intro (impl_areDeep_ok a0 v2 h3) (And.intro h4 (And.intro (lenm Thing.enc a0) True.intro))))) (by kernel_rfl) ?_
      refine lq (impl_AreThings_L1_S a0) (body := impl_AreThings_L1 a0) (k := impl_AreThings_L1_k) hM fun m1 s c1 hM hK1 => ?_
      obtain ⟨s5, hs⟩ : ∃ z, z = s := ⟨_, rfl⟩
      subst hs
      have hM : impl_AreThings_L1_b a0 s5 = some c1 := hM
      unfold impl_AreThings_L1_b at hM
      rcases cond_cases hM with ⟨h6, hM⟩ | ⟨h6, hM⟩
      · obtain ⟨v7, h8, hM⟩ := bind_some hM
        rcases cond_cases hM with ⟨h9, hM⟩ | ⟨h9, hM⟩
        · obtain ⟨v10, h11, hM⟩ := bind_some hM
          rcases cond_cases hM with ⟨h12, hM⟩ | ⟨h12, hM⟩
          · have hE : some (Ctl.ret false) = some c1 := hM
            have hE := Option.some.inj hE
            subst hE
            have hE : some false = some r := hK1
            have hE := Option.some.inj hE
            subst hE
            exact pr R 9999 [.as 16 true, .ix (Thing.enc v7), .new 0, .as 22 true, .call false [] (.o (.c (.v (.int .i64 v10)))) [] [], .as 32 true] [] [] [] (And.intro h6 (And.intro (gi_map Thing.enc h8) (And.intro h9 (And.intro (impl_gross_ok a0 s5 v10 h11) (And.intro h12 True.intro))))) (by kernel_rfl)
          · have hE : some (Ctl.next (w64 (s5 + 1))) = some c1 := hM
            have hE := Option.some.inj hE
            subst hE
            exact pc R 9999 [.as 16 true, .ix (Thing.enc v7), .new 0, .as 22 true, .call false [] (.o (.c (.v (.int .i64 v10)))) [] [], .as 32 false] [.keep [0, 13, 14, 15] []] (And.intro h6 (And.intro (gi_map Thing.enc h8) (And.intro h9 (And.intro (impl_gross_ok a0 s5 v10 h11) (And.intro h12 True.intro))))) (by kernel_rfl) (li (Sf := impl_AreThings_L1_S a0) (M := Mk (impl_AreThings_L1 a0) (impl_AreThings_L1_k) r) (k := [.blk 0, .code (cAt Tryd.f39 [1, 1, 1])]) (Nat.lt_succ_self m1) hK1)
        · have hE : some (Ctl.next (w64 (s5 + 1))) = some c1 := hM
          have hE := Option.some.inj hE
          subst hE
          exact pc R 9999 [.as 16 true, .ix (Thing.enc v7), .new 0, .as 22 false] [.keep [0, 13, 14, 15] []] (And.intro h6 (And.intro (gi_map Thing.enc h8) (And.intro h9 True.intro))) (by kernel_rfl) (li (Sf := impl_AreThings_L1_S a0) (M := Mk (impl_AreThings_L1 a0) (impl_AreThings_L1_k) r) (k := [.blk 0, .code (cAt Tryd.f39 [1, 1, 1])]) (Nat.lt_succ_self m1) hK1)
      · have hE : some (Ctl.brk ()) = some c1 := hM
        have hE := Option.some.inj hE
        subst hE
        exact pc R 5 [.as 16 false] [.keep [] []] (And.intro h6 True.intro) (by kernel_rfl) (K1 () hK1)

-- loop.example/g03014/impl.isThing
def impl_isThing (a0 : (List Thing)) (a1 : Int) : Option Bool :=
  (impl_AreThings a0).bind fun v1 =>
  bif v1 then
  (impl_FindThing a0 a1).bind fun v4 =>
  some (decide (v4 ≥ 0))
  else
  some false
theorem impl_isThing_ok (a0 : (List Thing)) (a1 : Int) (r : Bool) (hM : impl_isThing a0 a1 = some r) :
    Con Tryd.prog 21 [.c (.rs 6 (a0.map Thing.enc)), .c (.v (.int .i64 a1))] [] (.o (.c (.v (.bool r)))) [] [] := by
  unfold impl_isThing at hM
  refine cn (N := 13) (pids := []) Tryd_mixed Tryd.func21 (by kernel_rfl) (by kernel_rfl) (by kernel_rfl) rfl fun ρ g w R => ?_
  obtain ⟨v1, h2, hM⟩ := bind_some hM
  rcases cond_cases hM with ⟨h3, hM⟩ | ⟨h3, hM⟩
  · obtain ⟨v4, h5, hM⟩ := bind_some hM
    have hE : some (decide (v4 ≥ 0)) = some r := hM
    have hE := Option.some.inj hE
    subst hE
    exact pr R 9999 [.call false [] (.o (.c (.v (.bool v1)))) [] [], .as 7 true, .call false [] (.o (.c (.v (.int .i64 v4)))) [] []] [] [] [] (And.intro (impl_AreThings_ok a0 v1 h2) (And.intro h3 (And.intro (impl_FindThing_ok a0 a1 v4 h5) True.intro))) (by kernel_rfl)
  · have hE : some false = some r := hM
    have hE := Option.some.inj hE
    subst hE
    exact pr R 9999 [.call false [] (.o (.c (.v (.bool v1)))) [] [], .as 7 false] [] [] [] (And.intro (impl_AreThings_ok a0 v1 h2) (And.intro h3 True.intro)) (by kernel_rfl)

-- loop.example/g03014/impl.FormatInt
def impl_FormatInt (a0 : Int) : Option ByteArray :=
  (strconv_Itoa a0).bind fun v1 =>
  some v1
theorem impl_FormatInt_ok (a0 : Int) (r : ByteArray) (hM : impl_FormatInt a0 = some r) :
    Con Tryd.prog 22 [.c (.v (.int .i64 a0))] [] (.o (.c (.v (.string r)))) [] [] := by
  unfold impl_FormatInt at hM
  refine cn (N := 5) (pids := []) Tryd_mixed Tryd.func22 (by kernel_rfl) (by kernel_rfl) (by kernel_rfl) rfl fun ρ g w R => ?_
  obtain ⟨v1, h2, hM⟩ := bind_some hM
  have hE : some v1 = some r := hM
  have hE := Option.some.inj hE
  subst hE
  exact pr R 9999 [.call false [] (.o (.c (.v (.string v1)))) [] []] [] [] [] (And.intro (strconv_Itoa_ok a0 v1 h2) True.intro) (by kernel_rfl)

-- loop.example/g03014/impl.InsideOf
def impl_InsideOf_L1_b (a0 : (List Thing)) (a1 : Int) (s4 : (List Int)) (s5 : Int) : Option (Ctl ((List Int) × Int) (List Int) (List Int)) :=
  bif (decide (s5 < (a0.length : Int))) then
  (gi a0 s5).bind fun v8 =>
  bif (v8.In == a1) then
  (ap 8 s4 ([v8.Id] : List Int)).bind fun v11 =>
  some (.next (v11, w64 (s5 + 1)))
  else
  some (.next (s4, w64 (s5 + 1)))
  else
  some (.brk s4)
def impl_InsideOf_L1 (a0 : (List Thing)) (a1 : Int) (s : (List Int) × Int) : Option (Ctl ((List Int) × Int) (List Int) (List Int)) := impl_InsideOf_L1_b a0 a1 s.1 s.2
def impl_InsideOf_L1_s (a0 : (List Thing)) (a1 : Int) (s4 : (List Int)) (s5 : Int) : St := ⟨[(1, .o (.c (.v (.int .i64 a1)))), (5, .o (.c (.sl 0))), (14, .o (.c (.rs 6 (a0.map Thing.enc)))), (15, .o (.c (.v (.int .i64 (a0.length : Int))))), (16, .o (.c (.v (.int .i64 s5))))], [(0, .row 3 1 (s4.map encI))]⟩
def impl_InsideOf_L1_S (a0 : (List Thing)) (a1 : Int) (s : (List Int) × Int) : St := impl_InsideOf_L1_s a0 a1 s.1 s.2
def impl_InsideOf_L1_a (s6 : (List Int)) : Option (List Int) :=
  some s6
def impl_InsideOf_L1_k (x : ((List Int)) ⊕ ((List Int))) : Option (List Int) := match x with
  | .inl t => impl_InsideOf_L1_a t
  | .inr y => some y
def impl_InsideOf (a0 : (List Thing)) (a1 : Int) : Option (List Int) :=
  (impl_isThing a0 a1).bind fun v1 =>
  bif (!v1) then
  some ([] : List Int)
  else
  (loopM (impl_InsideOf_L1 a0 a1) big (([] : List Int), 0)).bind (impl_InsideOf_L1_k)
theorem impl_InsideOf_ok (a0 : (List Thing)) (a1 : Int) (r : (List Int)) (hM : impl_InsideOf a0 a1 = some r) :
    Con Tryd.prog 24 [.c (.rs 6 (a0.map Thing.enc)), .c (.v (.int .i64 a1))] [] (.o (.c (.sl 1000))) [] [(1000, .row 3 1 (r.map encI))] := by
  unfold impl_InsideOf at hM
  refine cn (N := 31) (pids := []) Tryd_mixed Tryd.func24 (by kernel_rfl) (by kernel_rfl) (by kernel_rfl) rfl fun ρ g w R => ?_
  obtain ⟨v1, h2, hM⟩ := bind_some hM
  rcases cond_cases hM with ⟨h3, hM⟩ | ⟨h3, hM⟩
  · have hE : some ([] : List Int) = some r := hM
    have hE := Option.some.inj hE
    subst hE
    exact pr R 9999 [.new 0, .call false [] (.o (.c (.v (.bool v1)))) [] [], .as 12 true] [.sw 0 1000] [] [1000] (And.intro (impl_isThing_ok a0 a1 v1 h2) (And.intro h3 True.intro)) (by kernel_rfl)
  · have K1 : ∀ (s6 : (List Int)), impl_InsideOf_L1_a s6 = some r → Gr R [.code (cAt Tryd.f24 [1, 1, 1, 1])] (⟨[(5, .o (.c (.sl 0)))], [(0, .row 3 1 (s6.map encI))]⟩) := by
      intro s6 hM
      unfold impl_InsideOf_L1_a at hM
      have hE : some s6 = some r := hM
      have hE := Option.some.inj hE
      subst hE
      exact pr R 9999 [] [.sw 0 1000] [] [1000] True.intro (by kernel_rfl)
    refine pc R 9999 [.new 0, .call false [] (.o (.c (.v (.bool v1)))) [] [], .as 12 false, .ln (a0.length)] [.keep [1, 5, 14, 15, 16] [0]] (k' := [.code (.loop (cAt Tryd.f24 [1, 1, 1, 0, 1, 0, 0])), .blk 0, .code (cAt Tryd.f24 [1, 1, 1, 1])]) (S' := impl_InsideOf_L1_S a0 a1 (([] : List Int), 0)) (And.intro (impl_isThing_ok a0 a1 v1 h2) (And.intro h3 (And.intro (lenm Thing.enc a0) True.intro))) (by kernel_rfl) ?_
    refine lq (impl_InsideOf_L1_S a0 a1) (body := impl_InsideOf_L1 a0 a1) (k := impl_InsideOf_L1_k) hM fun m1 s c1 hM hK1 => ?_
    obtain ⟨s4, s5⟩ := s
    have hM : impl_InsideOf_L1_b a0 a1 s4 s5 = some c1 := hM
    unfold impl_InsideOf_L1_b at hM
    rcases cond_cases hM with ⟨h7, hM⟩ | ⟨h7, hM⟩
    · obtain ⟨v8, h9, hM⟩ := bind_some hM
      rcases cond_cases hM with ⟨h10, hM⟩ | ⟨h10, hM⟩
      · obtain ⟨v11, h12, hM⟩ := bind_some hM
        have hE : some (Ctl.next (v11, w64 (s5 + 1))) = some c1 := hM
        have hE := Option.some.inj hE
        subst hE
        exact pc R 9999 [.as 17 true, .ix (Thing.enc v8), .new 1, .as 23 true, .new 2, .new 3, .nm (v11.map encI)] [.sw 3 0, .keep [1, 5, 14, 15, 16] [0]] (And.intro h7 (And.intro (gi_map Thing.enc h9) (And.intro h10 (And.intro (ap_ok encI h12) True.intro)))) (by kernel_rfl) (li (Sf := impl_InsideOf_L1_S a0 a1) (M := Mk (impl_InsideOf_L1 a0 a1) (impl_InsideOf_L1_k) r) (k := [.blk 0, .code (cAt Tryd.f24 [1, 1, 1, 1])]) (Nat.lt_succ_self m1) hK1)
      · have hE : some (Ctl.next (s4, w64 (s5 + 1))) = some c1 := hM
        have hE := Option.some.inj hE
        subst hE
        exact pc R 9999 [.as 17 true, .ix (Thing.enc v8), .new 1, .as 23 false] [.keep [1, 5, 14, 15, 16] [0]] (And.intro h7 (And.intro (gi_map Thing.enc h9) (And.intro h10 True.intro))) (by kernel_rfl) (li (Sf := impl_InsideOf_L1_S a0 a1) (M := Mk (impl_InsideOf_L1 a0 a1) (impl_InsideOf_L1_k) r) (k := [.blk 0, .code (cAt Tryd.f24 [1, 1, 1, 1])]) (Nat.lt_succ_self m1) hK1)
    · have hE : some (Ctl.brk s4) = some c1 := hM
      have hE := Option.some.inj hE
      subst hE
      exact pc R 5 [.as 17 false] [.keep [5] [0]] (And.intro h7 True.intro) (by kernel_rfl) (K1 s4 hK1)

-- loop.example/g03014/impl.Manifest
def impl_Manifest_j1 (self : (List Thing) → Int → Option ByteArray) (a0 : (List Thing)) (s14 : Int) (v19 : Int) (s21 : ByteArray) : Option (Ctl (ByteArray × Int) ByteArray ByteArray) :=
  (self a0 v19).bind fun v22 =>
  (catM s21 v22).bind fun v24 =>
  some (.next (v24, w64 (s14 + 1)))
def impl_Manifest_L1_b (self : (List Thing) → Int → Option ByteArray) (a0 : (List Thing)) (v11 : (List Int)) (s13 : ByteArray) (s14 : Int) : Option (Ctl (ByteArray × Int) ByteArray ByteArray) :=
  bif (decide (s14 < (v11.length : Int))) then
  (gi v11 s14).bind fun v19 =>
  bif (decide (s14 > 0)) then
  (catM s13 (ByteArray.mk #[32])).bind fun v27 =>
  impl_Manifest_j1 self a0 s14 v19 v27
  else
  impl_Manifest_j1 self a0 s14 v19 s13
  else
  some (.brk s13)
def impl_Manifest_L1 (self : (List Thing) → Int → Option ByteArray) (a0 : (List Thing)) (v11 : (List Int)) (s : ByteArray × Int) : Option (Ctl (ByteArray × Int) ByteArray ByteArray) := impl_Manifest_L1_b self a0 v11 s.1 s.2
def impl_Manifest_L1_s (a0 : (List Thing)) (v11 : (List Int)) (s13 : ByteArray) (s14 : Int) : St := ⟨[(0, .o (.c (.rs 6 (a0.map Thing.enc)))), (5, .o (.c (.v (.string s13)))), (23, .o (.c (.sl 0))), (24, .o (.c (.v (.int .i64 (v11.length : Int))))), (25, .o (.c (.v (.int .i64 s14))))], [(0, .row 3 1 (v11.map encI))]⟩
def impl_Manifest_L1_S (a0 : (List Thing)) (v11 : (List Int)) (s : ByteArray × Int) : St := impl_Manifest_L1_s a0 v11 s.1 s.2
def impl_Manifest_L1_a (s15 : ByteArray) : Option ByteArray :=
  (catM s15 (ByteArray.mk #[93])).bind fun v16 =>
  some v16
def impl_Manifest_L1_k (x : (ByteArray) ⊕ (ByteArray)) : Option ByteArray := match x with
  | .inl t => impl_Manifest_L1_a t
  | .inr y => some y
def impl_Manifest_F (self : (List Thing) → Int → Option ByteArray) (a0 : (List Thing)) (a1 : Int) : Option ByteArray :=
  (impl_isThing a0 a1).bind fun v1 =>
  bif (!v1) then
  some (ByteArray.mk #[])
  else
  (impl_FormatInt a1).bind fun v4 =>
  (impl_isBox a0 a1).bind fun v6 =>
  bif (!v6) then
  some v4
  else
  (catM v4 (ByteArray.mk #[91])).bind fun v9 =>
  (impl_InsideOf a0 a1).bind fun v11 =>
  (loopM (impl_Manifest_L1 self a0 v11) big (v9, 0)).bind (impl_Manifest_L1_k)
def impl_Manifest_n : Nat → (List Thing) → Int → Option ByteArray
  | 0, _, _ => none
  | n + 1, a0, a1 => impl_Manifest_F (impl_Manifest_n n) a0 a1
def impl_Manifest (a0 : (List Thing)) (a1 : Int) : Option ByteArray := impl_Manifest_n big a0 a1
theorem impl_Manifest_step (self : (List Thing) → Int → Option ByteArray) (ih : ∀ (a0 : (List Thing)) (a1 : Int) (r : ByteArray), self a0 a1 = some r →
    Con Tryd.prog 8 [.c (.rs 6 (a0.map Thing.enc)), .c (.v (.int .i64 a1))] [] (.o (.c (.v (.string r)))) [] [])
     (a0 : (List Thing)) (a1 : Int) (r : ByteArray) (hM : impl_Manifest_F self a0 a1 = some r) :
    Con Tryd.prog 8 [.c (.rs 6 (a0.map Thing.enc)), .c (.v (.int .i64 a1))] [] (.o (.c (.v (.string r)))) [] [] := by
  unfold impl_Manifest_F at hM
  refine cn (N := 42) (pids := []) Tryd_mixed Tryd.func8 (by kernel_rfl) (by kernel_rfl) (by kernel_rfl) rfl fun ρ g w R => ?_
  obtain ⟨v1, h2, hM⟩ := bind_some hM
  rcases cond_cases hM with ⟨h3, hM⟩ | ⟨h3, hM⟩
  · have hE : some (ByteArray.mk #[]) = some r := hM
    have hE := Option.some.inj hE
    subst hE
    exact pr R 9999 [.call false [] (.o (.c (.v (.bool v1)))) [] [], .as 11 true] [] [] [] (And.intro (impl_isThing_ok a0 a1 v1 h2) (And.intro h3 True.intro)) (by kernel_rfl)
  · obtain ⟨v4, h5, hM⟩ := bind_some hM
    obtain ⟨v6, h7, hM⟩ := bind_some hM
    rcases cond_cases hM with ⟨h8, hM⟩ | ⟨h8, hM⟩
    · have hE : some v4 = some r := hM
      have hE := Option.some.inj hE
      subst hE
      exact pr R 9999 [.call false [] (.o (.c (.v (.bool v1)))) [] [], .as 11 false, .call false [] (.o (.c (.v (.string v4)))) [] [], .call false [] (.o (.c (.v (.bool v6)))) [] [], .as 17 true] [] [] [] (And.intro (impl_isThing_ok a0 a1 v1 h2) (And.intro h3 (And.intro (impl_FormatInt_ok a1 v4 h5) (And.intro (impl_isBox_ok a0 a1 v6 h7) (And.intro h8 True.intro))))) (by kernel_rfl)
    · obtain ⟨v9, h10, hM⟩ := bind_some hM
      obtain ⟨v11, h12, hM⟩ := bind_some hM
      have K1 : ∀ (s15 : ByteArray), impl_Manifest_L1_a s15 = some r → Gr R [.code (cAt Tryd.f8 [1, 1, 1, 1, 1, 1])] (⟨[(5, .o (.c (.v (.string s15))))], []⟩) := by
        intro s15 hM
        unfold impl_Manifest_L1_a at hM
        obtain ⟨v16, h17, hM⟩ := bind_some hM
        have hE : some v16 = some r := hM
        have hE := Option.some.inj hE
        subst hE
        exact pr R 9999 [.run 41 (.string v16)] [] [] [] (And.intro (catM_run (P := Tryd.prog) (t := 9) (x := .tmp 0) (y := .tmp 0) h17) True.intro) (by kernel_rfl)
      refine pc R 9999 [.call false [] (.o (.c (.v (.bool v1)))) [] [], .as 11 false, .call false [] (.o (.c (.v (.string v4)))) [] [], .call false [] (.o (.c (.v (.bool v6)))) [] [], .as 17 false, .run 20 (.string v9), .call false [] (.o (.c (.sl 0))) [] [(0, .row 3 1 (v11.map encI))], .ln (v11.length)] [.keep [0, 5, 23, 24, 25] [0]] (k' := [.code (.loop (cAt Tryd.f8 [1, 1, 1, 1, 1, 0, 1, 0, 0])), .blk 0, .code (cAt Tryd.f8 [1, 1, 1, 1, 1, 1])]) (S' := impl_Manifest_L1_S a0 v11 (v9, 0)) (And.intro (impl_isThing_ok a0 a1 v1 h2) (And.intro h3 (And.intro (impl_FormatInt_ok a1 v4 h5) (And.intro (impl_isBox_ok a0 a1 v6 h7) (And.intro h8 (And.intro (catM_run (P := Tryd.prog) (t := 9) (x := .tmp 0) (y := .tmp 0) h10) (And.intro (And.intro (con_sw 1000 0 (impl_InsideOf_ok a0 a1 v11 h12)) (rfl : ([] : List Nat) = [])) (And.intro (lenm encI v11) True.intro)))))))) (by kernel_rfl) ?_
      refine lq (impl_Manifest_L1_S a0 v11) (body := impl_Manifest_L1 self a0 v11) (k := impl_Manifest_L1_k) hM fun m1 s c1 hM hK1 => ?_
      obtain ⟨s13, s14⟩ := s
      have hM : impl_Manifest_L1_b self a0 v11 s13 s14 = some c1 := hM
      unfold impl_Manifest_L1_b at hM
      rcases cond_cases hM with ⟨h18, hM⟩ | ⟨h18, hM⟩
      · obtain ⟨v19, h20, hM⟩ := bind_some hM
        have J1 : ∀ (s21 : ByteArray), impl_Manifest_j1 self a0 s14 v19 s21 = some c1 → Gr R [.code (cAt Tryd.f8 [1, 1, 1, 1, 1, 0, 1, 0, 0, 1, 1, 0, 0, 1, 1]), .blk 1, .code (cAt Tryd.f8 [1, 1, 1, 1, 1, 0, 1, 0, 0, 1, 1, 1]), .inv (Jr R (impl_Manifest_L1_S a0 v11) (Mk (impl_Manifest_L1 self a0 v11) (impl_Manifest_L1_k) r) (m1 + 1)), .blk 0, .code (cAt Tryd.f8 [1, 1, 1, 1, 1, 1])] (⟨[(0, .o (.c (.rs 6 (a0.map Thing.enc)))), (5, .o (.c (.v (.string s21)))), (7, .o (.c (.v (.int .i64 v19)))), (23, .o (.c (.sl 0))), (24, .o (.c (.v (.int .i64 (v11.length : Int))))), (25, .o (.c (.v (.int .i64 s14))))], [(0, .row 3 1 (v11.map encI))]⟩) := by
          intro s21 hM
          unfold impl_Manifest_j1 at hM
          obtain ⟨v22, h23, hM⟩ := bind_some hM
          obtain ⟨v24, h25, hM⟩ := bind_some hM
          have hE : some (Ctl.next (v24, w64 (s14 + 1))) = some c1 := hM
          have hE := Option.some.inj hE
          subst hE
          exact pc R 9999 [.call false [] (.o (.c (.v (.string v22)))) [] [], .run 38 (.string v24)] [.keep [0, 5, 23, 24, 25] [0]] (And.intro (ih a0 v19 v22 h23) (And.intro (catM_run (P := Tryd.prog) (t := 9) (x := .tmp 0) (y := .tmp 0) h25) True.intro)) (by kernel_rfl) (li (Sf := impl_Manifest_L1_S a0 v11) (M := Mk (impl_Manifest_L1 self a0 v11) (impl_Manifest_L1_k) r) (k := [.blk 0, .code (cAt Tryd.f8 [1, 1, 1, 1, 1, 1])]) (Nat.lt_succ_self m1) hK1)
        rcases cond_cases hM with ⟨h26, hM⟩ | ⟨h26, hM⟩
        · obtain ⟨v27, h28, hM⟩ := bind_some hM
          exact pc R 14 [.as 26 true, .ix (encI v19), .as 31 true, .run 33 (.string v27)] [.keep [0, 5, 7, 23, 24, 25] [0]] (And.intro h18 (And.intro (gi_lt encI h20) (And.intro ((gi_map encI h20).2) (And.intro h26 (And.intro (catM_run (P := Tryd.prog) (t := 9) (x := .tmp 0) (y := .tmp 0) h28) True.intro))))) (by kernel_rfl) (J1 v27 hM)
        · exact pc R 14 [.as 26 true, .ix (encI v19), .as 31 false] [.keep [0, 5, 7, 23, 24, 25] [0]] (And.intro h18 (And.intro (gi_lt encI h20) (And.intro ((gi_map encI h20).2) (And.intro h26 True.intro)))) (by kernel_rfl) (J1 s13 hM)
      · have hE : some (Ctl.brk s13) = some c1 := hM
        have hE := Option.some.inj hE
        subst hE
        exact pc R 5 [.as 26 false] [.keep [5] []] (And.intro h18 True.intro) (by kernel_rfl) (K1 s13 hK1)
theorem impl_Manifest_nok : ∀ (n : Nat) (a0 : (List Thing)) (a1 : Int) (r : ByteArray), impl_Manifest_n n a0 a1 = some r →
    Con Tryd.prog 8 [.c (.rs 6 (a0.map Thing.enc)), .c (.v (.int .i64 a1))] [] (.o (.c (.v (.string r)))) [] []
  | 0, _, _, _, h => by cases h
  | n + 1, a0, a1, r, h => impl_Manifest_step (impl_Manifest_n n) (impl_Manifest_nok n) a0 a1 r h
theorem impl_Manifest_ok (a0 : (List Thing)) (a1 : Int) (r : ByteArray) (h : impl_Manifest a0 a1 = some r) :
    Con Tryd.prog 8 [.c (.rs 6 (a0.map Thing.enc)), .c (.v (.int .i64 a1))] [] (.o (.c (.v (.string r)))) [] [] := impl_Manifest_nok big a0 a1 r h

-- loop.example/g03014/laws.eqThing
def laws_eqThing (a0 : Thing) (a1 : Thing) : Option Bool :=
  bif (a0.Id != a1.Id) then
  some false
  else
  bif (a0.Own != a1.Own) then
  some false
  else
  bif (a0.Room != a1.Room) then
  some false
  else
  bif (a0.In != a1.In) then
  some false
  else
  bif (!(a0.Box == a1.Box)) then
  some false
  else
  bif (!(a0.Sealed == a1.Sealed)) then
  some false
  else
  some true
theorem laws_eqThing_ok (a0 : Thing) (a1 : Thing) (r : Bool) (hM : laws_eqThing a0 a1 = some r) :
    Con Tryd.prog 32 [.c (.v (.agg (Thing.enc a0).toArray)), .c (.v (.agg (Thing.enc a1).toArray))] [] (.o (.c (.v (.bool r)))) [] [] := by
  unfold laws_eqThing at hM
  refine cn (N := 35) (pids := []) Tryd_mixed Tryd.func32 (by kernel_rfl) (by kernel_rfl) (by kernel_rfl) rfl fun ρ g w R => ?_
  rcases cond_cases hM with ⟨h1, hM⟩ | ⟨h1, hM⟩
  · have hE : some false = some r := hM
    have hE := Option.some.inj hE
    subst hE
    exact pr R 9999 [.new 0, .new 1, .as 9 true] [] [] [] (And.intro h1 True.intro) (by kernel_rfl)
  · rcases cond_cases hM with ⟨h2, hM⟩ | ⟨h2, hM⟩
    · have hE : some false = some r := hM
      have hE := Option.some.inj hE
      subst hE
      exact pr R 9999 [.new 0, .new 1, .as 9 false, .as 14 true] [] [] [] (And.intro h1 (And.intro h2 True.intro)) (by kernel_rfl)
    · rcases cond_cases hM with ⟨h3, hM⟩ | ⟨h3, hM⟩
      · have hE : some false = some r := hM
        have hE := Option.some.inj hE
        subst hE
        exact pr R 9999 [.new 0, .new 1, .as 9 false, .as 14 false, .as 19 true] [] [] [] (And.intro h1 (And.intro h2 (And.intro h3 True.intro))) (by kernel_rfl)
      · rcases cond_cases hM with ⟨h4, hM⟩ | ⟨h4, hM⟩
        · have hE : some false = some r := hM
          have hE := Option.some.inj hE
          subst hE
          exact pr R 9999 [.new 0, .new 1, .as 9 false, .as 14 false, .as 19 false, .as 24 true] [] [] [] (And.intro h1 (And.intro h2 (And.intro h3 (And.intro h4 True.intro)))) (by kernel_rfl)
        · rcases cond_cases hM with ⟨h5, hM⟩ | ⟨h5, hM⟩
          · have hE : some false = some r := hM
            have hE := Option.some.inj hE
            subst hE
            exact pr R 9999 [.new 0, .new 1, .as 9 false, .as 14 false, .as 19 false, .as 24 false, .as 29 true] [] [] [] (And.intro h1 (And.intro h2 (And.intro h3 (And.intro h4 (And.intro h5 True.intro))))) (by kernel_rfl)
          · rcases cond_cases hM with ⟨h6, hM⟩ | ⟨h6, hM⟩
            · have hE : some false = some r := hM
              have hE := Option.some.inj hE
              subst hE
              exact pr R 9999 [.new 0, .new 1, .as 9 false, .as 14 false, .as 19 false, .as 24 false, .as 29 false, .as 34 true] [] [] [] (And.intro h1 (And.intro h2 (And.intro h3 (And.intro h4 (And.intro h5 (And.intro h6 True.intro)))))) (by kernel_rfl)
            · have hE : some true = some r := hM
              have hE := Option.some.inj hE
              subst hE
              exact pr R 9999 [.new 0, .new 1, .as 9 false, .as 14 false, .as 19 false, .as 24 false, .as 29 false, .as 34 false] [] [] [] (And.intro h1 (And.intro h2 (And.intro h3 (And.intro h4 (And.intro h5 (And.intro h6 True.intro)))))) (by kernel_rfl)

-- loop.example/g03014/laws.eqThingS
def laws_eqThingS_L1_b (a0 : (List Thing)) (a1 : (List Thing)) (s2 : Int) : Option (Ctl Int Unit Bool) :=
  bif (decide (s2 < (a0.length : Int))) then
  (gi a0 s2).bind fun v4 =>
  (gi a1 s2).bind fun v6 =>
  (laws_eqThing v4 v6).bind fun v8 =>
  bif (!v8) then
  some (.ret false)
  else
  some (.next (w64 (s2 + 1)))
  else
  some (.brk ())
def laws_eqThingS_L1 (a0 : (List Thing)) (a1 : (List Thing)) (s : Int) : Option (Ctl Int Unit Bool) := laws_eqThingS_L1_b a0 a1 s
def laws_eqThingS_L1_s (a0 : (List Thing)) (a1 : (List Thing)) (s2 : Int) : St := ⟨[(0, .o (.c (.rs 6 (a0.map Thing.enc)))), (1, .o (.c (.rs 6 (a1.map Thing.enc)))), (5, .o (.c (.v (.int .i64 s2))))], []⟩
def laws_eqThingS_L1_S (a0 : (List Thing)) (a1 : (List Thing)) (s : Int) : St := laws_eqThingS_L1_s a0 a1 s
def laws_eqThingS_L1_a : Option Bool :=
  some true
def laws_eqThingS_L1_k (x : (Unit) ⊕ (Bool)) : Option Bool := match x with
  | .inl t => laws_eqThingS_L1_a
  | .inr y => some y
def laws_eqThingS (a0 : (List Thing)) (a1 : (List Thing)) : Option Bool :=
  bif ((a0.length : Int) != (a1.length : Int)) then
  some false
  else
  (loopM (laws_eqThingS_L1 a0 a1) big 0).bind (laws_eqThingS_L1_k)
theorem laws_eqThingS_ok (a0 : (List Thing)) (a1 : (List Thing)) (r : Bool) (hM : laws_eqThingS a0 a1 = some r) :
    Con Tryd.prog 15 [.c (.rs 6 (a0.map Thing.enc)), .c (.rs 6 (a1.map Thing.enc))] [] (.o (.c (.v (.bool r)))) [] [] := by
  unfold laws_eqThingS at hM
  refine cn (N := 27) (pids := []) Tryd_mixed Tryd.func15 (by kernel_rfl) (by kernel_rfl) (by kernel_rfl) rfl fun ρ g w R => ?_
  rcases cond_cases hM with ⟨h1, hM⟩ | ⟨h1, hM⟩
  · have hE : some false = some r := hM
    have hE := Option.some.inj hE
    subst hE
    exact pr R 9999 [.ln (a0.length), .ln (a1.length), .as 10 true] [] [] [] (And.intro (lenm Thing.enc a0) (And.intro (lenm Thing.enc a1) (And.intro h1 True.intro))) (by kernel_rfl)
  · have K1 : ∀ (_ : Unit), laws_eqThingS_L1_a = some r → Gr R [.code (cAt Tryd.f15 [1, 1, 1])] (⟨[], []⟩) := by
      intro _ hM
      unfold laws_eqThingS_L1_a at hM
      have hE : some true = some r := hM
      have hE := Option.some.inj hE
      subst hE
      exact pr R 9999 [] [] [] [] True.intro (by kernel_rfl)
    refine pc R 9999 [.ln (a0.length), .ln (a1.length), .as 10 false] [.keep [0, 1, 5] []] (k' := [.code (.loop (cAt Tryd.f15 [1, 1, 0, 1, 0, 0])), .blk 0, .code (cAt Tryd.f15 [1, 1, 1])]) (S' := laws_eqThingS_L1_S a0 a1 0) (And.intro (lenm Thing.enc a0) (And.intro (lenm Thing.enc a1) (And.intro h1 True.intro))) (by kernel_rfl) ?_
    refine lq (laws_eqThingS_L1_S a0 a1) (body := laws_eqThingS_L1 a0 a1) (k := laws_eqThingS_L1_k) hM fun m1 s c1 hM hK1 => ?_
    obtain ⟨s2, hs⟩ : ∃ z, z = s := ⟨_, rfl⟩
    subst hs
    have hM : laws_eqThingS_L1_b a0 a1 s2 = some c1 := hM
    unfold laws_eqThingS_L1_b at hM
    rcases cond_cases hM with ⟨h3, hM⟩ | ⟨h3, hM⟩
    · obtain ⟨v4, h5, hM⟩ := bind_some hM
      obtain ⟨v6, h7, hM⟩ := bind_some hM
      obtain ⟨v8, h9, hM⟩ := bind_some hM
      rcases cond_cases hM with ⟨h10, hM⟩ | ⟨h10, hM⟩
      · have hE : some (Ctl.ret false) = some c1 := hM
        have hE := Option.some.inj hE
        subst hE
        have hE : some false = some r := hK1
        have hE := Option.some.inj hE
        subst hE
        exact pr R 9999 [.ln (a0.length), .as 14 true, .ix (Thing.enc v4), .ix (Thing.enc v6), .call false [] (.o (.c (.v (.bool v8)))) [] [], .as 26 true] [] [] [] (And.intro (lenm Thing.enc a0) (And.intro h3 (And.intro (gi_map Thing.enc h5) (And.intro (gi_map Thing.enc h7) (And.intro (laws_eqThing_ok v4 v6 v8 h9) (And.intro h10 True.intro)))))) (by kernel_rfl)
      · have hE : some (Ctl.next (w64 (s2 + 1))) = some c1 := hM
        have hE := Option.some.inj hE
        subst hE
        exact pc R 9999 [.ln (a0.length), .as 14 true, .ix (Thing.enc v4), .ix (Thing.enc v6), .call false [] (.o (.c (.v (.bool v8)))) [] [], .as 26 false] [.keep [0, 1, 5] []] (And.intro (lenm Thing.enc a0) (And.intro h3 (And.intro (gi_map Thing.enc h5) (And.intro (gi_map Thing.enc h7) (And.intro (laws_eqThing_ok v4 v6 v8 h9) (And.intro h10 True.intro)))))) (by kernel_rfl) (li (Sf := laws_eqThingS_L1_S a0 a1) (M := Mk (laws_eqThingS_L1 a0 a1) (laws_eqThingS_L1_k) r) (k := [.blk 0, .code (cAt Tryd.f15 [1, 1, 1])]) (Nat.lt_succ_self m1) hK1)
    · have hE : some (Ctl.brk ()) = some c1 := hM
      have hE := Option.some.inj hE
      subst hE
      exact pc R 5 [.ln (a0.length), .as 14 false] [.keep [] []] (And.intro (lenm Thing.enc a0) (And.intro h3 True.intro)) (by kernel_rfl) (K1 () hK1)

-- loop.example/g03014/laws.FnExactManifest
def laws_FnExactManifest (a0 : (List Thing)) (a1 : Int) : Option Bool :=
  (laws_szThingS a0 1048576).bind fun v1 =>
  bif (decide (v1 < 0)) then
  some true
  else
  (laws_toThingS a0).bind fun v4 =>
  (spec_Manifest v4 a1).bind fun v6 =>
  (laws_toThingS a0).bind fun v8 =>
  (impl_Manifest v8 a1).bind fun v10 =>
  bif (!(v10.toList == v6.toList)) then
  some false
  else
  (laws_toThingS a0).bind fun v13 =>
  (laws_eqThingS v8 v13).bind fun v15 =>
  bif (!v15) then
  some false
  else
  some true
theorem laws_FnExactManifest_ok (a0 : (List Thing)) (a1 : Int) (r : Bool) (hM : laws_FnExactManifest a0 a1 = some r) :
    Con Tryd.prog 4 [.c (.rs 6 (a0.map Thing.enc)), .c (.v (.int .i64 a1))] [] (.o (.c (.v (.bool r)))) [] [] := by
  unfold laws_FnExactManifest at hM
  refine cn (N := 31) (pids := []) Tryd_mixed Tryd.func4 (by kernel_rfl) (by kernel_rfl) (by kernel_rfl) rfl fun ρ g w R => ?_
  obtain ⟨v1, h2, hM⟩ := bind_some hM
  rcases cond_cases hM with ⟨h3, hM⟩ | ⟨h3, hM⟩
  · have hE : some true = some r := hM
    have hE := Option.some.inj hE
    subst hE
    exact pr R 9999 [.call false [] (.o (.c (.v (.int .i64 v1)))) [] [], .as 13 true] [] [] [] (And.intro (laws_szThingS_ok a0 1048576 v1 h2) (And.intro h3 True.intro)) (by kernel_rfl)
  · obtain ⟨v4, h5, hM⟩ := bind_some hM
    obtain ⟨v6, h7, hM⟩ := bind_some hM
    obtain ⟨v8, h9, hM⟩ := bind_some hM
    obtain ⟨v10, h11, hM⟩ := bind_some hM
    rcases cond_cases hM with ⟨h12, hM⟩ | ⟨h12, hM⟩
    · have hE : some false = some r := hM
      have hE := Option.some.inj hE
      subst hE
      exact pr R 9999 [.call false [] (.o (.c (.v (.int .i64 v1)))) [] [], .as 13 false, .call false [] (.o (.c (.sl 0))) [] [(0, .row 37 6 (v4.map Thing.enc))], .call false [] (.o (.c (.v (.string v6)))) [] [], .call false [] (.o (.c (.sl 1))) [] [(1, .row 37 6 (v8.map Thing.enc))], .call false [] (.o (.c (.v (.string v10)))) [] [], .as 25 true] [] [] [] (And.intro (laws_szThingS_ok a0 1048576 v1 h2) (And.intro h3 (And.intro (And.intro (con_sw 1000 0 (laws_toThingS_ok a0 v4 h5)) (rfl : ([] : List Nat) = [])) (And.intro (spec_Manifest_ok v4 a1 v6 h7) (And.intro (And.intro (con_sw 1000 1 (laws_toThingS_ok a0 v8 h9)) (rfl : ([] : List Nat) = [])) (And.intro (impl_Manifest_ok v8 a1 v10 h11) (And.intro h12 True.intro))))))) (by kernel_rfl)
    · obtain ⟨v13, h14, hM⟩ := bind_some hM
      obtain ⟨v15, h16, hM⟩ := bind_some hM
      rcases cond_cases hM with ⟨h17, hM⟩ | ⟨h17, hM⟩
      · have hE : some false = some r := hM
        have hE := Option.some.inj hE
        subst hE
        exact pr R 9999 [.call false [] (.o (.c (.v (.int .i64 v1)))) [] [], .as 13 false, .call false [] (.o (.c (.sl 0))) [] [(0, .row 37 6 (v4.map Thing.enc))], .call false [] (.o (.c (.v (.string v6)))) [] [], .call false [] (.o (.c (.sl 1))) [] [(1, .row 37 6 (v8.map Thing.enc))], .call false [] (.o (.c (.v (.string v10)))) [] [], .as 25 false, .call false [] (.o (.c (.sl 2))) [] [(2, .row 37 6 (v13.map Thing.enc))], .call false [] (.o (.c (.v (.bool v15)))) [] [], .as 30 true] [] [] [] (And.intro (laws_szThingS_ok a0 1048576 v1 h2) (And.intro h3 (And.intro (And.intro (con_sw 1000 0 (laws_toThingS_ok a0 v4 h5)) (rfl : ([] : List Nat) = [])) (And.intro (spec_Manifest_ok v4 a1 v6 h7) (And.intro (And.intro (con_sw 1000 1 (laws_toThingS_ok a0 v8 h9)) (rfl : ([] : List Nat) = [])) (And.intro (impl_Manifest_ok v8 a1 v10 h11) (And.intro h12 (And.intro (And.intro (con_sw 1000 2 (laws_toThingS_ok a0 v13 h14)) (rfl : ([] : List Nat) = [])) (And.intro (laws_eqThingS_ok v8 v13 v15 h16) (And.intro h17 True.intro)))))))))) (by kernel_rfl)
      · have hE : some true = some r := hM
        have hE := Option.some.inj hE
        subst hE
        exact pr R 9999 [.call false [] (.o (.c (.v (.int .i64 v1)))) [] [], .as 13 false, .call false [] (.o (.c (.sl 0))) [] [(0, .row 37 6 (v4.map Thing.enc))], .call false [] (.o (.c (.v (.string v6)))) [] [], .call false [] (.o (.c (.sl 1))) [] [(1, .row 37 6 (v8.map Thing.enc))], .call false [] (.o (.c (.v (.string v10)))) [] [], .as 25 false, .call false [] (.o (.c (.sl 2))) [] [(2, .row 37 6 (v13.map Thing.enc))], .call false [] (.o (.c (.v (.bool v15)))) [] [], .as 30 false] [] [] [] (And.intro (laws_szThingS_ok a0 1048576 v1 h2) (And.intro h3 (And.intro (And.intro (con_sw 1000 0 (laws_toThingS_ok a0 v4 h5)) (rfl : ([] : List Nat) = [])) (And.intro (spec_Manifest_ok v4 a1 v6 h7) (And.intro (And.intro (con_sw 1000 1 (laws_toThingS_ok a0 v8 h9)) (rfl : ([] : List Nat) = [])) (And.intro (impl_Manifest_ok v8 a1 v10 h11) (And.intro h12 (And.intro (And.intro (con_sw 1000 2 (laws_toThingS_ok a0 v13 h14)) (rfl : ([] : List Nat) = [])) (And.intro (laws_eqThingS_ok v8 v13 v15 h16) (And.intro h17 True.intro)))))))))) (by kernel_rfl)
end Go.Sx
