/- The functions of the program as plain Lean, and that each runs so (printed by wip/gen). -/
import Derived.Test.YtbeialanbblkoaaSxR
import Derived.Test.YtbeialanbblkoaaSxS
import Derived.Laws.StructEq
import Derived.Test.YtbeialanbblkoaaProg
namespace Go.Sx
open Go.Proofs
set_option linter.unusedVariables false
set_option maxRecDepth 100000
end Go.Sx
namespace Go.Proofs
open Go.Shelf
def Try.slays8_ren : Go.Shelf.Ren := ⟨fun | 8 => 29 | 13 => 48 | 14 => 49 | 16 => 51 | 15 => 50 | 29 => 75 | 30 => 76 | 42 => 77 | 49 => 78 | n => n, fun | 20 => 20 | 26 => 53 | 36 => 69 | 0 => 0 | 38 => 71 | 42 => 75 | 3 => 3 | 4 => 4 | 47 => 87 | 17 => 17 | 33 => 66 | 34 => 67 | 89 => 102 | 12 => 12 | 56 => 94 | 82 => 95 | 5 => 5 | 83 => 96 | 84 => 97 | 85 => 98 | 86 => 99 | 87 => 100 | n => n, fun | n => n⟩
theorem Try.slays8 : Go.Proofs.LaysGt.n8 Try.prog Try.slays8_ren := {
  mixed := by kernel_rfl
  f8 := Try.func29.trans (congrArg some (by kernel_rfl))
  f13 := Try.func48.trans (congrArg some (by kernel_rfl))
  f14 := Try.func49.trans (congrArg some (by kernel_rfl))
  f15 := Try.func50.trans (congrArg some (by kernel_rfl))
  f16 := Try.func51.trans (congrArg some (by kernel_rfl))
  f29 := Try.func75.trans (congrArg some (by kernel_rfl))
  f30 := Try.func76.trans (congrArg some (by kernel_rfl))
  f42 := Try.func77.trans (congrArg some (by kernel_rfl))
  f49 := Try.func78.trans (congrArg some (by kernel_rfl))
  t0 := Try.underlying0
  a0 := Try.isAgg0
  z0 := Try.sizeOf0
  v0 := Try.zeroValue0
  i0 := by kernel_rfl
  t3 := Try.underlying3
  a3 := Try.isAgg3
  z3 := Try.sizeOf3
  v3 := Try.zeroValue3
  i3 := by kernel_rfl
  t4 := Try.underlying4
  a4 := Try.isAgg4
  z4 := Try.sizeOf4
  v4 := Try.zeroValue4
  i4 := by kernel_rfl
  t5 := Try.underlying5
  a5 := Try.isAgg5
  z5 := Try.sizeOf5
  v5 := Try.zeroValue5
  i5 := by kernel_rfl
  t12 := Try.underlying12
  a12 := Try.isAgg12
  z12 := Try.sizeOf12
  v12 := Try.zeroValue12
  i12 := by kernel_rfl
  t17 := Try.underlying17
  a17 := Try.isAgg17
  z17 := Try.sizeOf17
  v17 := Try.zeroValue17
  i17 := by kernel_rfl
  t20 := Try.underlying20
  a20 := Try.isAgg20
  z20 := Try.sizeOf20
  v20 := Try.zeroValue20
  i20 := by kernel_rfl
  t26 := Try.underlying53
  a26 := Try.isAgg53
  z26 := Try.sizeOf53
  v26 := Try.zeroValue53
  i26 := by kernel_rfl
  t33 := Try.underlying66
  a33 := Try.isAgg66
  z33 := Try.sizeOf66
  v33 := Try.zeroValue66
  i33 := by kernel_rfl
  t34 := Try.underlying67
  a34 := Try.isAgg67
  z34 := Try.sizeOf67
  v34 := Try.zeroValue67
  i34 := by kernel_rfl
  t36 := Try.underlying69
  a36 := Try.isAgg69
  z36 := Try.sizeOf69
  v36 := Try.zeroValue69
  i36 := by kernel_rfl
  t38 := Try.underlying71
  a38 := Try.isAgg71
  z38 := Try.sizeOf71
  v38 := Try.zeroValue71
  i38 := by kernel_rfl
  t42 := Try.underlying75
  a42 := Try.isAgg75
  z42 := Try.sizeOf75
  v42 := Try.zeroValue75
  i42 := by kernel_rfl
  t47 := Try.underlying87
  a47 := Try.isAgg87
  z47 := Try.sizeOf87
  v47 := Try.zeroValue87
  i47 := by kernel_rfl
  t56 := Try.underlying94
  a56 := Try.isAgg94
  z56 := Try.sizeOf94
  v56 := Try.zeroValue94
  i56 := by kernel_rfl
  t82 := Try.underlying95
  a82 := Try.isAgg95
  z82 := Try.sizeOf95
  v82 := Try.zeroValue95
  i82 := by kernel_rfl
  t83 := Try.underlying96
  a83 := Try.isAgg96
  z83 := Try.sizeOf96
  v83 := Try.zeroValue96
  i83 := by kernel_rfl
  t84 := Try.underlying97
  a84 := Try.isAgg97
  z84 := Try.sizeOf97
  v84 := Try.zeroValue97
  i84 := by kernel_rfl
  t85 := Try.underlying98
  a85 := Try.isAgg98
  z85 := Try.sizeOf98
  v85 := Try.zeroValue98
  i85 := by kernel_rfl
  t86 := Try.underlying99
  a86 := Try.isAgg99
  z86 := Try.sizeOf99
  v86 := Try.zeroValue99
  i86 := by kernel_rfl
  t87 := Try.underlying100
  a87 := Try.isAgg100
  z87 := Try.sizeOf100
  v87 := Try.zeroValue100
  i87 := by kernel_rfl
  t89 := Try.underlying102
  a89 := Try.isAgg102
  z89 := Try.sizeOf102
  v89 := Try.zeroValue102
  i89 := by kernel_rfl }
end Go.Proofs
namespace Go.Sx
open Go.Proofs
set_option linter.unusedVariables false
theorem Try_mixed : Try.prog.follows .mixedOrders = true := by kernel_rfl
structure Thing where
  Id : Int
  Own : Int
  Room : Int
  In : Int
  Box : Bool
  Sealed : Bool
  deriving DecidableEq, Inhabited
def Thing.enc (x : Thing) : List Value := [.int .i64 x.Id, .int .i64 x.Own, .int .i64 x.Room, .int .i64 x.In, .bool x.Box, .bool x.Sealed]
structure l1Cur where
  b : (List Int)
  i : Int
  h : Int
  deriving DecidableEq, Inhabited
theorem Thing_neq35 (a b : Thing) : ∀ w, (do let r ← (do eqGuard .neq 35 (.tmp 0) (.tmp 0) (.agg (Thing.enc a).toArray) (.agg (Thing.enc b).toArray); binOp .neq 35 (.agg (Thing.enc a).toArray) (.agg (Thing.enc b).toArray)); pure (Next.value r) : Sem Next).run Try.prog w = .ok (.value (.bool (!decide (a = b)))) w := by
  intro w
  simp only [Sem.run_bind]
  rw [run_eqGuard_agg w _ _ _ _ _ _ (by kernel_rfl)]
  simp only [Result.andThen_ok]
  rw [run_neq_struct, run_equalIn_struct w _ _ _ _ (by kernel_rfl) (by kernel_rfl)]
  have i3 : ∀ (x y : Int) (w : World), (Op.equalIn 9999 3 (.int .i64 x) (.int .i64 y)).run Try.prog w = .ok (x == y) w := fun x y w => run_equalIn_int w 9998 3 .i64 .i64 x y Try.underlying3
  have i4 : ∀ (x y : Bool) (w : World), (Op.equalIn 9999 4 (.bool x) (.bool y)).run Try.prog w = .ok (x == y) w := fun x y w => run_equalIn_bool' w 9998 4 x y Try.underlying4
  simp [Program.fieldsOf, Try.underlying35, Op.eqFields, part, Sem.run_bind, Thing.enc, isAgg, Result.andThen, i3, i4]
  obtain ⟨x0, x1, x2, x3, x4, x5⟩ := a
  obtain ⟨y0, y1, y2, y3, y4, y5⟩ := b
  simp only [Thing.mk.injEq]
  by_cases h0 : x0 = y0 <;> simp [h0]
  by_cases h1 : x1 = y1 <;> simp [h1]
  by_cases h2 : x2 = y2 <;> simp [h2]
  by_cases h3 : x3 = y3 <;> simp [h3]
  by_cases h4 : x4 = y4 <;> simp [h4]
  by_cases h5 : x5 = y5 <;> simp [h5]


-- loop.example/g03014/laws.szThingS
def laws_szThingS (a0 : (List Thing)) (a1 : Int) : Option Int :=
  bif (decide ((w64 (a1 - (a0.length : Int))) < 0)) then
  some (-1)
  else
  some (w64 (a1 - (a0.length : Int)))
theorem laws_szThingS_ok (a0 : (List Thing)) (a1 : Int) (r : Int) (hM : laws_szThingS a0 a1 = some r) :
    Con Try.prog 13 [.c (.rs 6 (a0.map Thing.enc)), .c (.v (.int .i64 a1))] [] (.o (.c (.v (.int .i64 r)))) [] [] := by
  unfold laws_szThingS at hM
  refine cn (N := 12) (pids := []) Try_mixed Try.func13 (by kernel_rfl) (by kernel_rfl) (by kernel_rfl) rfl fun ρ g w R => ?_
  rcases cond_cases hM with ⟨h1, hM⟩ | ⟨h1, hM⟩
  · have hE : some (-1) = some r := hM
    have hE := Option.some.inj hE
    subst hE
    exact pr R 9999 [.ln (a0.length), .as 10 true] [] [] [] (And.intro (lenm Thing.enc a0) (And.intro h1 True.intro)) (by kernel_rfl)
  · have hE : some (w64 (a1 - (a0.length : Int))) = some r := hM
    have hE := Option.some.inj hE
    subst hE
    exact pr R 9999 [.ln (a0.length), .as 10 false] [] [] [] (And.intro (lenm Thing.enc a0) (And.intro h1 True.intro)) (by kernel_rfl)

-- loop.example/g03014/laws.toThing
def laws_toThing (a0 : Thing) : Option Thing :=
  some a0
theorem laws_toThing_ok (a0 : Thing) (r : Thing) (hM : laws_toThing a0 = some r) :
    Con Try.prog 43 [.c (.v (.agg (Thing.enc a0).toArray))] [] (.o (.c (.v (.agg (Thing.enc r).toArray)))) [] [] := by
  unfold laws_toThing at hM
  refine cn (N := 23) (pids := []) Try_mixed Try.func43 (by kernel_rfl) (by kernel_rfl) (by kernel_rfl) rfl fun ρ g w R => ?_
  have hE : some a0 = some r := hM
  have hE := Option.some.inj hE
  subst hE
  exact pr R 9999 [.new 0, .new 1, .new 2] [] [] [] True.intro (by kernel_rfl)

-- loop.example/g03014/laws.toThingS
def laws_toThingS_L1_b (a0 : (List Thing)) (s3 : (List Thing)) (s4 : Int) : Option (Ctl ((List Thing) × Int) (List Thing) (List Thing)) :=
  bif (decide (s4 < (a0.length : Int))) then
  (gi a0 s4).bind fun v7 =>
  (laws_toThing v7).bind fun v9 =>
  (gi s3 s4).bind fun v11 =>
  some (.next (List.set s3 (Int.toNat s4) v9, w64 (s4 + 1)))
  else
  some (.brk s3)
def laws_toThingS_L1 (a0 : (List Thing)) (s : (List Thing) × Int) : Option (Ctl ((List Thing) × Int) (List Thing) (List Thing)) := laws_toThingS_L1_b a0 s.1 s.2
def laws_toThingS_L1_s (a0 : (List Thing)) (s3 : (List Thing)) (s4 : Int) : St := ⟨[(0, .o (.c (.rs 6 (a0.map Thing.enc)))), (3, .o (.c (.sl 0))), (4, .o (.c (.v (.int .i64 s4))))], [(0, .row 35 6 (s3.map Thing.enc))]⟩
def laws_toThingS_L1_S (a0 : (List Thing)) (s : (List Thing) × Int) : St := laws_toThingS_L1_s a0 s.1 s.2
def laws_toThingS_L1_a (s5 : (List Thing)) : Option (List Thing) :=
  some s5
def laws_toThingS_L1_k (x : ((List Thing)) ⊕ ((List Thing))) : Option (List Thing) := match x with
  | .inl t => laws_toThingS_L1_a t
  | .inr y => some y
def laws_toThingS (a0 : (List Thing)) : Option (List Thing) :=
  ((mkM 40 (a0.length : Int) : Option (List Thing))).bind fun v1 =>
  (loopM (laws_toThingS_L1 a0) big (v1, 0)).bind (laws_toThingS_L1_k)
theorem laws_toThingS_ok (a0 : (List Thing)) (r : (List Thing)) (hM : laws_toThingS a0 = some r) :
    Con Try.prog 15 [.c (.rs 6 (a0.map Thing.enc))] [] (.o (.c (.sl 1000))) [] [(1000, .row 35 6 (r.map Thing.enc))] := by
  unfold laws_toThingS at hM
  refine cn (N := 23) (pids := []) Try_mixed Try.func15 (by kernel_rfl) (by kernel_rfl) (by kernel_rfl) rfl fun ρ g w R => ?_
  obtain ⟨v1, h2, hM⟩ := bind_some hM
  have K1 : ∀ (s5 : (List Thing)), laws_toThingS_L1_a s5 = some r → Gr R [.code (cAt Try.f15 [1, 1, 1])] (⟨[(3, .o (.c (.sl 0)))], [(0, .row 35 6 (s5.map Thing.enc))]⟩) := by
    intro s5 hM
    unfold laws_toThingS_L1_a at hM
    have hE : some s5 = some r := hM
    have hE := Option.some.inj hE
    subst hE
    exact pr R 9999 [] [.sw 0 1000] [] [1000] True.intro (by kernel_rfl)
  refine pc R 9999 [.ln (a0.length), .new 0, .nm (v1.map Thing.enc)] [.keep [0, 3, 4] [0]] (k' := [.code (.loop (cAt Try.f15 [1, 1, 0, 1, 0, 0])), .blk 0, .code (cAt Try.f15 [1, 1, 1])]) (S' := laws_toThingS_L1_S a0 (v1, 0)) (And.intro (lenm Thing.enc a0) (And.intro (mkM_ok Thing.enc h2) True.intro)) (by kernel_rfl) ?_
  refine lq (laws_toThingS_L1_S a0) (body := laws_toThingS_L1 a0) (k := laws_toThingS_L1_k) hM fun m1 s c1 hM hK1 => ?_
  obtain ⟨s3, s4⟩ := s
  have hM : laws_toThingS_L1_b a0 s3 s4 = some c1 := hM
  unfold laws_toThingS_L1_b at hM
  rcases cond_cases hM with ⟨h6, hM⟩ | ⟨h6, hM⟩
  · obtain ⟨v7, h8, hM⟩ := bind_some hM
    obtain ⟨v9, h10, hM⟩ := bind_some hM
    obtain ⟨v11, h12, hM⟩ := bind_some hM
    have hE : some (Ctl.next (List.set s3 (Int.toNat s4) v9, w64 (s4 + 1))) = some c1 := hM
    have hE := Option.some.inj hE
    subst hE
    exact pc R 9999 [.ln (a0.length), .as 11 true, .ix (Thing.enc v7), .call false [] (.o (.c (.v (.agg (Thing.enc v9).toArray)))) [] [], .ix (Thing.enc v11), .nm ((List.set s3 (Int.toNat s4) v9).map Thing.enc)] [.keep [0, 3, 4] [0]] (And.intro (lenm Thing.enc a0) (And.intro h6 (And.intro (gi_map Thing.enc h8) (And.intro (laws_toThing_ok v7 v9 h10) (And.intro (gi_lt Thing.enc h12) (And.intro (And.intro (gi_map Thing.enc h12).2 (set_map Thing.enc s3 (Int.toNat s4) v9)) True.intro)))))) (by kernel_rfl) (li (Sf := laws_toThingS_L1_S a0) (M := Mk (laws_toThingS_L1 a0) (laws_toThingS_L1_k) r) (k := [.blk 0, .code (cAt Try.f15 [1, 1, 1])]) (Nat.lt_succ_self m1) hK1)
  · have hE : some (Ctl.brk s3) = some c1 := hM
    have hE := Option.some.inj hE
    subst hE
    exact pc R 5 [.ln (a0.length), .as 11 false] [.keep [3] [0]] (And.intro (lenm Thing.enc a0) (And.intro h6 True.intro)) (by kernel_rfl) (K1 s3 hK1)

-- loop.example/g03014/laws.toIntS
def laws_toIntS_L1_b (a0 : (List Int)) (s3 : (List Int)) (s4 : Int) : Option (Ctl ((List Int) × Int) (List Int) (List Int)) :=
  bif (decide (s4 < (a0.length : Int))) then
  (gi a0 s4).bind fun v7 =>
  (gi s3 s4).bind fun v9 =>
  some (.next (List.set s3 (Int.toNat s4) v7, w64 (s4 + 1)))
  else
  some (.brk s3)
def laws_toIntS_L1 (a0 : (List Int)) (s : (List Int) × Int) : Option (Ctl ((List Int) × Int) (List Int) (List Int)) := laws_toIntS_L1_b a0 s.1 s.2
def laws_toIntS_L1_s (a0 : (List Int)) (s3 : (List Int)) (s4 : Int) : St := ⟨[(0, .o (.c (.rs 1 (a0.map encI)))), (3, .o (.c (.sl 0))), (4, .o (.c (.v (.int .i64 s4))))], [(0, .row 3 1 (s3.map encI))]⟩
def laws_toIntS_L1_S (a0 : (List Int)) (s : (List Int) × Int) : St := laws_toIntS_L1_s a0 s.1 s.2
def laws_toIntS_L1_a (s5 : (List Int)) : Option (List Int) :=
  some s5
def laws_toIntS_L1_k (x : ((List Int)) ⊕ ((List Int))) : Option (List Int) := match x with
  | .inl t => laws_toIntS_L1_a t
  | .inr y => some y
def laws_toIntS (a0 : (List Int)) : Option (List Int) :=
  ((mkM 8 (a0.length : Int) : Option (List Int))).bind fun v1 =>
  (loopM (laws_toIntS_L1 a0) big (v1, 0)).bind (laws_toIntS_L1_k)
theorem laws_toIntS_ok (a0 : (List Int)) (r : (List Int)) (hM : laws_toIntS a0 = some r) :
    Con Try.prog 16 [.c (.rs 1 (a0.map encI))] [] (.o (.c (.sl 1000))) [] [(1000, .row 3 1 (r.map encI))] := by
  unfold laws_toIntS at hM
  refine cn (N := 22) (pids := []) Try_mixed Try.func16 (by kernel_rfl) (by kernel_rfl) (by kernel_rfl) rfl fun ρ g w R => ?_
  obtain ⟨v1, h2, hM⟩ := bind_some hM
  have K1 : ∀ (s5 : (List Int)), laws_toIntS_L1_a s5 = some r → Gr R [.code (cAt Try.f16 [1, 1, 1])] (⟨[(3, .o (.c (.sl 0)))], [(0, .row 3 1 (s5.map encI))]⟩) := by
    intro s5 hM
    unfold laws_toIntS_L1_a at hM
    have hE : some s5 = some r := hM
    have hE := Option.some.inj hE
    subst hE
    exact pr R 9999 [] [.sw 0 1000] [] [1000] True.intro (by kernel_rfl)
  refine pc R 9999 [.ln (a0.length), .new 0, .nm (v1.map encI)] [.keep [0, 3, 4] [0]] (k' := [.code (.loop (cAt Try.f16 [1, 1, 0, 1, 0, 0])), .blk 0, .code (cAt Try.f16 [1, 1, 1])]) (S' := laws_toIntS_L1_S a0 (v1, 0)) (And.intro (lenm encI a0) (And.intro (mkM_ok encI h2) True.intro)) (by kernel_rfl) ?_
  refine lq (laws_toIntS_L1_S a0) (body := laws_toIntS_L1 a0) (k := laws_toIntS_L1_k) hM fun m1 s c1 hM hK1 => ?_
  obtain ⟨s3, s4⟩ := s
  have hM : laws_toIntS_L1_b a0 s3 s4 = some c1 := hM
  unfold laws_toIntS_L1_b at hM
  rcases cond_cases hM with ⟨h6, hM⟩ | ⟨h6, hM⟩
  · obtain ⟨v7, h8, hM⟩ := bind_some hM
    obtain ⟨v9, h10, hM⟩ := bind_some hM
    have hE : some (Ctl.next (List.set s3 (Int.toNat s4) v7, w64 (s4 + 1))) = some c1 := hM
    have hE := Option.some.inj hE
    subst hE
    exact pc R 9999 [.ln (a0.length), .as 11 true, .ix (encI v7), .ix (encI v9), .nm ((List.set s3 (Int.toNat s4) v7).map encI)] [.keep [0, 3, 4] [0]] (And.intro (lenm encI a0) (And.intro h6 (And.intro (gi_map encI h8) (And.intro (gi_lt encI h10) (And.intro (And.intro (gi_map encI h10).2 (set_map encI s3 (Int.toNat s4) v7)) True.intro))))) (by kernel_rfl) (li (Sf := laws_toIntS_L1_S a0) (M := Mk (laws_toIntS_L1 a0) (laws_toIntS_L1_k) r) (k := [.blk 0, .code (cAt Try.f16 [1, 1, 1])]) (Nat.lt_succ_self m1) hK1)
  · have hE : some (Ctl.brk s3) = some c1 := hM
    have hE := Option.some.inj hE
    subst hE
    exact pc R 5 [.ln (a0.length), .as 11 false] [.keep [3] [0]] (And.intro (lenm encI a0) (And.intro h6 True.intro)) (by kernel_rfl) (K1 s3 hK1)

-- loop.example/g03014/spec.l5Copy
def spec_l5Copy (a0 : (List Thing)) : Option (List Thing) :=
  (ap 40 ([] : List Thing) a0).bind fun v1 =>
  some v1
theorem spec_l5Copy_ok (a0 : (List Thing)) (r : (List Thing)) (hM : spec_l5Copy a0 = some r) :
    Con Try.prog 40 [.c (.rs 6 (a0.map Thing.enc))] [] (.o (.c (.sl 1000))) [] [(1000, .row 35 6 (r.map Thing.enc))] := by
  unfold spec_l5Copy at hM
  refine cn (N := 6) (pids := []) Try_mixed Try.func40 (by kernel_rfl) (by kernel_rfl) (by kernel_rfl) rfl fun ρ g w R => ?_
  obtain ⟨v1, h2, hM⟩ := bind_some hM
  have hE : some v1 = some r := hM
  have hE := Option.some.inj hE
  subst hE
  exact pr R 9999 [.new 0, .new 1, .nm (v1.map Thing.enc)] [.sw 1 1000] [] [1000] (And.intro (ap_ok Thing.enc h2) True.intro) (by kernel_rfl)

-- loop.example/g03014/spec.l1In
def spec_l1In (a0 : Int) (a1 : Int) (a2 : Int) : Option Bool :=
  bif (decide (a0 ≥ a1)) then
  some (decide (a0 ≤ a2))
  else
  some false
theorem spec_l1In_ok (a0 : Int) (a1 : Int) (a2 : Int) (r : Bool) (hM : spec_l1In a0 a1 a2 = some r) :
    Con Try.prog 57 [.c (.v (.int .i64 a0)), .c (.v (.int .i64 a1)), .c (.v (.int .i64 a2))] [] (.o (.c (.v (.bool r)))) [] [] := by
  unfold spec_l1In at hM
  refine cn (N := 15) (pids := []) Try_mixed Try.func57 (by kernel_rfl) (by kernel_rfl) (by kernel_rfl) rfl fun ρ g w R => ?_
  rcases cond_cases hM with ⟨h1, hM⟩ | ⟨h1, hM⟩
  · have hE : some (decide (a0 ≤ a2)) = some r := hM
    have hE := Option.some.inj hE
    subst hE
    exact pr R 9999 [.as 10 true] [] [] [] (And.intro h1 True.intro) (by kernel_rfl)
  · have hE : some false = some r := hM
    have hE := Option.some.inj hE
    subst hE
    exact pr R 9999 [.as 10 false] [] [] [] (And.intro h1 True.intro) (by kernel_rfl)

-- loop.example/g03014/spec.FindThing
def spec_FindThing_L1_b (a0 : (List Thing)) (a1 : Int) (s1 : Int) : Option (Ctl Int Unit Int) :=
  bif (decide (s1 < (a0.length : Int))) then
  (gi a0 s1).bind fun v3 =>
  bif (v3.Id == a1) then
  some (.ret s1)
  else
  some (.next (w64 (s1 + 1)))
  else
  some (.brk ())
def spec_FindThing_L1 (a0 : (List Thing)) (a1 : Int) (s : Int) : Option (Ctl Int Unit Int) := spec_FindThing_L1_b a0 a1 s
def spec_FindThing_L1_s (a0 : (List Thing)) (a1 : Int) (s1 : Int) : St := ⟨[(0, .o (.c (.rs 6 (a0.map Thing.enc)))), (1, .o (.c (.v (.int .i64 a1)))), (5, .o (.c (.v (.int .i64 s1))))], []⟩
def spec_FindThing_L1_S (a0 : (List Thing)) (a1 : Int) (s : Int) : St := spec_FindThing_L1_s a0 a1 s
def spec_FindThing_L1_a : Option Int :=
  some (-1)
def spec_FindThing_L1_k (x : (Unit) ⊕ (Int)) : Option Int := match x with
  | .inl t => spec_FindThing_L1_a
  | .inr y => some y
def spec_FindThing (a0 : (List Thing)) (a1 : Int) : Option Int :=
  (loopM (spec_FindThing_L1 a0 a1) big 0).bind (spec_FindThing_L1_k)
theorem spec_FindThing_ok (a0 : (List Thing)) (a1 : Int) (r : Int) (hM : spec_FindThing a0 a1 = some r) :
    Con Try.prog 58 [.c (.rs 6 (a0.map Thing.enc)), .c (.v (.int .i64 a1))] [] (.o (.c (.v (.int .i64 r)))) [] [] := by
  unfold spec_FindThing at hM
  refine cn (N := 20) (pids := []) Try_mixed Try.func58 (by kernel_rfl) (by kernel_rfl) (by kernel_rfl) rfl fun ρ g w R => ?_
  have K1 : ∀ (_ : Unit), spec_FindThing_L1_a = some r → Gr R [.code (cAt Try.f58 [1, 1])] (⟨[], []⟩) := by
    intro _ hM
    unfold spec_FindThing_L1_a at hM
    have hE : some (-1) = some r := hM
    have hE := Option.some.inj hE
    subst hE
    exact pr R 9999 [] [] [] [] True.intro (by kernel_rfl)
  refine pc R 9999 [] [.keep [0, 1, 5] []] (k' := [.code (.loop (cAt Try.f58 [1, 0, 1, 0, 0])), .blk 0, .code (cAt Try.f58 [1, 1])]) (S' := spec_FindThing_L1_S a0 a1 0) True.intro (by kernel_rfl) ?_
  refine lq (spec_FindThing_L1_S a0 a1) (body := spec_FindThing_L1 a0 a1) (k := spec_FindThing_L1_k) hM fun m1 s c1 hM hK1 => ?_
  obtain ⟨s1, hs⟩ : ∃ z, z = s := ⟨_, rfl⟩
  subst hs
  have hM : spec_FindThing_L1_b a0 a1 s1 = some c1 := hM
  unfold spec_FindThing_L1_b at hM
  rcases cond_cases hM with ⟨h2, hM⟩ | ⟨h2, hM⟩
  · obtain ⟨v3, h4, hM⟩ := bind_some hM
    rcases cond_cases hM with ⟨h5, hM⟩ | ⟨h5, hM⟩
    · have hE : some (Ctl.ret s1) = some c1 := hM
      have hE := Option.some.inj hE
      subst hE
      have hE : some s1 = some r := hK1
      have hE := Option.some.inj hE
      subst hE
      exact pr R 9999 [.ln (a0.length), .as 9 true, .ix (Thing.enc v3), .as 18 true] [] [] [] (And.intro (lenm Thing.enc a0) (And.intro h2 (And.intro (gi_map Thing.enc h4) (And.intro h5 True.intro)))) (by kernel_rfl)
    · have hE : some (Ctl.next (w64 (s1 + 1))) = some c1 := hM
      have hE := Option.some.inj hE
      subst hE
      exact pc R 9999 [.ln (a0.length), .as 9 true, .ix (Thing.enc v3), .as 18 false] [.keep [0, 1, 5] []] (And.intro (lenm Thing.enc a0) (And.intro h2 (And.intro (gi_map Thing.enc h4) (And.intro h5 True.intro)))) (by kernel_rfl) (li (Sf := spec_FindThing_L1_S a0 a1) (M := Mk (spec_FindThing_L1 a0 a1) (spec_FindThing_L1_k) r) (k := [.blk 0, .code (cAt Try.f58 [1, 1])]) (Nat.lt_succ_self m1) hK1)
  · have hE : some (Ctl.brk ()) = some c1 := hM
    have hE := Option.some.inj hE
    subst hE
    exact pc R 5 [.ln (a0.length), .as 9 false] [.keep [] []] (And.intro (lenm Thing.enc a0) (And.intro h2 True.intro)) (by kernel_rfl) (K1 () hK1)

-- loop.example/g03014/spec.l5One
def spec_l5One (a0 : (List Thing)) (a1 : Int) : Option Bool :=
  (gi a0 a1).bind fun v1 =>
  (spec_l1In v1.Id 1 9999).bind fun v3 =>
  bif (!v3) then
  some false
  else
  bif (decide (a1 > 0)) then
  (gi a0 (w64 (a1 - 1))).bind fun v7 =>
  bif (decide (v7.Id ≥ v1.Id)) then
  some false
  else
  (spec_l1In v1.Own 1 30000).bind fun v10 =>
  bif (!v10) then
  some false
  else
  bif v1.Box then
  (spec_l1In v1.Room 1 1000000).bind fun v14 =>
  bif (!v14) then
  some false
  else
  bif (!v1.Box) then
  bif (v1.Room != 0) then
  some false
  else
  bif v1.Sealed then
  some false
  else
  (spec_FindThing a0 v1.In).bind fun v20 =>
  bif (v1.In == 0) then
  some true
  else
  bif (decide (v20 ≥ 0)) then
  (gi a0 v20).bind fun v24 =>
  some v24.Box
  else
  some false
  else
  (spec_FindThing a0 v1.In).bind fun v26 =>
  bif (v1.In == 0) then
  some true
  else
  bif (decide (v26 ≥ 0)) then
  (gi a0 v26).bind fun v30 =>
  some v30.Box
  else
  some false
  else
  bif (!v1.Box) then
  bif (v1.Room != 0) then
  some false
  else
  bif v1.Sealed then
  some false
  else
  (spec_FindThing a0 v1.In).bind fun v35 =>
  bif (v1.In == 0) then
  some true
  else
  bif (decide (v35 ≥ 0)) then
  (gi a0 v35).bind fun v39 =>
  some v39.Box
  else
  some false
  else
  (spec_FindThing a0 v1.In).bind fun v41 =>
  bif (v1.In == 0) then
  some true
  else
  bif (decide (v41 ≥ 0)) then
  (gi a0 v41).bind fun v45 =>
  some v45.Box
  else
  some false
  else
  (spec_l1In v1.Own 1 30000).bind fun v47 =>
  bif (!v47) then
  some false
  else
  bif v1.Box then
  (spec_l1In v1.Room 1 1000000).bind fun v51 =>
  bif (!v51) then
  some false
  else
  bif (!v1.Box) then
  bif (v1.Room != 0) then
  some false
  else
  bif v1.Sealed then
  some false
  else
  (spec_FindThing a0 v1.In).bind fun v57 =>
  bif (v1.In == 0) then
  some true
  else
  bif (decide (v57 ≥ 0)) then
  (gi a0 v57).bind fun v61 =>
  some v61.Box
  else
  some false
  else
  (spec_FindThing a0 v1.In).bind fun v63 =>
  bif (v1.In == 0) then
  some true
  else
  bif (decide (v63 ≥ 0)) then
  (gi a0 v63).bind fun v67 =>
  some v67.Box
  else
  some false
  else
  bif (!v1.Box) then
  bif (v1.Room != 0) then
  some false
  else
  bif v1.Sealed then
  some false
  else
  (spec_FindThing a0 v1.In).bind fun v72 =>
  bif (v1.In == 0) then
  some true
  else
  bif (decide (v72 ≥ 0)) then
  (gi a0 v72).bind fun v76 =>
  some v76.Box
  else
  some false
  else
  (spec_FindThing a0 v1.In).bind fun v78 =>
  bif (v1.In == 0) then
  some true
  else
  bif (decide (v78 ≥ 0)) then
  (gi a0 v78).bind fun v82 =>
  some v82.Box
  else
  some false
theorem spec_l5One_ok (a0 : (List Thing)) (a1 : Int) (r : Bool) (hM : spec_l5One a0 a1 = some r) :
    Con Try.prog 35 [.c (.rs 6 (a0.map Thing.enc)), .c (.v (.int .i64 a1))] [] (.o (.c (.v (.bool r)))) [] [] := by
  unfold spec_l5One at hM
  refine cn (N := 76) (pids := []) Try_mixed Try.func35 (by kernel_rfl) (by kernel_rfl) (by kernel_rfl) rfl fun ρ g w R => ?_
  obtain ⟨v1, h2, hM⟩ := bind_some hM
  obtain ⟨v3, h4, hM⟩ := bind_some hM
  rcases cond_cases hM with ⟨h5, hM⟩ | ⟨h5, hM⟩
  · have hE : some false = some r := hM
    have hE := Option.some.inj hE
    subst hE
    exact pr R 9999 [.ix (Thing.enc v1), .new 0, .call false [] (.o (.c (.v (.bool v3)))) [] [], .as 15 true] [] [] [] (And.intro (gi_map Thing.enc h2) (And.intro (spec_l1In_ok v1.Id 1 9999 v3 h4) (And.intro h5 True.intro))) (by kernel_rfl)
  · rcases cond_cases hM with ⟨h6, hM⟩ | ⟨h6, hM⟩
    · obtain ⟨v7, h8, hM⟩ := bind_some hM
      rcases cond_cases hM with ⟨h9, hM⟩ | ⟨h9, hM⟩
      · have hE : some false = some r := hM
        have hE := Option.some.inj hE
        subst hE
        exact pr R 9999 [.ix (Thing.enc v1), .new 0, .call false [] (.o (.c (.v (.bool v3)))) [] [], .as 15 false, .as 18 true, .ix (Thing.enc v7), .as 30 true] [] [] [] (And.intro (gi_map Thing.enc h2) (And.intro (spec_l1In_ok v1.Id 1 9999 v3 h4) (And.intro h5 (And.intro h6 (And.intro (gi_map Thing.enc h8) (And.intro h9 True.intro)))))) (by kernel_rfl)
      · obtain ⟨v10, h11, hM⟩ := bind_some hM
        rcases cond_cases hM with ⟨h12, hM⟩ | ⟨h12, hM⟩
        · have hE : some false = some r := hM
          have hE := Option.some.inj hE
          subst hE
          exact pr R 9999 [.ix (Thing.enc v1), .new 0, .call false [] (.o (.c (.v (.bool v3)))) [] [], .as 15 false, .as 18 true, .ix (Thing.enc v7), .as 30 false, .call false [] (.o (.c (.v (.bool v10)))) [] [], .as 35 true] [] [] [] (And.intro (gi_map Thing.enc h2) (And.intro (spec_l1In_ok v1.Id 1 9999 v3 h4) (And.intro h5 (And.intro h6 (And.intro (gi_map Thing.enc h8) (And.intro h9 (And.intro (spec_l1In_ok v1.Own 1 30000 v10 h11) (And.intro h12 True.intro)))))))) (by kernel_rfl)
        · rcases cond_cases hM with ⟨h13, hM⟩ | ⟨h13, hM⟩
          · obtain ⟨v14, h15, hM⟩ := bind_some hM
            rcases cond_cases hM with ⟨h16, hM⟩ | ⟨h16, hM⟩
            · have hE : some false = some r := hM
              have hE := Option.some.inj hE
              subst hE
              exact pr R 9999 [.ix (Thing.enc v1), .new 0, .call false [] (.o (.c (.v (.bool v3)))) [] [], .as 15 false, .as 18 true, .ix (Thing.enc v7), .as 30 false, .call false [] (.o (.c (.v (.bool v10)))) [] [], .as 35 false, .as 38 true, .call false [] (.o (.c (.v (.bool v14)))) [] [], .as 44 true] [] [] [] (And.intro (gi_map Thing.enc h2) (And.intro (spec_l1In_ok v1.Id 1 9999 v3 h4) (And.intro h5 (And.intro h6 (And.intro (gi_map Thing.enc h8) (And.intro h9 (And.intro (spec_l1In_ok v1.Own 1 30000 v10 h11) (And.intro h12 (And.intro h13 (And.intro (spec_l1In_ok v1.Room 1 1000000 v14 h15) (And.intro h16 True.intro))))))))))) (by kernel_rfl)
            · rcases cond_cases hM with ⟨h17, hM⟩ | ⟨h17, hM⟩
              · rcases cond_cases hM with ⟨h18, hM⟩ | ⟨h18, hM⟩
                · have hE : some false = some r := hM
                  have hE := Option.some.inj hE
                  subst hE
                  exact pr R 9999 [.ix (Thing.enc v1), .new 0, .call false [] (.o (.c (.v (.bool v3)))) [] [], .as 15 false, .as 18 true, .ix (Thing.enc v7), .as 30 false, .call false [] (.o (.c (.v (.bool v10)))) [] [], .as 35 false, .as 38 true, .call false [] (.o (.c (.v (.bool v14)))) [] [], .as 44 false, .as 48 true, .as 52 true] [] [] [] (And.intro (gi_map Thing.enc h2) (And.intro (spec_l1In_ok v1.Id 1 9999 v3 h4) (And.intro h5 (And.intro h6 (And.intro (gi_map Thing.enc h8) (And.intro h9 (And.intro (spec_l1In_ok v1.Own 1 30000 v10 h11) (And.intro h12 (And.intro h13 (And.intro (spec_l1In_ok v1.Room 1 1000000 v14 h15) (And.intro h16 (And.intro h17 (And.intro h18 True.intro))))))))))))) (by kernel_rfl)
                · rcases cond_cases hM with ⟨h19, hM⟩ | ⟨h19, hM⟩
                  · have hE : some false = some r := hM
                    have hE := Option.some.inj hE
                    subst hE
                    exact pr R 9999 [.ix (Thing.enc v1), .new 0, .call false [] (.o (.c (.v (.bool v3)))) [] [], .as 15 false, .as 18 true, .ix (Thing.enc v7), .as 30 false, .call false [] (.o (.c (.v (.bool v10)))) [] [], .as 35 false, .as 38 true, .call false [] (.o (.c (.v (.bool v14)))) [] [], .as 44 false, .as 48 true, .as 52 false, .as 57 true] [] [] [] (And.intro (gi_map Thing.enc h2) (And.intro (spec_l1In_ok v1.Id 1 9999 v3 h4) (And.intro h5 (And.intro h6 (And.intro (gi_map Thing.enc h8) (And.intro h9 (And.intro (spec_l1In_ok v1.Own 1 30000 v10 h11) (And.intro h12 (And.intro h13 (And.intro (spec_l1In_ok v1.Room 1 1000000 v14 h15) (And.intro h16 (And.intro h17 (And.intro h18 (And.intro h19 True.intro)))))))))))))) (by kernel_rfl)
                  · obtain ⟨v20, h21, hM⟩ := bind_some hM
                    rcases cond_cases hM with ⟨h22, hM⟩ | ⟨h22, hM⟩
                    · have hE : some true = some r := hM
                      have hE := Option.some.inj hE
                      subst hE
                      exact pr R 9999 [.ix (Thing.enc v1), .new 0, .call false [] (.o (.c (.v (.bool v3)))) [] [], .as 15 false, .as 18 true, .ix (Thing.enc v7), .as 30 false, .call false [] (.o (.c (.v (.bool v10)))) [] [], .as 35 false, .as 38 true, .call false [] (.o (.c (.v (.bool v14)))) [] [], .as 44 false, .as 48 true, .as 52 false, .as 57 false, .call false [] (.o (.c (.v (.int .i64 v20)))) [] [], .as 65 true] [] [] [] (And.intro (gi_map Thing.enc h2) (And.intro (spec_l1In_ok v1.Id 1 9999 v3 h4) (And.intro h5 (And.intro h6 (And.intro (gi_map Thing.enc h8) (And.intro h9 (And.intro (spec_l1In_ok v1.Own 1 30000 v10 h11) (And.intro h12 (And.intro h13 (And.intro (spec_l1In_ok v1.Room 1 1000000 v14 h15) (And.intro h16 (And.intro h17 (And.intro h18 (And.intro h19 (And.intro (spec_FindThing_ok a0 v1.In v20 h21) (And.intro h22 True.intro)))))))))))))))) (by kernel_rfl)
                    · rcases cond_cases hM with ⟨h23, hM⟩ | ⟨h23, hM⟩
                      · obtain ⟨v24, h25, hM⟩ := bind_some hM
                        have hE : some v24.Box = some r := hM
                        have hE := Option.some.inj hE
                        subst hE
                        exact pr R 9999 [.ix (Thing.enc v1), .new 0, .call false [] (.o (.c (.v (.bool v3)))) [] [], .as 15 false, .as 18 true, .ix (Thing.enc v7), .as 30 false, .call false [] (.o (.c (.v (.bool v10)))) [] [], .as 35 false, .as 38 true, .call false [] (.o (.c (.v (.bool v14)))) [] [], .as 44 false, .as 48 true, .as 52 false, .as 57 false, .call false [] (.o (.c (.v (.int .i64 v20)))) [] [], .as 65 false, .as 68 true, .ix (Thing.enc v24)] [] [] [] (And.intro (gi_map Thing.enc h2) (And.intro (spec_l1In_ok v1.Id 1 9999 v3 h4) (And.intro h5 (And.intro h6 (And.intro (gi_map Thing.enc h8) (And.intro h9 (And.intro (spec_l1In_ok v1.Own 1 30000 v10 h11) (And.intro h12 (And.intro h13 (And.intro (spec_l1In_ok v1.Room 1 1000000 v14 h15) (And.intro h16 (And.intro h17 (And.intro h18 (And.intro h19 (And.intro (spec_FindThing_ok a0 v1.In v20 h21) (And.intro h22 (And.intro h23 (And.intro (gi_map Thing.enc h25) True.intro)))))))))))))))))) (by kernel_rfl)
                      · have hE : some false = some r := hM
                        have hE := Option.some.inj hE
                        subst hE
                        exact pr R 9999 [.ix (Thing.enc v1), .new 0, .call false [] (.o (.c (.v (.bool v3)))) [] [], .as 15 false, .as 18 true, .ix (Thing.enc v7), .as 30 false, .call false [] (.o (.c (.v (.bool v10)))) [] [], .as 35 false, .as 38 true, .call false [] (.o (.c (.v (.bool v14)))) [] [], .as 44 false, .as 48 true, .as 52 false, .as 57 false, .call false [] (.o (.c (.v (.int .i64 v20)))) [] [], .as 65 false, .as 68 false] [] [] [] (And.intro (gi_map Thing.enc h2) (And.intro (spec_l1In_ok v1.Id 1 9999 v3 h4) (And.intro h5 (And.intro h6 (And.intro (gi_map Thing.enc h8) (And.intro h9 (And.intro (spec_l1In_ok v1.Own 1 30000 v10 h11) (And.intro h12 (And.intro h13 (And.intro (spec_l1In_ok v1.Room 1 1000000 v14 h15) (And.intro h16 (And.intro h17 (And.intro h18 (And.intro h19 (And.intro (spec_FindThing_ok a0 v1.In v20 h21) (And.intro h22 (And.intro h23 True.intro))))))))))))))))) (by kernel_rfl)
              · obtain ⟨v26, h27, hM⟩ := bind_some hM
                rcases cond_cases hM with ⟨h28, hM⟩ | ⟨h28, hM⟩
                · have hE : some true = some r := hM
                  have hE := Option.some.inj hE
                  subst hE
                  exact pr R 9999 [.ix (Thing.enc v1), .new 0, .call false [] (.o (.c (.v (.bool v3)))) [] [], .as 15 false, .as 18 true, .ix (Thing.enc v7), .as 30 false, .call false [] (.o (.c (.v (.bool v10)))) [] [], .as 35 false, .as 38 true, .call false [] (.o (.c (.v (.bool v14)))) [] [], .as 44 false, .as 48 false, .call false [] (.o (.c (.v (.int .i64 v26)))) [] [], .as 65 true] [] [] [] (And.intro (gi_map Thing.enc h2) (And.intro (spec_l1In_ok v1.Id 1 9999 v3 h4) (And.intro h5 (And.intro h6 (And.intro (gi_map Thing.enc h8) (And.intro h9 (And.intro (spec_l1In_ok v1.Own 1 30000 v10 h11) (And.intro h12 (And.intro h13 (And.intro (spec_l1In_ok v1.Room 1 1000000 v14 h15) (And.intro h16 (And.intro h17 (And.intro (spec_FindThing_ok a0 v1.In v26 h27) (And.intro h28 True.intro)))))))))))))) (by kernel_rfl)
                · rcases cond_cases hM with ⟨h29, hM⟩ | ⟨h29, hM⟩
                  · obtain ⟨v30, h31, hM⟩ := bind_some hM
                    have hE : some v30.Box = some r := hM
                    have hE := Option.some.inj hE
                    subst hE
                    exact pr R 9999 [.ix (Thing.enc v1), .new 0, .call false [] (.o (.c (.v (.bool v3)))) [] [], .as 15 false, .as 18 true, .ix (Thing.enc v7), .as 30 false, .call false [] (.o (.c (.v (.bool v10)))) [] [], .as 35 false, .as 38 true, .call false [] (.o (.c (.v (.bool v14)))) [] [], .as 44 false, .as 48 false, .call false [] (.o (.c (.v (.int .i64 v26)))) [] [], .as 65 false, .as 68 true, .ix (Thing.enc v30)] [] [] [] (And.intro (gi_map Thing.enc h2) (And.intro (spec_l1In_ok v1.Id 1 9999 v3 h4) (And.intro h5 (And.intro h6 (And.intro (gi_map Thing.enc h8) (And.intro h9 (And.intro (spec_l1In_ok v1.Own 1 30000 v10 h11) (And.intro h12 (And.intro h13 (And.intro (spec_l1In_ok v1.Room 1 1000000 v14 h15) (And.intro h16 (And.intro h17 (And.intro (spec_FindThing_ok a0 v1.In v26 h27) (And.intro h28 (And.intro h29 (And.intro (gi_map Thing.enc h31) True.intro)))))))))))))))) (by kernel_rfl)
                  · have hE : some false = some r := hM
                    have hE := Option.some.inj hE
                    subst hE
                    exact pr R 9999 [.ix (Thing.enc v1), .new 0, .call false [] (.o (.c (.v (.bool v3)))) [] [], .as 15 false, .as 18 true, .ix (Thing.enc v7), .as 30 false, .call false [] (.o (.c (.v (.bool v10)))) [] [], .as 35 false, .as 38 true, .call false [] (.o (.c (.v (.bool v14)))) [] [], .as 44 false, .as 48 false, .call false [] (.o (.c (.v (.int .i64 v26)))) [] [], .as 65 false, .as 68 false] [] [] [] (And.intro (gi_map Thing.enc h2) (And.intro (spec_l1In_ok v1.Id 1 9999 v3 h4) (And.intro h5 (And.intro h6 (And.intro (gi_map Thing.enc h8) (And.intro h9 (And.intro (spec_l1In_ok v1.Own 1 30000 v10 h11) (And.intro h12 (And.intro h13 (And.intro (spec_l1In_ok v1.Room 1 1000000 v14 h15) (And.intro h16 (And.intro h17 (And.intro (spec_FindThing_ok a0 v1.In v26 h27) (And.intro h28 (And.intro h29 True.intro))))))))))))))) (by kernel_rfl)
          · rcases cond_cases hM with ⟨h32, hM⟩ | ⟨h32, hM⟩
            · rcases cond_cases hM with ⟨h33, hM⟩ | ⟨h33, hM⟩
              · have hE : some false = some r := hM
                have hE := Option.some.inj hE
                subst hE
                exact pr R 9999 [.ix (Thing.enc v1), .new 0, .call false [] (.o (.c (.v (.bool v3)))) [] [], .as 15 false, .as 18 true, .ix (Thing.enc v7), .as 30 false, .call false [] (.o (.c (.v (.bool v10)))) [] [], .as 35 false, .as 38 false, .as 48 true, .as 52 true] [] [] [] (And.intro (gi_map Thing.enc h2) (And.intro (spec_l1In_ok v1.Id 1 9999 v3 h4) (And.intro h5 (And.intro h6 (And.intro (gi_map Thing.enc h8) (And.intro h9 (And.intro (spec_l1In_ok v1.Own 1 30000 v10 h11) (And.intro h12 (And.intro h13 (And.intro h32 (And.intro h33 True.intro))))))))))) (by kernel_rfl)
              · rcases cond_cases hM with ⟨h34, hM⟩ | ⟨h34, hM⟩
                · have hE : some false = some r := hM
                  have hE := Option.some.inj hE
                  subst hE
                  exact pr R 9999 [.ix (Thing.enc v1), .new 0, .call false [] (.o (.c (.v (.bool v3)))) [] [], .as 15 false, .as 18 true, .ix (Thing.enc v7), .as 30 false, .call false [] (.o (.c (.v (.bool v10)))) [] [], .as 35 false, .as 38 false, .as 48 true, .as 52 false, .as 57 true] [] [] [] (And.intro (gi_map Thing.enc h2) (And.intro (spec_l1In_ok v1.Id 1 9999 v3 h4) (And.intro h5 (And.intro h6 (And.intro (gi_map Thing.enc h8) (And.intro h9 (And.intro (spec_l1In_ok v1.Own 1 30000 v10 h11) (And.intro h12 (And.intro h13 (And.intro h32 (And.intro h33 (And.intro h34 True.intro)))))))))))) (by kernel_rfl)
                · obtain ⟨v35, h36, hM⟩ := bind_some hM
                  rcases cond_cases hM with ⟨h37, hM⟩ | ⟨h37, hM⟩
                  · have hE : some true = some r := hM
                    have hE := Option.some.inj hE
                    subst hE
                    exact pr R 9999 [.ix (Thing.enc v1), .new 0, .call false [] (.o (.c (.v (.bool v3)))) [] [], .as 15 false, .as 18 true, .ix (Thing.enc v7), .as 30 false, .call false [] (.o (.c (.v (.bool v10)))) [] [], .as 35 false, .as 38 false, .as 48 true, .as 52 false, .as 57 false, .call false [] (.o (.c (.v (.int .i64 v35)))) [] [], .as 65 true] [] [] [] (And.intro (gi_map Thing.enc h2) (And.intro (spec_l1In_ok v1.Id 1 9999 v3 h4) (And.intro h5 (And.intro h6 (And.intro (gi_map Thing.enc h8) (And.intro h9 (And.intro (spec_l1In_ok v1.Own 1 30000 v10 h11) (And.intro h12 (And.intro h13 (And.intro h32 (And.intro h33 (And.intro h34 (And.intro (spec_FindThing_ok a0 v1.In v35 h36) (And.intro h37 True.intro)))))))))))))) (by kernel_rfl)
                  · rcases cond_cases hM with ⟨h38, hM⟩ | ⟨h38, hM⟩
                    · obtain ⟨v39, h40, hM⟩ := bind_some hM
                      have hE : some v39.Box = some r := hM
                      have hE := Option.some.inj hE
                      subst hE
                      exact pr R 9999 [.ix (Thing.enc v1), .new 0, .call false [] (.o (.c (.v (.bool v3)))) [] [], .as 15 false, .as 18 true, .ix (Thing.enc v7), .as 30 false, .call false [] (.o (.c (.v (.bool v10)))) [] [], .as 35 false, .as 38 false, .as 48 true, .as 52 false, .as 57 false, .call false [] (.o (.c (.v (.int .i64 v35)))) [] [], .as 65 false, .as 68 true, .ix (Thing.enc v39)] [] [] [] (And.intro (gi_map Thing.enc h2) (And.intro (spec_l1In_ok v1.Id 1 9999 v3 h4) (And.intro h5 (And.intro h6 (And.intro (gi_map Thing.enc h8) (And.intro h9 (And.intro (spec_l1In_ok v1.Own 1 30000 v10 h11) (And.intro h12 (And.intro h13 (And.intro h32 (And.intro h33 (And.intro h34 (And.intro (spec_FindThing_ok a0 v1.In v35 h36) (And.intro h37 (And.intro h38 (And.intro (gi_map Thing.enc h40) True.intro)))))))))))))))) (by kernel_rfl)
                    · have hE : some false = some r := hM
                      have hE := Option.some.inj hE
                      subst hE
                      exact pr R 9999 [.ix (Thing.enc v1), .new 0, .call false [] (.o (.c (.v (.bool v3)))) [] [], .as 15 false, .as 18 true, .ix (Thing.enc v7), .as 30 false, .call false [] (.o (.c (.v (.bool v10)))) [] [], .as 35 false, .as 38 false, .as 48 true, .as 52 false, .as 57 false, .call false [] (.o (.c (.v (.int .i64 v35)))) [] [], .as 65 false, .as 68 false] [] [] [] (And.intro (gi_map Thing.enc h2) (And.intro (spec_l1In_ok v1.Id 1 9999 v3 h4) (And.intro h5 (And.intro h6 (And.intro (gi_map Thing.enc h8) (And.intro h9 (And.intro (spec_l1In_ok v1.Own 1 30000 v10 h11) (And.intro h12 (And.intro h13 (And.intro h32 (And.intro h33 (And.intro h34 (And.intro (spec_FindThing_ok a0 v1.In v35 h36) (And.intro h37 (And.intro h38 True.intro))))))))))))))) (by kernel_rfl)
            · obtain ⟨v41, h42, hM⟩ := bind_some hM
              rcases cond_cases hM with ⟨h43, hM⟩ | ⟨h43, hM⟩
              · have hE : some true = some r := hM
                have hE := Option.some.inj hE
                subst hE
                exact pr R 9999 [.ix (Thing.enc v1), .new 0, .call false [] (.o (.c (.v (.bool v3)))) [] [], .as 15 false, .as 18 true, .ix (Thing.enc v7), .as 30 false, .call false [] (.o (.c (.v (.bool v10)))) [] [], .as 35 false, .as 38 false, .as 48 false, .call false [] (.o (.c (.v (.int .i64 v41)))) [] [], .as 65 true] [] [] [] (And.intro (gi_map Thing.enc h2) (And.intro (spec_l1In_ok v1.Id 1 9999 v3 h4) (And.intro h5 (And.intro h6 (And.intro (gi_map Thing.enc h8) (And.intro h9 (And.intro (spec_l1In_ok v1.Own 1 30000 v10 h11) (And.intro h12 (And.intro h13 (And.intro h32 (And.intro (spec_FindThing_ok a0 v1.In v41 h42) (And.intro h43 True.intro)))))))))))) (by kernel_rfl)
              · rcases cond_cases hM with ⟨h44, hM⟩ | ⟨h44, hM⟩
                · obtain ⟨v45, h46, hM⟩ := bind_some hM
                  have hE : some v45.Box = some r := hM
                  have hE := Option.some.inj hE
                  subst hE
                  exact pr R 9999 [.ix (Thing.enc v1), .new 0, .call false [] (.o (.c (.v (.bool v3)))) [] [], .as 15 false, .as 18 true, .ix (Thing.enc v7), .as 30 false, .call false [] (.o (.c (.v (.bool v10)))) [] [], .as 35 false, .as 38 false, .as 48 false, .call false [] (.o (.c (.v (.int .i64 v41)))) [] [], .as 65 false, .as 68 true, .ix (Thing.enc v45)] [] [] [] (And.intro (gi_map Thing.enc h2) (And.intro (spec_l1In_ok v1.Id 1 9999 v3 h4) (And.intro h5 (And.intro h6 (And.intro (gi_map Thing.enc h8) (And.intro h9 (And.intro (spec_l1In_ok v1.Own 1 30000 v10 h11) (And.intro h12 (And.intro h13 (And.intro h32 (And.intro (spec_FindThing_ok a0 v1.In v41 h42) (And.intro h43 (And.intro h44 (And.intro (gi_map Thing.enc h46) True.intro)))))))))))))) (by kernel_rfl)
                · have hE : some false = some r := hM
                  have hE := Option.some.inj hE
                  subst hE
                  exact pr R 9999 [.ix (Thing.enc v1), .new 0, .call false [] (.o (.c (.v (.bool v3)))) [] [], .as 15 false, .as 18 true, .ix (Thing.enc v7), .as 30 false, .call false [] (.o (.c (.v (.bool v10)))) [] [], .as 35 false, .as 38 false, .as 48 false, .call false [] (.o (.c (.v (.int .i64 v41)))) [] [], .as 65 false, .as 68 false] [] [] [] (And.intro (gi_map Thing.enc h2) (And.intro (spec_l1In_ok v1.Id 1 9999 v3 h4) (And.intro h5 (And.intro h6 (And.intro (gi_map Thing.enc h8) (And.intro h9 (And.intro (spec_l1In_ok v1.Own 1 30000 v10 h11) (And.intro h12 (And.intro h13 (And.intro h32 (And.intro (spec_FindThing_ok a0 v1.In v41 h42) (And.intro h43 (And.intro h44 True.intro))))))))))))) (by kernel_rfl)
    · obtain ⟨v47, h48, hM⟩ := bind_some hM
      rcases cond_cases hM with ⟨h49, hM⟩ | ⟨h49, hM⟩
      · have hE : some false = some r := hM
        have hE := Option.some.inj hE
        subst hE
        exact pr R 9999 [.ix (Thing.enc v1), .new 0, .call false [] (.o (.c (.v (.bool v3)))) [] [], .as 15 false, .as 18 false, .call false [] (.o (.c (.v (.bool v47)))) [] [], .as 35 true] [] [] [] (And.intro (gi_map Thing.enc h2) (And.intro (spec_l1In_ok v1.Id 1 9999 v3 h4) (And.intro h5 (And.intro h6 (And.intro (spec_l1In_ok v1.Own 1 30000 v47 h48) (And.intro h49 True.intro)))))) (by kernel_rfl)
      · rcases cond_cases hM with ⟨h50, hM⟩ | ⟨h50, hM⟩
        · obtain ⟨v51, h52, hM⟩ := bind_some hM
          rcases cond_cases hM with ⟨h53, hM⟩ | ⟨h53, hM⟩
          · have hE : some false = some r := hM
            have hE := Option.some.inj hE
            subst hE
            exact pr R 9999 [.ix (Thing.enc v1), .new 0, .call false [] (.o (.c (.v (.bool v3)))) [] [], .as 15 false, .as 18 false, .call false [] (.o (.c (.v (.bool v47)))) [] [], .as 35 false, .as 38 true, .call false [] (.o (.c (.v (.bool v51)))) [] [], .as 44 true] [] [] [] (And.intro (gi_map Thing.enc h2) (And.intro (spec_l1In_ok v1.Id 1 9999 v3 h4) (And.intro h5 (And.intro h6 (And.intro (spec_l1In_ok v1.Own 1 30000 v47 h48) (And.intro h49 (And.intro h50 (And.intro (spec_l1In_ok v1.Room 1 1000000 v51 h52) (And.intro h53 True.intro))))))))) (by kernel_rfl)
          · rcases cond_cases hM with ⟨h54, hM⟩ | ⟨h54, hM⟩
            · rcases cond_cases hM with ⟨h55, hM⟩ | ⟨h55, hM⟩
              · have hE : some false = some r := hM
                have hE := Option.some.inj hE
                subst hE
                exact pr R 9999 [.ix (Thing.enc v1), .new 0, .call false [] (.o (.c (.v (.bool v3)))) [] [], .as 15 false, .as 18 false, .call false [] (.o (.c (.v (.bool v47)))) [] [], .as 35 false, .as 38 true, .call false [] (.o (.c (.v (.bool v51)))) [] [], .as 44 false, .as 48 true, .as 52 true] [] [] [] (And.intro (gi_map Thing.enc h2) (And.intro (spec_l1In_ok v1.Id 1 9999 v3 h4) (And.intro h5 (And.intro h6 (And.intro (spec_l1In_ok v1.Own 1 30000 v47 h48) (And.intro h49 (And.intro h50 (And.intro (spec_l1In_ok v1.Room 1 1000000 v51 h52) (And.intro h53 (And.intro h54 (And.intro h55 True.intro))))))))))) (by kernel_rfl)
              · rcases cond_cases hM with ⟨h56, hM⟩ | ⟨h56, hM⟩
                · have hE : some false = some r := hM
                  have hE := Option.some.inj hE
                  subst hE
                  exact pr R 9999 [.ix (Thing.enc v1), .new 0, .call false [] (.o (.c (.v (.bool v3)))) [] [], .as 15 false, .as 18 false, .call false [] (.o (.c (.v (.bool v47)))) [] [], .as 35 false, .as 38 true, .call false [] (.o (.c (.v (.bool v51)))) [] [], .as 44 false, .as 48 true, .as 52 false, .as 57 true] [] [] [] (And.intro (gi_map Thing.enc h2) (And.intro (spec_l1In_ok v1.Id 1 9999 v3 h4) (And.intro h5 (And.intro h6 (And.intro (spec_l1In_ok v1.Own 1 30000 v47 h48) (And.intro h49 (And.intro h50 (And.intro (spec_l1In_ok v1.Room 1 1000000 v51 h52) (And.intro h53 (And.intro h54 (And.intro h55 (And.intro h56 True.intro)))))))))))) (by kernel_rfl)
                · obtain ⟨v57, h58, hM⟩ := bind_some hM
                  rcases cond_cases hM with ⟨h59, hM⟩ | ⟨h59, hM⟩
                  · have hE : some true = some r := hM
                    have hE := Option.some.inj hE
                    subst hE
                    exact pr R 9999 [.ix (Thing.enc v1), .new 0, .call false [] (.o (.c (.v (.bool v3)))) [] [], .as 15 false, .as 18 false, .call false [] (.o (.c (.v (.bool v47)))) [] [], .as 35 false, .as 38 true, .call false [] (.o (.c (.v (.bool v51)))) [] [], .as 44 false, .as 48 true, .as 52 false, .as 57 false, .call false [] (.o (.c (.v (.int .i64 v57)))) [] [], .as 65 true] [] [] [] (And.intro (gi_map Thing.enc h2) (And.intro (spec_l1In_ok v1.Id 1 9999 v3 h4) (And.intro h5 (And.intro h6 (And.intro (spec_l1In_ok v1.Own 1 30000 v47 h48) (And.intro h49 (And.intro h50 (And.intro (spec_l1In_ok v1.Room 1 1000000 v51 h52) (And.intro h53 (And.intro h54 (And.intro h55 (And.intro h56 (And.intro (spec_FindThing_ok a0 v1.In v57 h58) (And.intro h59 True.intro)))))))))))))) (by kernel_rfl)
                  · rcases cond_cases hM with ⟨h60, hM⟩ | ⟨h60, hM⟩
                    · obtain ⟨v61, h62, hM⟩ := bind_some hM
                      have hE : some v61.Box = some r := hM
                      have hE := Option.some.inj hE
                      subst hE
                      exact pr R 9999 [.ix (Thing.enc v1), .new 0, .call false [] (.o (.c (.v (.bool v3)))) [] [], .as 15 false, .as 18 false, .call false [] (.o (.c (.v (.bool v47)))) [] [], .as 35 false, .as 38 true, .call false [] (.o (.c (.v (.bool v51)))) [] [], .as 44 false, .as 48 true, .as 52 false, .as 57 false, .call false [] (.o (.c (.v (.int .i64 v57)))) [] [], .as 65 false, .as 68 true, .ix (Thing.enc v61)] [] [] [] (And.intro (gi_map Thing.enc h2) (And.intro (spec_l1In_ok v1.Id 1 9999 v3 h4) (And.intro h5 (And.intro h6 (And.intro (spec_l1In_ok v1.Own 1 30000 v47 h48) (And.intro h49 (And.intro h50 (And.intro (spec_l1In_ok v1.Room 1 1000000 v51 h52) (And.intro h53 (And.intro h54 (And.intro h55 (And.intro h56 (And.intro (spec_FindThing_ok a0 v1.In v57 h58) (And.intro h59 (And.intro h60 (And.intro (gi_map Thing.enc h62) True.intro)))))))))))))))) (by kernel_rfl)
                    · have hE : some false = some r := hM
                      have hE := Option.some.inj hE
                      subst hE
                      exact pr R 9999 [.ix (Thing.enc v1), .new 0, .call false [] (.o (.c (.v (.bool v3)))) [] [], .as 15 false, .as 18 false, .call false [] (.o (.c (.v (.bool v47)))) [] [], .as 35 false, .as 38 true, .call false [] (.o (.c (.v (.bool v51)))) [] [], .as 44 false, .as 48 true, .as 52 false, .as 57 false, .call false [] (.o (.c (.v (.int .i64 v57)))) [] [], .as 65 false, .as 68 false] [] [] [] (And.intro (gi_map Thing.enc h2) (And.intro (spec_l1In_ok v1.Id 1 9999 v3 h4) (And.intro h5 (And.intro h6 (And.intro (spec_l1In_ok v1.Own 1 30000 v47 h48) (And.intro h49 (And.intro h50 (And.intro (spec_l1In_ok v1.Room 1 1000000 v51 h52) (And.intro h53 (And.intro h54 (And.intro h55 (And.intro h56 (And.intro (spec_FindThing_ok a0 v1.In v57 h58) (And.intro h59 (And.intro h60 True.intro))))))))))))))) (by kernel_rfl)
            · obtain ⟨v63, h64, hM⟩ := bind_some hM
              rcases cond_cases hM with ⟨h65, hM⟩ | ⟨h65, hM⟩
              · have hE : some true = some r := hM
                have hE := Option.some.inj hE
                subst hE
                exact pr R 9999 [.ix (Thing.enc v1), .new 0, .call false [] (.o (.c (.v (.bool v3)))) [] [], .as 15 false, .as 18 false, .call false [] (.o (.c (.v (.bool v47)))) [] [], .as 35 false, .as 38 true, .call false [] (.o (.c (.v (.bool v51)))) [] [], .as 44 false, .as 48 false, .call false [] (.o (.c (.v (.int .i64 v63)))) [] [], .as 65 true] [] [] [] (And.intro (gi_map Thing.enc h2) (And.intro (spec_l1In_ok v1.Id 1 9999 v3 h4) (And.intro h5 (And.intro h6 (And.intro (spec_l1In_ok v1.Own 1 30000 v47 h48) (And.intro h49 (And.intro h50 (And.intro (spec_l1In_ok v1.Room 1 1000000 v51 h52) (And.intro h53 (And.intro h54 (And.intro (spec_FindThing_ok a0 v1.In v63 h64) (And.intro h65 True.intro)))))))))))) (by kernel_rfl)
              · rcases cond_cases hM with ⟨h66, hM⟩ | ⟨h66, hM⟩
                · obtain ⟨v67, h68, hM⟩ := bind_some hM
                  have hE : some v67.Box = some r := hM
                  have hE := Option.some.inj hE
                  subst hE
                  exact pr R 9999 [.ix (Thing.enc v1), .new 0, .call false [] (.o (.c (.v (.bool v3)))) [] [], .as 15 false, .as 18 false, .call false [] (.o (.c (.v (.bool v47)))) [] [], .as 35 false, .as 38 true, .call false [] (.o (.c (.v (.bool v51)))) [] [], .as 44 false, .as 48 false, .call false [] (.o (.c (.v (.int .i64 v63)))) [] [], .as 65 false, .as 68 true, .ix (Thing.enc v67)] [] [] [] (And.intro (gi_map Thing.enc h2) (And.intro (spec_l1In_ok v1.Id 1 9999 v3 h4) (And.intro h5 (And.intro h6 (And.intro (spec_l1In_ok v1.Own 1 30000 v47 h48) (And.intro h49 (And.intro h50 (And.intro (spec_l1In_ok v1.Room 1 1000000 v51 h52) (And.intro h53 (And.intro h54 (And.intro (spec_FindThing_ok a0 v1.In v63 h64) (And.intro h65 (And.intro h66 (And.intro (gi_map Thing.enc h68) True.intro)))))))))))))) (by kernel_rfl)
                · have hE : some false = some r := hM
                  have hE := Option.some.inj hE
                  subst hE
                  exact pr R 9999 [.ix (Thing.enc v1), .new 0, .call false [] (.o (.c (.v (.bool v3)))) [] [], .as 15 false, .as 18 false, .call false [] (.o (.c (.v (.bool v47)))) [] [], .as 35 false, .as 38 true, .call false [] (.o (.c (.v (.bool v51)))) [] [], .as 44 false, .as 48 false, .call false [] (.o (.c (.v (.int .i64 v63)))) [] [], .as 65 false, .as 68 false] [] [] [] (And.intro (gi_map Thing.enc h2) (And.intro (spec_l1In_ok v1.Id 1 9999 v3 h4) (And.intro h5 (And.intro h6 (And.intro (spec_l1In_ok v1.Own 1 30000 v47 h48) (And.intro h49 (And.intro h50 (And.intro (spec_l1In_ok v1.Room 1 1000000 v51 h52) (And.intro h53 (And.intro h54 (And.intro (spec_FindThing_ok a0 v1.In v63 h64) (And.intro h65 (And.intro h66 True.intro))))))))))))) (by kernel_rfl)
        · rcases cond_cases hM with ⟨h69, hM⟩ | ⟨h69, hM⟩
          · rcases cond_cases hM with ⟨h70, hM⟩ | ⟨h70, hM⟩
            · have hE : some false = some r := hM
              have hE := Option.some.inj hE
              subst hE
              exact pr R 9999 [.ix (Thing.enc v1), .new 0, .call false [] (.o (.c (.v (.bool v3)))) [] [], .as 15 false, .as 18 false, .call false [] (.o (.c (.v (.bool v47)))) [] [], .as 35 false, .as 38 false, .as 48 true, .as 52 true] [] [] [] (And.intro (gi_map Thing.enc h2) (And.intro (spec_l1In_ok v1.Id 1 9999 v3 h4) (And.intro h5 (And.intro h6 (And.intro (spec_l1In_ok v1.Own 1 30000 v47 h48) (And.intro h49 (And.intro h50 (And.intro h69 (And.intro h70 True.intro))))))))) (by kernel_rfl)
            · rcases cond_cases hM with ⟨h71, hM⟩ | ⟨h71, hM⟩
              · have hE : some false = some r := hM
                have hE := Option.some.inj hE
                subst hE
                exact pr R 9999 [.ix (Thing.enc v1), .new 0, .call false [] (.o (.c (.v (.bool v3)))) [] [], .as 15 false, .as 18 false, .call false [] (.o (.c (.v (.bool v47)))) [] [], .as 35 false, .as 38 false, .as 48 true, .as 52 false, .as 57 true] [] [] [] (And.intro (gi_map Thing.enc h2) (And.intro (spec_l1In_ok v1.Id 1 9999 v3 h4) (And.intro h5 (And.intro h6 (And.intro (spec_l1In_ok v1.Own 1 30000 v47 h48) (And.intro h49 (And.intro h50 (And.intro h69 (And.intro h70 (And.intro h71 True.intro)))))))))) (by kernel_rfl)
              · obtain ⟨v72, h73, hM⟩ := bind_some hM
                rcases cond_cases hM with ⟨h74, hM⟩ | ⟨h74, hM⟩
                · have hE : some true = some r := hM
                  have hE := Option.some.inj hE
                  subst hE
                  exact pr R 9999 [.ix (Thing.enc v1), .new 0, .call false [] (.o (.c (.v (.bool v3)))) [] [], .as 15 false, .as 18 false, .call false [] (.o (.c (.v (.bool v47)))) [] [], .as 35 false, .as 38 false, .as 48 true, .as 52 false, .as 57 false, .call false [] (.o (.c (.v (.int .i64 v72)))) [] [], .as 65 true] [] [] [] (And.intro (gi_map Thing.enc h2) (And.intro (spec_l1In_ok v1.Id 1 9999 v3 h4) (And.intro h5 (And.intro h6 (And.intro (spec_l1In_ok v1.Own 1 30000 v47 h48) (And.intro h49 (And.intro h50 (And.intro h69 (And.intro h70 (And.intro h71 (And.intro (spec_FindThing_ok a0 v1.In v72 h73) (And.intro h74 True.intro)))))))))))) (by kernel_rfl)
                · rcases cond_cases hM with ⟨h75, hM⟩ | ⟨h75, hM⟩
                  · obtain ⟨v76, h77, hM⟩ := bind_some hM
                    have hE : some v76.Box = some r := hM
                    have hE := Option.some.inj hE
                    subst hE
                    exact pr R 9999 [.ix (Thing.enc v1), .new 0, .call false [] (.o (.c (.v (.bool v3)))) [] [], .as 15 false, .as 18 false, .call false [] (.o (.c (.v (.bool v47)))) [] [], .as 35 false, .as 38 false, .as 48 true, .as 52 false, .as 57 false, .call false [] (.o (.c (.v (.int .i64 v72)))) [] [], .as 65 false, .as 68 true, .ix (Thing.enc v76)] [] [] [] (And.intro (gi_map Thing.enc h2) (And.intro (spec_l1In_ok v1.Id 1 9999 v3 h4) (And.intro h5 (And.intro h6 (And.intro (spec_l1In_ok v1.Own 1 30000 v47 h48) (And.intro h49 (And.intro h50 (And.intro h69 (And.intro h70 (And.intro h71 (And.intro (spec_FindThing_ok a0 v1.In v72 h73) (And.intro h74 (And.intro h75 (And.intro (gi_map Thing.enc h77) True.intro)))))))))))))) (by kernel_rfl)
                  · have hE : some false = some r := hM
                    have hE := Option.some.inj hE
                    subst hE
                    exact pr R 9999 [.ix (Thing.enc v1), .new 0, .call false [] (.o (.c (.v (.bool v3)))) [] [], .as 15 false, .as 18 false, .call false [] (.o (.c (.v (.bool v47)))) [] [], .as 35 false, .as 38 false, .as 48 true, .as 52 false, .as 57 false, .call false [] (.o (.c (.v (.int .i64 v72)))) [] [], .as 65 false, .as 68 false] [] [] [] (And.intro (gi_map Thing.enc h2) (And.intro (spec_l1In_ok v1.Id 1 9999 v3 h4) (And.intro h5 (And.intro h6 (And.intro (spec_l1In_ok v1.Own 1 30000 v47 h48) (And.intro h49 (And.intro h50 (And.intro h69 (And.intro h70 (And.intro h71 (And.intro (spec_FindThing_ok a0 v1.In v72 h73) (And.intro h74 (And.intro h75 True.intro))))))))))))) (by kernel_rfl)
          · obtain ⟨v78, h79, hM⟩ := bind_some hM
            rcases cond_cases hM with ⟨h80, hM⟩ | ⟨h80, hM⟩
            · have hE : some true = some r := hM
              have hE := Option.some.inj hE
              subst hE
              exact pr R 9999 [.ix (Thing.enc v1), .new 0, .call false [] (.o (.c (.v (.bool v3)))) [] [], .as 15 false, .as 18 false, .call false [] (.o (.c (.v (.bool v47)))) [] [], .as 35 false, .as 38 false, .as 48 false, .call false [] (.o (.c (.v (.int .i64 v78)))) [] [], .as 65 true] [] [] [] (And.intro (gi_map Thing.enc h2) (And.intro (spec_l1In_ok v1.Id 1 9999 v3 h4) (And.intro h5 (And.intro h6 (And.intro (spec_l1In_ok v1.Own 1 30000 v47 h48) (And.intro h49 (And.intro h50 (And.intro h69 (And.intro (spec_FindThing_ok a0 v1.In v78 h79) (And.intro h80 True.intro)))))))))) (by kernel_rfl)
            · rcases cond_cases hM with ⟨h81, hM⟩ | ⟨h81, hM⟩
              · obtain ⟨v82, h83, hM⟩ := bind_some hM
                have hE : some v82.Box = some r := hM
                have hE := Option.some.inj hE
                subst hE
                exact pr R 9999 [.ix (Thing.enc v1), .new 0, .call false [] (.o (.c (.v (.bool v3)))) [] [], .as 15 false, .as 18 false, .call false [] (.o (.c (.v (.bool v47)))) [] [], .as 35 false, .as 38 false, .as 48 false, .call false [] (.o (.c (.v (.int .i64 v78)))) [] [], .as 65 false, .as 68 true, .ix (Thing.enc v82)] [] [] [] (And.intro (gi_map Thing.enc h2) (And.intro (spec_l1In_ok v1.Id 1 9999 v3 h4) (And.intro h5 (And.intro h6 (And.intro (spec_l1In_ok v1.Own 1 30000 v47 h48) (And.intro h49 (And.intro h50 (And.intro h69 (And.intro (spec_FindThing_ok a0 v1.In v78 h79) (And.intro h80 (And.intro h81 (And.intro (gi_map Thing.enc h83) True.intro)))))))))))) (by kernel_rfl)
              · have hE : some false = some r := hM
                have hE := Option.some.inj hE
                subst hE
                exact pr R 9999 [.ix (Thing.enc v1), .new 0, .call false [] (.o (.c (.v (.bool v3)))) [] [], .as 15 false, .as 18 false, .call false [] (.o (.c (.v (.bool v47)))) [] [], .as 35 false, .as 38 false, .as 48 false, .call false [] (.o (.c (.v (.int .i64 v78)))) [] [], .as 65 false, .as 68 false] [] [] [] (And.intro (gi_map Thing.enc h2) (And.intro (spec_l1In_ok v1.Id 1 9999 v3 h4) (And.intro h5 (And.intro h6 (And.intro (spec_l1In_ok v1.Own 1 30000 v47 h48) (And.intro h49 (And.intro h50 (And.intro h69 (And.intro (spec_FindThing_ok a0 v1.In v78 h79) (And.intro h80 (And.intro h81 True.intro))))))))))) (by kernel_rfl)

-- loop.example/g03014/spec.l5Depth
def spec_l5Depth_L1_b (a0 : (List Thing)) (s3 : Int) (s4 : Int) : Option (Ctl (Int × Int) Int Int) :=
  bif (decide (s4 ≥ 0)) then
  (gi a0 s4).bind fun v7 =>
  bif (v7.In != 0) then
  bif (decide (s3 ≤ 4)) then
  (gi a0 s4).bind fun v11 =>
  (spec_FindThing a0 v11.In).bind fun v13 =>
  some (.next (w64 (s3 + 1), v13))
  else
  some (.brk s3)
  else
  some (.brk s3)
  else
  some (.brk s3)
def spec_l5Depth_L1 (a0 : (List Thing)) (s : Int × Int) : Option (Ctl (Int × Int) Int Int) := spec_l5Depth_L1_b a0 s.1 s.2
def spec_l5Depth_L1_s (a0 : (List Thing)) (s3 : Int) (s4 : Int) : St := ⟨[(0, .o (.c (.rs 6 (a0.map Thing.enc)))), (5, .o (.c (.v (.int .i64 s3)))), (6, .o (.c (.v (.int .i64 s4))))], []⟩
def spec_l5Depth_L1_S (a0 : (List Thing)) (s : Int × Int) : St := spec_l5Depth_L1_s a0 s.1 s.2
def spec_l5Depth_L1_a (s5 : Int) : Option Int :=
  some s5
def spec_l5Depth_L1_k (x : (Int) ⊕ (Int)) : Option Int := match x with
  | .inl t => spec_l5Depth_L1_a t
  | .inr y => some y
def spec_l5Depth (a0 : (List Thing)) (a1 : Int) : Option Int :=
  (spec_FindThing a0 a1).bind fun v1 =>
  (loopM (spec_l5Depth_L1 a0) big (0, v1)).bind (spec_l5Depth_L1_k)
theorem spec_l5Depth_ok (a0 : (List Thing)) (a1 : Int) (r : Int) (hM : spec_l5Depth a0 a1 = some r) :
    Con Try.prog 36 [.c (.rs 6 (a0.map Thing.enc)), .c (.v (.int .i64 a1))] [] (.o (.c (.v (.int .i64 r)))) [] [] := by
  unfold spec_l5Depth at hM
  refine cn (N := 34) (pids := []) Try_mixed Try.func36 (by kernel_rfl) (by kernel_rfl) (by kernel_rfl) rfl fun ρ g w R => ?_
  obtain ⟨v1, h2, hM⟩ := bind_some hM
  have K1 : ∀ (s5 : Int), spec_l5Depth_L1_a s5 = some r → Gr R [.code (cAt Try.f36 [1, 1, 1, 1])] (⟨[(5, .o (.c (.v (.int .i64 s5))))], []⟩) := by
    intro s5 hM
    unfold spec_l5Depth_L1_a at hM
    have hE : some s5 = some r := hM
    have hE := Option.some.inj hE
    subst hE
    exact pr R 9999 [] [] [] [] True.intro (by kernel_rfl)
  refine pc R 9999 [.call false [] (.o (.c (.v (.int .i64 v1)))) [] []] [.keep [0, 5, 6] []] (k' := [.code (.loop (cAt Try.f36 [1, 1, 1, 0, 0, 0])), .blk 0, .code (cAt Try.f36 [1, 1, 1, 1])]) (S' := spec_l5Depth_L1_S a0 (0, v1)) (And.intro (spec_FindThing_ok a0 a1 v1 h2) True.intro) (by kernel_rfl) ?_
  refine lq (spec_l5Depth_L1_S a0) (body := spec_l5Depth_L1 a0) (k := spec_l5Depth_L1_k) hM fun m1 s c1 hM hK1 => ?_
  obtain ⟨s3, s4⟩ := s
  have hM : spec_l5Depth_L1_b a0 s3 s4 = some c1 := hM
  unfold spec_l5Depth_L1_b at hM
  rcases cond_cases hM with ⟨h6, hM⟩ | ⟨h6, hM⟩
  · obtain ⟨v7, h8, hM⟩ := bind_some hM
    rcases cond_cases hM with ⟨h9, hM⟩ | ⟨h9, hM⟩
    · rcases cond_cases hM with ⟨h10, hM⟩ | ⟨h10, hM⟩
      · obtain ⟨v11, h12, hM⟩ := bind_some hM
        obtain ⟨v13, h14, hM⟩ := bind_some hM
        have hE : some (Ctl.next (w64 (s3 + 1), v13)) = some c1 := hM
        have hE := Option.some.inj hE
        subst hE
        exact pc R 9999 [.as 12 true, .ix (Thing.enc v7), .as 20 true, .as 23 true, .ix (Thing.enc v11), .call false [] (.o (.c (.v (.int .i64 v13)))) [] []] [.keep [0, 5, 6] []] (And.intro h6 (And.intro (gi_map Thing.enc h8) (And.intro h9 (And.intro h10 (And.intro (gi_map Thing.enc h12) (And.intro (spec_FindThing_ok a0 v11.In v13 h14) True.intro)))))) (by kernel_rfl) (li (Sf := spec_l5Depth_L1_S a0) (M := Mk (spec_l5Depth_L1 a0) (spec_l5Depth_L1_k) r) (k := [.blk 0, .code (cAt Try.f36 [1, 1, 1, 1])]) (Nat.lt_succ_self m1) hK1)
      · have hE : some (Ctl.brk s3) = some c1 := hM
        have hE := Option.some.inj hE
        subst hE
        exact pc R 5 [.as 12 true, .ix (Thing.enc v7), .as 20 true, .as 23 false] [.keep [5] []] (And.intro h6 (And.intro (gi_map Thing.enc h8) (And.intro h9 (And.intro h10 True.intro)))) (by kernel_rfl) (K1 s3 hK1)
    · have hE : some (Ctl.brk s3) = some c1 := hM
      have hE := Option.some.inj hE
      subst hE
      exact pc R 5 [.as 12 true, .ix (Thing.enc v7), .as 20 false] [.keep [5] []] (And.intro h6 (And.intro (gi_map Thing.enc h8) (And.intro h9 True.intro))) (by kernel_rfl) (K1 s3 hK1)
  · have hE : some (Ctl.brk s3) = some c1 := hM
    have hE := Option.some.inj hE
    subst hE
    exact pc R 5 [.as 12 false] [.keep [5] []] (And.intro h6 True.intro) (by kernel_rfl) (K1 s3 hK1)

-- loop.example/g03014/spec.l5Gross
def spec_l5Gross_L1_b (self : (List Thing) → Int → Int → Option Int) (a0 : (List Thing)) (a1 : Int) (a2 : Int) (s7 : Int) (s8 : Int) : Option (Ctl (Int × Int) Int Int) :=
  bif (decide (s8 < (a0.length : Int))) then
  (gi a0 s8).bind fun v11 =>
  bif (v11.In == a1) then
  (gi a0 s8).bind fun v14 =>
  (self a0 v14.Id (w64 (a2 - 1))).bind fun v16 =>
  some (.next (w64 (s7 + v16), w64 (s8 + 1)))
  else
  some (.next (s7, w64 (s8 + 1)))
  else
  some (.brk s7)
def spec_l5Gross_L1 (self : (List Thing) → Int → Int → Option Int) (a0 : (List Thing)) (a1 : Int) (a2 : Int) (s : Int × Int) : Option (Ctl (Int × Int) Int Int) := spec_l5Gross_L1_b self a0 a1 a2 s.1 s.2
def spec_l5Gross_L1_s (a0 : (List Thing)) (a1 : Int) (a2 : Int) (s7 : Int) (s8 : Int) : St := ⟨[(0, .o (.c (.rs 6 (a0.map Thing.enc)))), (1, .o (.c (.v (.int .i64 a1)))), (2, .o (.c (.v (.int .i64 a2)))), (8, .o (.c (.v (.int .i64 s7)))), (9, .o (.c (.v (.int .i64 s8))))], []⟩
def spec_l5Gross_L1_S (a0 : (List Thing)) (a1 : Int) (a2 : Int) (s : Int × Int) : St := spec_l5Gross_L1_s a0 a1 a2 s.1 s.2
def spec_l5Gross_L1_a (s9 : Int) : Option Int :=
  some s9
def spec_l5Gross_L1_k (x : (Int) ⊕ (Int)) : Option Int := match x with
  | .inl t => spec_l5Gross_L1_a t
  | .inr y => some y
def spec_l5Gross_F (self : (List Thing) → Int → Int → Option Int) (a0 : (List Thing)) (a1 : Int) (a2 : Int) : Option Int :=
  (spec_FindThing a0 a1).bind fun v1 =>
  bif (decide (v1 < 0)) then
  some 0
  else
  bif (decide (a2 < 0)) then
  some 0
  else
  (gi a0 v1).bind fun v5 =>
  (loopM (spec_l5Gross_L1 self a0 a1 a2) big (v5.Own, 0)).bind (spec_l5Gross_L1_k)
def spec_l5Gross_n : Nat → (List Thing) → Int → Int → Option Int
  | 0, _, _, _ => none
  | n + 1, a0, a1, a2 => spec_l5Gross_F (spec_l5Gross_n n) a0 a1 a2
def spec_l5Gross (a0 : (List Thing)) (a1 : Int) (a2 : Int) : Option Int := spec_l5Gross_n big a0 a1 a2
theorem spec_l5Gross_step (self : (List Thing) → Int → Int → Option Int) (ih : ∀ (a0 : (List Thing)) (a1 : Int) (a2 : Int) (r : Int), self a0 a1 a2 = some r →
    Con Try.prog 59 [.c (.rs 6 (a0.map Thing.enc)), .c (.v (.int .i64 a1)), .c (.v (.int .i64 a2))] [] (.o (.c (.v (.int .i64 r)))) [] [])
     (a0 : (List Thing)) (a1 : Int) (a2 : Int) (r : Int) (hM : spec_l5Gross_F self a0 a1 a2 = some r) :
    Con Try.prog 59 [.c (.rs 6 (a0.map Thing.enc)), .c (.v (.int .i64 a1)), .c (.v (.int .i64 a2))] [] (.o (.c (.v (.int .i64 r)))) [] [] := by
  unfold spec_l5Gross_F at hM
  refine cn (N := 49) (pids := []) Try_mixed Try.func59 (by kernel_rfl) (by kernel_rfl) (by kernel_rfl) rfl fun ρ g w R => ?_
  obtain ⟨v1, h2, hM⟩ := bind_some hM
  rcases cond_cases hM with ⟨h3, hM⟩ | ⟨h3, hM⟩
  · have hE : some 0 = some r := hM
    have hE := Option.some.inj hE
    subst hE
    exact pr R 9999 [.call false [] (.o (.c (.v (.int .i64 v1)))) [] [], .as 15 true] [] [] [] (And.intro (spec_FindThing_ok a0 a1 v1 h2) (And.intro h3 True.intro)) (by kernel_rfl)
  · rcases cond_cases hM with ⟨h4, hM⟩ | ⟨h4, hM⟩
    · have hE : some 0 = some r := hM
      have hE := Option.some.inj hE
      subst hE
      exact pr R 9999 [.call false [] (.o (.c (.v (.int .i64 v1)))) [] [], .as 15 false, .as 18 true] [] [] [] (And.intro (spec_FindThing_ok a0 a1 v1 h2) (And.intro h3 (And.intro h4 True.intro))) (by kernel_rfl)
    · obtain ⟨v5, h6, hM⟩ := bind_some hM
      have K1 : ∀ (s9 : Int), spec_l5Gross_L1_a s9 = some r → Gr R [.code (cAt Try.f59 [1, 1, 1, 1, 1])] (⟨[(8, .o (.c (.v (.int .i64 s9))))], []⟩) := by
        intro s9 hM
        unfold spec_l5Gross_L1_a at hM
        have hE : some s9 = some r := hM
        have hE := Option.some.inj hE
        subst hE
        exact pr R 9999 [] [] [] [] True.intro (by kernel_rfl)
      refine pc R 9999 [.call false [] (.o (.c (.v (.int .i64 v1)))) [] [], .as 15 false, .as 18 false, .ix (Thing.enc v5)] [.keep [0, 1, 2, 8, 9] []] (k' := [.code (.loop (cAt Try.f59 [1, 1, 1, 1, 0, 1, 0, 0])), .blk 0, .code (cAt Try.f59 [1, 1, 1, 1, 1])]) (S' := spec_l5Gross_L1_S a0 a1 a2 (v5.Own, 0)) (And.intro (spec_FindThing_ok a0 a1 v1 h2) (And.intro h3 (And.intro h4 (And.intro (gi_map Thing.enc h6) True.intro)))) (by kernel_rfl) ?_
      refine lq (spec_l5Gross_L1_S a0 a1 a2) (body := spec_l5Gross_L1 self a0 a1 a2) (k := spec_l5Gross_L1_k) hM fun m1 s c1 hM hK1 => ?_
      obtain ⟨s7, s8⟩ := s
      have hM : spec_l5Gross_L1_b self a0 a1 a2 s7 s8 = some c1 := hM
      unfold spec_l5Gross_L1_b at hM
      rcases cond_cases hM with ⟨h10, hM⟩ | ⟨h10, hM⟩
      · obtain ⟨v11, h12, hM⟩ := bind_some hM
        rcases cond_cases hM with ⟨h13, hM⟩ | ⟨h13, hM⟩
        · obtain ⟨v14, h15, hM⟩ := bind_some hM
          obtain ⟨v16, h17, hM⟩ := bind_some hM
          have hE : some (Ctl.next (w64 (s7 + v16), w64 (s8 + 1))) = some c1 := hM
          have hE := Option.some.inj hE
          subst hE
          exact pc R 9999 [.ln (a0.length), .as 27 true, .ix (Thing.enc v11), .as 36 true, .ix (Thing.enc v14), .call false [] (.o (.c (.v (.int .i64 v16)))) [] []] [.keep [0, 1, 2, 8, 9] []] (And.intro (lenm Thing.enc a0) (And.intro h10 (And.intro (gi_map Thing.enc h12) (And.intro h13 (And.intro (gi_map Thing.enc h15) (And.intro (ih a0 v14.Id (w64 (a2 - 1)) v16 h17) True.intro)))))) (by kernel_rfl) (li (Sf := spec_l5Gross_L1_S a0 a1 a2) (M := Mk (spec_l5Gross_L1 self a0 a1 a2) (spec_l5Gross_L1_k) r) (k := [.blk 0, .code (cAt Try.f59 [1, 1, 1, 1, 1])]) (Nat.lt_succ_self m1) hK1)
        · have hE : some (Ctl.next (s7, w64 (s8 + 1))) = some c1 := hM
          have hE := Option.some.inj hE
          subst hE
          exact pc R 9999 [.ln (a0.length), .as 27 true, .ix (Thing.enc v11), .as 36 false] [.keep [0, 1, 2, 8, 9] []] (And.intro (lenm Thing.enc a0) (And.intro h10 (And.intro (gi_map Thing.enc h12) (And.intro h13 True.intro)))) (by kernel_rfl) (li (Sf := spec_l5Gross_L1_S a0 a1 a2) (M := Mk (spec_l5Gross_L1 self a0 a1 a2) (spec_l5Gross_L1_k) r) (k := [.blk 0, .code (cAt Try.f59 [1, 1, 1, 1, 1])]) (Nat.lt_succ_self m1) hK1)
      · have hE : some (Ctl.brk s7) = some c1 := hM
        have hE := Option.some.inj hE
        subst hE
        exact pc R 5 [.ln (a0.length), .as 27 false] [.keep [8] []] (And.intro (lenm Thing.enc a0) (And.intro h10 True.intro)) (by kernel_rfl) (K1 s7 hK1)
theorem spec_l5Gross_nok : ∀ (n : Nat) (a0 : (List Thing)) (a1 : Int) (a2 : Int) (r : Int), spec_l5Gross_n n a0 a1 a2 = some r →
    Con Try.prog 59 [.c (.rs 6 (a0.map Thing.enc)), .c (.v (.int .i64 a1)), .c (.v (.int .i64 a2))] [] (.o (.c (.v (.int .i64 r)))) [] []
  | 0, _, _, _, _, h => by cases h
  | n + 1, a0, a1, a2, r, h => spec_l5Gross_step (spec_l5Gross_n n) (spec_l5Gross_nok n) a0 a1 a2 r h
theorem spec_l5Gross_ok (a0 : (List Thing)) (a1 : Int) (a2 : Int) (r : Int) (h : spec_l5Gross a0 a1 a2 = some r) :
    Con Try.prog 59 [.c (.rs 6 (a0.map Thing.enc)), .c (.v (.int .i64 a1)), .c (.v (.int .i64 a2))] [] (.o (.c (.v (.int .i64 r)))) [] [] := spec_l5Gross_nok big a0 a1 a2 r h

-- loop.example/g03014/spec.l5Load
def spec_l5Load (a0 : (List Thing)) (a1 : Int) : Option Int :=
  (spec_FindThing a0 a1).bind fun v1 =>
  (spec_l5Gross a0 a1 5).bind fun v3 =>
  (gi a0 v1).bind fun v5 =>
  some (w64 (v3 - v5.Own))
theorem spec_l5Load_ok (a0 : (List Thing)) (a1 : Int) (r : Int) (hM : spec_l5Load a0 a1 = some r) :
    Con Try.prog 37 [.c (.rs 6 (a0.map Thing.enc)), .c (.v (.int .i64 a1))] [] (.o (.c (.v (.int .i64 r)))) [] [] := by
  unfold spec_l5Load at hM
  refine cn (N := 18) (pids := []) Try_mixed Try.func37 (by kernel_rfl) (by kernel_rfl) (by kernel_rfl) rfl fun ρ g w R => ?_
  obtain ⟨v1, h2, hM⟩ := bind_some hM
  obtain ⟨v3, h4, hM⟩ := bind_some hM
  obtain ⟨v5, h6, hM⟩ := bind_some hM
  have hE : some (w64 (v3 - v5.Own)) = some r := hM
  have hE := Option.some.inj hE
  subst hE
  exact pr R 9999 [.call false [] (.o (.c (.v (.int .i64 v1)))) [] [], .call false [] (.o (.c (.v (.int .i64 v3)))) [] [], .ix (Thing.enc v5)] [] [] [] (And.intro (spec_FindThing_ok a0 a1 v1 h2) (And.intro (spec_l5Gross_ok a0 a1 5 v3 h4) (And.intro (gi_map Thing.enc h6) True.intro))) (by kernel_rfl)

-- loop.example/g03014/spec.AreThings
def spec_AreThings_L2_b (a0 : (List Thing)) (s3 : Int) : Option (Ctl Int Unit Bool) :=
  bif (decide (s3 < (a0.length : Int))) then
  (gi a0 s3).bind fun v5 =>
  bif v5.Box then
  (gi a0 s3).bind fun v8 =>
  (spec_l5Load a0 v8.Id).bind fun v10 =>
  (gi a0 s3).bind fun v12 =>
  bif (decide (v10 > v12.Room)) then
  some (.ret false)
  else
  some (.next (w64 (s3 + 1)))
  else
  some (.next (w64 (s3 + 1)))
  else
  some (.brk ())
def spec_AreThings_L2 (a0 : (List Thing)) (s : Int) : Option (Ctl Int Unit Bool) := spec_AreThings_L2_b a0 s
def spec_AreThings_L2_s (a0 : (List Thing)) (s3 : Int) : St := ⟨[(0, .o (.c (.rs 6 (a0.map Thing.enc)))), (4, .o (.c (.v (.int .i64 s3))))], []⟩
def spec_AreThings_L2_S (a0 : (List Thing)) (s : Int) : St := spec_AreThings_L2_s a0 s
def spec_AreThings_L2_a : Option Bool :=
  some true
def spec_AreThings_L2_k (x : (Unit) ⊕ (Bool)) : Option Bool := match x with
  | .inl t => spec_AreThings_L2_a
  | .inr y => some y
def spec_AreThings_L1_b (a0 : (List Thing)) (s2 : Int) : Option (Ctl Int Unit Bool) :=
  bif (decide (s2 < (a0.length : Int))) then
  (spec_l5One a0 s2).bind fun v16 =>
  bif (!v16) then
  some (.ret false)
  else
  (gi a0 s2).bind fun v19 =>
  (spec_l5Depth a0 v19.Id).bind fun v21 =>
  bif (decide (v21 > 4)) then
  some (.ret false)
  else
  some (.next (w64 (s2 + 1)))
  else
  some (.brk ())
def spec_AreThings_L1 (a0 : (List Thing)) (s : Int) : Option (Ctl Int Unit Bool) := spec_AreThings_L1_b a0 s
def spec_AreThings_L1_s (a0 : (List Thing)) (s2 : Int) : St := ⟨[(0, .o (.c (.rs 6 (a0.map Thing.enc)))), (3, .o (.c (.v (.int .i64 s2))))], []⟩
def spec_AreThings_L1_S (a0 : (List Thing)) (s : Int) : St := spec_AreThings_L1_s a0 s
def spec_AreThings_L1_a (a0 : (List Thing)) : Option Bool :=
  (loopM (spec_AreThings_L2 a0) big 0).bind (spec_AreThings_L2_k)
def spec_AreThings_L1_k (a0 : (List Thing)) (x : (Unit) ⊕ (Bool)) : Option Bool := match x with
  | .inl t => spec_AreThings_L1_a a0
  | .inr y => some y
def spec_AreThings (a0 : (List Thing)) : Option Bool :=
  bif (decide ((a0.length : Int) > 40)) then
  some false
  else
  (loopM (spec_AreThings_L1 a0) big 0).bind (spec_AreThings_L1_k a0)
theorem spec_AreThings_ok (a0 : (List Thing)) (r : Bool) (hM : spec_AreThings a0 = some r) :
    Con Try.prog 8 [.c (.rs 6 (a0.map Thing.enc))] [] (.o (.c (.v (.bool r)))) [] [] := by
  unfold spec_AreThings at hM
  refine cn (N := 54) (pids := []) Try_mixed Try.func8 (by kernel_rfl) (by kernel_rfl) (by kernel_rfl) rfl fun ρ g w R => ?_
  rcases cond_cases hM with ⟨h1, hM⟩ | ⟨h1, hM⟩
  · have hE : some false = some r := hM
    have hE := Option.some.inj hE
    subst hE
    exact pr R 9999 [.ln (a0.length), .as 7 true] [] [] [] (And.intro (lenm Thing.enc a0) (And.intro h1 True.intro)) (by kernel_rfl)
  · have K1 : ∀ (_ : Unit), spec_AreThings_L1_a a0 = some r → Gr R [.code (cAt Try.f8 [1, 1, 1])] (⟨[(0, .o (.c (.rs 6 (a0.map Thing.enc))))], []⟩) := by
      intro _ hM
      unfold spec_AreThings_L1_a at hM
      have K2 : ∀ (_ : Unit), spec_AreThings_L2_a = some r → Gr R [.code (cAt Try.f8 [1, 1, 1, 1])] (⟨[], []⟩) := by
        intro _ hM
        unfold spec_AreThings_L2_a at hM
        have hE : some true = some r := hM
        have hE := Option.some.inj hE
        subst hE
        exact pr R 9999 [] [] [] [] True.intro (by kernel_rfl)
      refine pc R 9999 [] [.keep [0, 4] []] (k' := [.code (.loop (cAt Try.f8 [1, 1, 1, 0, 1, 0, 0])), .blk 2, .code (cAt Try.f8 [1, 1, 1, 1])]) (S' := spec_AreThings_L2_S a0 0) True.intro (by kernel_rfl) ?_
      refine lq (spec_AreThings_L2_S a0) (body := spec_AreThings_L2 a0) (k := spec_AreThings_L2_k) hM fun m2 s c2 hM hK2 => ?_
      obtain ⟨s3, hs⟩ : ∃ z, z = s := ⟨_, rfl⟩
      subst hs
      have hM : spec_AreThings_L2_b a0 s3 = some c2 := hM
      unfold spec_AreThings_L2_b at hM
      rcases cond_cases hM with ⟨h4, hM⟩ | ⟨h4, hM⟩
      · obtain ⟨v5, h6, hM⟩ := bind_some hM
        rcases cond_cases hM with ⟨h7, hM⟩ | ⟨h7, hM⟩
        · obtain ⟨v8, h9, hM⟩ := bind_some hM
          obtain ⟨v10, h11, hM⟩ := bind_some hM
          obtain ⟨v12, h13, hM⟩ := bind_some hM
          rcases cond_cases hM with ⟨h14, hM⟩ | ⟨h14, hM⟩
          · have hE : some (Ctl.ret false) = some c2 := hM
            have hE := Option.some.inj hE
            subst hE
            have hE : some false = some r := hK2
            have hE := Option.some.inj hE
            subst hE
            exact pr R 9999 [.ln (a0.length), .as 31 true, .ix (Thing.enc v5), .as 39 true, .ix (Thing.enc v8), .call false [] (.o (.c (.v (.int .i64 v10)))) [] [], .ix (Thing.enc v12), .as 53 true] [] [] [] (And.intro (lenm Thing.enc a0) (And.intro h4 (And.intro (gi_map Thing.enc h6) (And.intro h7 (And.intro (gi_map Thing.enc h9) (And.intro (spec_l5Load_ok a0 v8.Id v10 h11) (And.intro (gi_map Thing.enc h13) (And.intro h14 True.intro)))))))) (by kernel_rfl)
          · have hE : some (Ctl.next (w64 (s3 + 1))) = some c2 := hM
            have hE := Option.some.inj hE
            subst hE
            exact pc R 9999 [.ln (a0.length), .as 31 true, .ix (Thing.enc v5), .as 39 true, .ix (Thing.enc v8), .call false [] (.o (.c (.v (.int .i64 v10)))) [] [], .ix (Thing.enc v12), .as 53 false] [.keep [0, 4] []] (And.intro (lenm Thing.enc a0) (And.intro h4 (And.intro (gi_map Thing.enc h6) (And.intro h7 (And.intro (gi_map Thing.enc h9) (And.intro (spec_l5Load_ok a0 v8.Id v10 h11) (And.intro (gi_map Thing.enc h13) (And.intro h14 True.intro)))))))) (by kernel_rfl) (li (Sf := spec_AreThings_L2_S a0) (M := Mk (spec_AreThings_L2 a0) (spec_AreThings_L2_k) r) (k := [.blk 2, .code (cAt Try.f8 [1, 1, 1, 1])]) (Nat.lt_succ_self m2) hK2)
        · have hE : some (Ctl.next (w64 (s3 + 1))) = some c2 := hM
          have hE := Option.some.inj hE
          subst hE
          exact pc R 9999 [.ln (a0.length), .as 31 true, .ix (Thing.enc v5), .as 39 false] [.keep [0, 4] []] (And.intro (lenm Thing.enc a0) (And.intro h4 (And.intro (gi_map Thing.enc h6) (And.intro h7 True.intro)))) (by kernel_rfl) (li (Sf := spec_AreThings_L2_S a0) (M := Mk (spec_AreThings_L2 a0) (spec_AreThings_L2_k) r) (k := [.blk 2, .code (cAt Try.f8 [1, 1, 1, 1])]) (Nat.lt_succ_self m2) hK2)
      · have hE : some (Ctl.brk ()) = some c2 := hM
        have hE := Option.some.inj hE
        subst hE
        exact pc R 5 [.ln (a0.length), .as 31 false] [.keep [] []] (And.intro (lenm Thing.enc a0) (And.intro h4 True.intro)) (by kernel_rfl) (K2 () hK2)
    refine pc R 9999 [.ln (a0.length), .as 7 false] [.keep [0, 3] []] (k' := [.code (.loop (cAt Try.f8 [1, 1, 0, 1, 0, 0])), .blk 0, .code (cAt Try.f8 [1, 1, 1])]) (S' := spec_AreThings_L1_S a0 0) (And.intro (lenm Thing.enc a0) (And.intro h1 True.intro)) (by kernel_rfl) ?_
    refine lq (spec_AreThings_L1_S a0) (body := spec_AreThings_L1 a0) (k := spec_AreThings_L1_k a0) hM fun m1 s c1 hM hK1 => ?_
    obtain ⟨s2, hs⟩ : ∃ z, z = s := ⟨_, rfl⟩
    subst hs
    have hM : spec_AreThings_L1_b a0 s2 = some c1 := hM
    unfold spec_AreThings_L1_b at hM
    rcases cond_cases hM with ⟨h15, hM⟩ | ⟨h15, hM⟩
    · obtain ⟨v16, h17, hM⟩ := bind_some hM
      rcases cond_cases hM with ⟨h18, hM⟩ | ⟨h18, hM⟩
      · have hE : some (Ctl.ret false) = some c1 := hM
        have hE := Option.some.inj hE
        subst hE
        have hE : some false = some r := hK1
        have hE := Option.some.inj hE
        subst hE
        exact pr R 9999 [.ln (a0.length), .as 11 true, .call false [] (.o (.c (.v (.bool v16)))) [] [], .as 18 true] [] [] [] (And.intro (lenm Thing.enc a0) (And.intro h15 (And.intro (spec_l5One_ok a0 s2 v16 h17) (And.intro h18 True.intro)))) (by kernel_rfl)
      · obtain ⟨v19, h20, hM⟩ := bind_some hM
        obtain ⟨v21, h22, hM⟩ := bind_some hM
        rcases cond_cases hM with ⟨h23, hM⟩ | ⟨h23, hM⟩
        · have hE : some (Ctl.ret false) = some c1 := hM
          have hE := Option.some.inj hE
          subst hE
          have hE : some false = some r := hK1
          have hE := Option.some.inj hE
          subst hE
          exact pr R 9999 [.ln (a0.length), .as 11 true, .call false [] (.o (.c (.v (.bool v16)))) [] [], .as 18 false, .ix (Thing.enc v19), .call false [] (.o (.c (.v (.int .i64 v21)))) [] [], .as 27 true] [] [] [] (And.intro (lenm Thing.enc a0) (And.intro h15 (And.intro (spec_l5One_ok a0 s2 v16 h17) (And.intro h18 (And.intro (gi_map Thing.enc h20) (And.intro (spec_l5Depth_ok a0 v19.Id v21 h22) (And.intro h23 True.intro))))))) (by kernel_rfl)
        · have hE : some (Ctl.next (w64 (s2 + 1))) = some c1 := hM
          have hE := Option.some.inj hE
          subst hE
          exact pc R 9999 [.ln (a0.length), .as 11 true, .call false [] (.o (.c (.v (.bool v16)))) [] [], .as 18 false, .ix (Thing.enc v19), .call false [] (.o (.c (.v (.int .i64 v21)))) [] [], .as 27 false] [.keep [0, 3] []] (And.intro (lenm Thing.enc a0) (And.intro h15 (And.intro (spec_l5One_ok a0 s2 v16 h17) (And.intro h18 (And.intro (gi_map Thing.enc h20) (And.intro (spec_l5Depth_ok a0 v19.Id v21 h22) (And.intro h23 True.intro))))))) (by kernel_rfl) (li (Sf := spec_AreThings_L1_S a0) (M := Mk (spec_AreThings_L1 a0) (spec_AreThings_L1_k a0) r) (k := [.blk 0, .code (cAt Try.f8 [1, 1, 1])]) (Nat.lt_succ_self m1) hK1)
    · have hE : some (Ctl.brk ()) = some c1 := hM
      have hE := Option.some.inj hE
      subst hE
      exact pc R 5 [.ln (a0.length), .as 11 false] [.keep [0] []] (And.intro (lenm Thing.enc a0) (And.intro h15 True.intro)) (by kernel_rfl) (K1 () hK1)

-- loop.example/g03014/spec.GrossOf
def spec_GrossOf (a0 : (List Thing)) (a1 : Int) : Option Int :=
  (spec_AreThings a0).bind fun v1 =>
  bif (!v1) then
  some 0
  else
  (spec_l5Gross a0 a1 5).bind fun v4 =>
  some v4
theorem spec_GrossOf_ok (a0 : (List Thing)) (a1 : Int) (r : Int) (hM : spec_GrossOf a0 a1 = some r) :
    Con Try.prog 61 [.c (.rs 6 (a0.map Thing.enc)), .c (.v (.int .i64 a1))] [] (.o (.c (.v (.int .i64 r)))) [] [] := by
  unfold spec_GrossOf at hM
  refine cn (N := 11) (pids := []) Try_mixed Try.func61 (by kernel_rfl) (by kernel_rfl) (by kernel_rfl) rfl fun ρ g w R => ?_
  obtain ⟨v1, h2, hM⟩ := bind_some hM
  rcases cond_cases hM with ⟨h3, hM⟩ | ⟨h3, hM⟩
  · have hE : some 0 = some r := hM
    have hE := Option.some.inj hE
    subst hE
    exact pr R 9999 [.call false [] (.o (.c (.v (.bool v1)))) [] [], .as 7 true] [] [] [] (And.intro (spec_AreThings_ok a0 v1 h2) (And.intro h3 True.intro)) (by kernel_rfl)
  · obtain ⟨v4, h5, hM⟩ := bind_some hM
    have hE : some v4 = some r := hM
    have hE := Option.some.inj hE
    subst hE
    exact pr R 9999 [.call false [] (.o (.c (.v (.bool v1)))) [] [], .as 7 false, .call false [] (.o (.c (.v (.int .i64 v4)))) [] []] [] [] [] (And.intro (spec_AreThings_ok a0 v1 h2) (And.intro h3 (And.intro (spec_l5Gross_ok a0 a1 5 v4 h5) True.intro))) (by kernel_rfl)

-- loop.example/g03014/spec.l1Ints
def spec_l1Ints (a0 : (List Int)) : Option (List Int) :=
  (ap 8 ([] : List Int) a0).bind fun v1 =>
  some v1
theorem spec_l1Ints_ok (a0 : (List Int)) (r : (List Int)) (hM : spec_l1Ints a0 = some r) :
    Con Try.prog 62 [.c (.rs 1 (a0.map encI))] [] (.o (.c (.sl 1000))) [] [(1000, .row 3 1 (r.map encI))] := by
  unfold spec_l1Ints at hM
  refine cn (N := 6) (pids := []) Try_mixed Try.func62 (by kernel_rfl) (by kernel_rfl) (by kernel_rfl) rfl fun ρ g w R => ?_
  obtain ⟨v1, h2, hM⟩ := bind_some hM
  have hE : some v1 = some r := hM
  have hE := Option.some.inj hE
  subst hE
  exact pr R 9999 [.new 0, .new 1, .nm (v1.map encI)] [.sw 1 1000] [] [1000] (And.intro (ap_ok encI h2) True.intro) (by kernel_rfl)

-- loop.example/g03014/spec.l5Heavy
def spec_l5Heavy_x4 (a0 : (List Thing)) (a1 : (List Int)) (s2 : Int) (v21 : (List Int)) : St := ⟨[(0, .o (.c (.rs 6 (a0.map Thing.enc)))), (1, .o (.c (.rs 1 (a1.map encI)))), (5, .o (.c (.sl 4))), (6, .o (.c (.v (.int .i64 s2))))], [(4, .row 3 1 (v21.map encI))]⟩
def spec_l5Heavy_L2_b (a0 : (List Thing)) (a1 : (List Int)) (s1 : (List Int)) (s2 : Int) (v7 : Int) (s9 : Int) : Option (Ctl Int Int (List Int)) :=
  bif (decide (s9 < (s1.length : Int))) then
  (gi s1 s9).bind fun v24 =>
  (spec_GrossOf a0 v24).bind fun v26 =>
  bif (decide (v26 > v7)) then
  some (.next (w64 (s9 + 1)))
  else
  (gi s1 s9).bind fun v29 =>
  (spec_GrossOf a0 v29).bind fun v31 =>
  bif (v31 == v7) then
  (gi s1 s9).bind fun v34 =>
  (gi a1 s2).bind fun v36 =>
  bif (decide (v34 ≤ v36)) then
  some (.next (w64 (s9 + 1)))
  else
  some (.brk s9)
  else
  some (.brk s9)
  else
  some (.brk s9)
def spec_l5Heavy_L2 (a0 : (List Thing)) (a1 : (List Int)) (s1 : (List Int)) (s2 : Int) (v7 : Int) (s : Int) : Option (Ctl Int Int (List Int)) := spec_l5Heavy_L2_b a0 a1 s1 s2 v7 s
def spec_l5Heavy_L2_s (a0 : (List Thing)) (a1 : (List Int)) (s1 : (List Int)) (s2 : Int) (v7 : Int) (s9 : Int) : St := ⟨[(0, .o (.c (.rs 6 (a0.map Thing.enc)))), (1, .o (.c (.rs 1 (a1.map encI)))), (5, .o (.c (.sl 0))), (6, .o (.c (.v (.int .i64 s2)))), (7, .o (.c (.v (.int .i64 v7)))), (8, .o (.c (.v (.int .i64 s9))))], [(0, .row 3 1 (s1.map encI))]⟩
def spec_l5Heavy_L2_S (a0 : (List Thing)) (a1 : (List Int)) (s1 : (List Int)) (s2 : Int) (v7 : Int) (s : Int) : St := spec_l5Heavy_L2_s a0 a1 s1 s2 v7 s
def spec_l5Heavy_L2_a (a1 : (List Int)) (s1 : (List Int)) (s2 : Int) (s10 : Int) : Option (Ctl ((List Int) × Int) (List Int) (List Int)) :=
  (slM s1 0 s10).bind fun v11 =>
  (spec_l1Ints v11).bind fun v13 =>
  (gi a1 s2).bind fun v15 =>
  (ap 8 v13 ([v15] : List Int)).bind fun v17 =>
  (slM s1 s10 s1.length).bind fun v19 =>
  (ap 8 v17 v19).bind fun v21 =>
  some (.next (v21, w64 (s2 + 1)))
def spec_l5Heavy_L2_k (a1 : (List Int)) (s1 : (List Int)) (s2 : Int) (x : (Int) ⊕ ((List Int))) : Option (Ctl ((List Int) × Int) (List Int) (List Int)) := match x with
  | .inl t => spec_l5Heavy_L2_a a1 s1 s2 t
  | .inr y => some (.ret y)
def spec_l5Heavy_L1_b (a0 : (List Thing)) (a1 : (List Int)) (s1 : (List Int)) (s2 : Int) : Option (Ctl ((List Int) × Int) (List Int) (List Int)) :=
  bif (decide (s2 < (a1.length : Int))) then
  (gi a1 s2).bind fun v5 =>
  (spec_GrossOf a0 v5).bind fun v7 =>
  (loopM (spec_l5Heavy_L2 a0 a1 s1 s2 v7) big 0).bind (spec_l5Heavy_L2_k a1 s1 s2)
  else
  some (.brk s1)
def spec_l5Heavy_L1 (a0 : (List Thing)) (a1 : (List Int)) (s : (List Int) × Int) : Option (Ctl ((List Int) × Int) (List Int) (List Int)) := spec_l5Heavy_L1_b a0 a1 s.1 s.2
def spec_l5Heavy_L1_s (a0 : (List Thing)) (a1 : (List Int)) (s1 : (List Int)) (s2 : Int) : St := ⟨[(0, .o (.c (.rs 6 (a0.map Thing.enc)))), (1, .o (.c (.rs 1 (a1.map encI)))), (5, .o (.c (.sl 0))), (6, .o (.c (.v (.int .i64 s2))))], [(0, .row 3 1 (s1.map encI))]⟩
def spec_l5Heavy_L1_S (a0 : (List Thing)) (a1 : (List Int)) (s : (List Int) × Int) : St := spec_l5Heavy_L1_s a0 a1 s.1 s.2
def spec_l5Heavy_L1_a (s3 : (List Int)) : Option (List Int) :=
  some s3
def spec_l5Heavy_L1_k (x : ((List Int)) ⊕ ((List Int))) : Option (List Int) := match x with
  | .inl t => spec_l5Heavy_L1_a t
  | .inr y => some y
def spec_l5Heavy (a0 : (List Thing)) (a1 : (List Int)) : Option (List Int) :=
  (loopM (spec_l5Heavy_L1 a0 a1) big (([] : List Int), 0)).bind (spec_l5Heavy_L1_k)
theorem spec_l5Heavy_ok (a0 : (List Thing)) (a1 : (List Int)) (r : (List Int)) (hM : spec_l5Heavy a0 a1 = some r) :
    Con Try.prog 41 [.c (.rs 6 (a0.map Thing.enc)), .c (.rs 1 (a1.map encI))] [] (.o (.c (.sl 1000))) [] [(1000, .row 3 1 (r.map encI))] := by
  unfold spec_l5Heavy at hM
  refine cn (N := 74) (pids := []) Try_mixed Try.func41 (by kernel_rfl) (by kernel_rfl) (by kernel_rfl) rfl fun ρ g w R => ?_
  have K1 : ∀ (s3 : (List Int)), spec_l5Heavy_L1_a s3 = some r → Gr R [.code (cAt Try.f41 [1, 1, 1])] (⟨[(5, .o (.c (.sl 0)))], [(0, .row 3 1 (s3.map encI))]⟩) := by
    intro s3 hM
    unfold spec_l5Heavy_L1_a at hM
    have hE : some s3 = some r := hM
    have hE := Option.some.inj hE
    subst hE
    exact pr R 9999 [] [.sw 0 1000] [] [1000] True.intro (by kernel_rfl)
  refine pc R 9999 [.new 0] [.keep [0, 1, 5, 6] [0]] (k' := [.code (.loop (cAt Try.f41 [1, 1, 0, 1, 0, 0])), .blk 0, .code (cAt Try.f41 [1, 1, 1])]) (S' := spec_l5Heavy_L1_S a0 a1 (([] : List Int), 0)) True.intro (by kernel_rfl) ?_
  refine lq (spec_l5Heavy_L1_S a0 a1) (body := spec_l5Heavy_L1 a0 a1) (k := spec_l5Heavy_L1_k) hM fun m1 s c1 hM hK1 => ?_
  obtain ⟨s1, s2⟩ := s
  have hM : spec_l5Heavy_L1_b a0 a1 s1 s2 = some c1 := hM
  unfold spec_l5Heavy_L1_b at hM
  rcases cond_cases hM with ⟨h4, hM⟩ | ⟨h4, hM⟩
  · obtain ⟨v5, h6, hM⟩ := bind_some hM
    obtain ⟨v7, h8, hM⟩ := bind_some hM
    have K2 : ∀ (s10 : Int), spec_l5Heavy_L2_a a1 s1 s2 s10 = some c1 → Gr R [.code (cAt Try.f41 [1, 1, 0, 1, 0, 0, 1, 0, 0, 1, 1, 1]), .blk 1, .code (cAt Try.f41 [1, 1, 0, 1, 0, 0, 1, 1]), .inv (Jr R (spec_l5Heavy_L1_S a0 a1) (Mk (spec_l5Heavy_L1 a0 a1) (spec_l5Heavy_L1_k) r) (m1 + 1)), .blk 0, .code (cAt Try.f41 [1, 1, 1])] (⟨[(0, .o (.c (.rs 6 (a0.map Thing.enc)))), (1, .o (.c (.rs 1 (a1.map encI)))), (5, .o (.c (.sl 0))), (6, .o (.c (.v (.int .i64 s2)))), (8, .o (.c (.v (.int .i64 s10))))], [(0, .row 3 1 (s1.map encI))]⟩) := by
      intro s10 hM
      unfold spec_l5Heavy_L2_a at hM
      obtain ⟨v11, h12, hM⟩ := bind_some hM
      obtain ⟨v13, h14, hM⟩ := bind_some hM
      obtain ⟨v15, h16, hM⟩ := bind_some hM
      obtain ⟨v17, h18, hM⟩ := bind_some hM
      obtain ⟨v19, h20, hM⟩ := bind_some hM
      obtain ⟨v21, h22, hM⟩ := bind_some hM
      have hE : some (Ctl.next (v21, w64 (s2 + 1))) = some c1 := hM
      have hE := Option.some.inj hE
      subst hE
      exact pc R 9999 [.xo [[], [], [.ad (.fz 0), .nm (v11.map encI)], [.call false [] (.o (.c (.sl 1))) [] [(1, .row 3 1 (v13.map encI))]], [], [], [.ix (encI v15)], [], [.new 2], [.new 3, .nm (v17.map encI)], [], [], [.nm (v19.map encI)], [.new 4, .nm (v21.map encI)], []] [.keep [0, 1, 5, 6] [4]] (spec_l5Heavy_x4 a0 a1 s2 v21)] [.sw 4 0, .keep [0, 1, 5, 6] [0]] (And.intro (slM_ok encI h12) (And.intro (gi_map encI h16) (And.intro (slM_okL encI h20) (And.intro (And.intro (con_sw 1000 1 (spec_l1Ints_ok v11 v13 h14)) (rfl : ([] : List Nat) = [])) (And.intro (ap_ok encI h18) (And.intro (ap_ok encI h22) (And.intro (rfl : (spec_l5Heavy_x4 a0 a1 s2 v21) = (spec_l5Heavy_x4 a0 a1 s2 v21)) (And.intro (And.intro (con_sw 1000 1 (spec_l1Ints_ok v11 v13 h14)) (rfl : ([] : List Nat) = [])) (And.intro (ap_ok encI h18) (And.intro (ap_ok encI h22) (And.intro (rfl : (spec_l5Heavy_x4 a0 a1 s2 v21) = (spec_l5Heavy_x4 a0 a1 s2 v21)) (And.intro (And.intro (con_sw 1000 1 (spec_l1Ints_ok v11 v13 h14)) (rfl : ([] : List Nat) = [])) (And.intro (ap_ok encI h18) (And.intro (ap_ok encI h22) (And.intro (rfl : (spec_l5Heavy_x4 a0 a1 s2 v21) = (spec_l5Heavy_x4 a0 a1 s2 v21)) True.intro))))))))))))))) (by kernel_rfl) (li (Sf := spec_l5Heavy_L1_S a0 a1) (M := Mk (spec_l5Heavy_L1 a0 a1) (spec_l5Heavy_L1_k) r) (k := [.blk 0, .code (cAt Try.f41 [1, 1, 1])]) (Nat.lt_succ_self m1) hK1)
    refine pc R 9999 [.ln (a1.length), .as 13 true, .ix (encI v5), .call false [] (.o (.c (.v (.int .i64 v7)))) [] []] [.keep [0, 1, 5, 6, 7, 8] [0]] (k' := [.code (.loop (cAt Try.f41 [1, 1, 0, 1, 0, 0, 1, 0, 0, 1, 1, 0, 0, 0])), .blk 2, .code (cAt Try.f41 [1, 1, 0, 1, 0, 0, 1, 0, 0, 1, 1, 1]), .blk 1, .code (cAt Try.f41 [1, 1, 0, 1, 0, 0, 1, 1]), .inv (Jr R (spec_l5Heavy_L1_S a0 a1) (Mk (spec_l5Heavy_L1 a0 a1) (spec_l5Heavy_L1_k) r) (m1 + 1)), .blk 0, .code (cAt Try.f41 [1, 1, 1])]) (S' := spec_l5Heavy_L2_S a0 a1 s1 s2 v7 0) (And.intro (lenm encI a1) (And.intro h4 (And.intro (gi_map encI h6) (And.intro (spec_GrossOf_ok a0 v5 v7 h8) True.intro)))) (by kernel_rfl) ?_
    refine lq (spec_l5Heavy_L2_S a0 a1 s1 s2 v7) (body := spec_l5Heavy_L2 a0 a1 s1 s2 v7) (k := spec_l5Heavy_L2_k a1 s1 s2) hM fun m2 s c2 hM hK2 => ?_
    obtain ⟨s9, hs⟩ : ∃ z, z = s := ⟨_, rfl⟩
    subst hs
    have hM : spec_l5Heavy_L2_b a0 a1 s1 s2 v7 s9 = some c2 := hM
    unfold spec_l5Heavy_L2_b at hM
    rcases cond_cases hM with ⟨h23, hM⟩ | ⟨h23, hM⟩
    · obtain ⟨v24, h25, hM⟩ := bind_some hM
      obtain ⟨v26, h27, hM⟩ := bind_some hM
      rcases cond_cases hM with ⟨h28, hM⟩ | ⟨h28, hM⟩
      · have hE : some (Ctl.next (w64 (s9 + 1))) = some c2 := hM
        have hE := Option.some.inj hE
        subst hE
        exact pc R 9999 [.ln (s1.length), .as 26 true, .ix (encI v24), .call false [] (.o (.c (.v (.int .i64 v26)))) [] [], .as 35 true] [.keep [0, 1, 5, 6, 7, 8] [0]] (And.intro (lenm encI s1) (And.intro h23 (And.intro (gi_lt encI h25) (And.intro ((gi_map encI h25).2) (And.intro (spec_GrossOf_ok a0 v24 v26 h27) (And.intro h28 True.intro)))))) (by kernel_rfl) (li (Sf := spec_l5Heavy_L2_S a0 a1 s1 s2 v7) (M := Mk (spec_l5Heavy_L2 a0 a1 s1 s2 v7) (spec_l5Heavy_L2_k a1 s1 s2) c1) (k := [.blk 2, .code (cAt Try.f41 [1, 1, 0, 1, 0, 0, 1, 0, 0, 1, 1, 1]), .blk 1, .code (cAt Try.f41 [1, 1, 0, 1, 0, 0, 1, 1]), .inv (Jr R (spec_l5Heavy_L1_S a0 a1) (Mk (spec_l5Heavy_L1 a0 a1) (spec_l5Heavy_L1_k) r) (m1 + 1)), .blk 0, .code (cAt Try.f41 [1, 1, 1])]) (Nat.lt_succ_self m2) hK2)
      · obtain ⟨v29, h30, hM⟩ := bind_some hM
        obtain ⟨v31, h32, hM⟩ := bind_some hM
        rcases cond_cases hM with ⟨h33, hM⟩ | ⟨h33, hM⟩
        · obtain ⟨v34, h35, hM⟩ := bind_some hM
          obtain ⟨v36, h37, hM⟩ := bind_some hM
          rcases cond_cases hM with ⟨h38, hM⟩ | ⟨h38, hM⟩
          · have hE : some (Ctl.next (w64 (s9 + 1))) = some c2 := hM
            have hE := Option.some.inj hE
            subst hE
            exact pc R 9999 [.ln (s1.length), .as 26 true, .ix (encI v24), .call false [] (.o (.c (.v (.int .i64 v26)))) [] [], .as 35 false, .ix (encI v29), .call false [] (.o (.c (.v (.int .i64 v31)))) [] [], .as 44 true, .ix (encI v34), .ix (encI v36), .as 56 true] [.keep [0, 1, 5, 6, 7, 8] [0]] (And.intro (lenm encI s1) (And.intro h23 (And.intro (gi_lt encI h25) (And.intro ((gi_map encI h25).2) (And.intro (spec_GrossOf_ok a0 v24 v26 h27) (And.intro h28 (And.intro (gi_lt encI h30) (And.intro ((gi_map encI h30).2) (And.intro (spec_GrossOf_ok a0 v29 v31 h32) (And.intro h33 (And.intro (gi_lt encI h35) (And.intro ((gi_map encI h35).2) (And.intro (gi_map encI h37) (And.intro h38 True.intro)))))))))))))) (by kernel_rfl) (li (Sf := spec_l5Heavy_L2_S a0 a1 s1 s2 v7) (M := Mk (spec_l5Heavy_L2 a0 a1 s1 s2 v7) (spec_l5Heavy_L2_k a1 s1 s2) c1) (k := [.blk 2, .code (cAt Try.f41 [1, 1, 0, 1, 0, 0, 1, 0, 0, 1, 1, 1]), .blk 1, .code (cAt Try.f41 [1, 1, 0, 1, 0, 0, 1, 1]), .inv (Jr R (spec_l5Heavy_L1_S a0 a1) (Mk (spec_l5Heavy_L1 a0 a1) (spec_l5Heavy_L1_k) r) (m1 + 1)), .blk 0, .code (cAt Try.f41 [1, 1, 1])]) (Nat.lt_succ_self m2) hK2)
          · have hE : some (Ctl.brk s9) = some c2 := hM
            have hE := Option.some.inj hE
            subst hE
            exact pc R 5 [.ln (s1.length), .as 26 true, .ix (encI v24), .call false [] (.o (.c (.v (.int .i64 v26)))) [] [], .as 35 false, .ix (encI v29), .call false [] (.o (.c (.v (.int .i64 v31)))) [] [], .as 44 true, .ix (encI v34), .ix (encI v36), .as 56 false] [.keep [0, 1, 5, 6, 8] [0]] (And.intro (lenm encI s1) (And.intro h23 (And.intro (gi_lt encI h25) (And.intro ((gi_map encI h25).2) (And.intro (spec_GrossOf_ok a0 v24 v26 h27) (And.intro h28 (And.intro (gi_lt encI h30) (And.intro ((gi_map encI h30).2) (And.intro (spec_GrossOf_ok a0 v29 v31 h32) (And.intro h33 (And.intro (gi_lt encI h35) (And.intro ((gi_map encI h35).2) (And.intro (gi_map encI h37) (And.intro h38 True.intro)))))))))))))) (by kernel_rfl) (K2 s9 hK2)
        · have hE : some (Ctl.brk s9) = some c2 := hM
          have hE := Option.some.inj hE
          subst hE
          exact pc R 5 [.ln (s1.length), .as 26 true, .ix (encI v24), .call false [] (.o (.c (.v (.int .i64 v26)))) [] [], .as 35 false, .ix (encI v29), .call false [] (.o (.c (.v (.int .i64 v31)))) [] [], .as 44 false] [.keep [0, 1, 5, 6, 8] [0]] (And.intro (lenm encI s1) (And.intro h23 (And.intro (gi_lt encI h25) (And.intro ((gi_map encI h25).2) (And.intro (spec_GrossOf_ok a0 v24 v26 h27) (And.intro h28 (And.intro (gi_lt encI h30) (And.intro ((gi_map encI h30).2) (And.intro (spec_GrossOf_ok a0 v29 v31 h32) (And.intro h33 True.intro)))))))))) (by kernel_rfl) (K2 s9 hK2)
    · have hE : some (Ctl.brk s9) = some c2 := hM
      have hE := Option.some.inj hE
      subst hE
      exact pc R 5 [.ln (s1.length), .as 26 false] [.keep [0, 1, 5, 6, 8] [0]] (And.intro (lenm encI s1) (And.intro h23 True.intro)) (by kernel_rfl) (K2 s9 hK2)
  · have hE : some (Ctl.brk s1) = some c1 := hM
    have hE := Option.some.inj hE
    subst hE
    exact pc R 5 [.ln (a1.length), .as 13 false] [.keep [5] [0]] (And.intro (lenm encI a1) (And.intro h4 True.intro)) (by kernel_rfl) (K1 s1 hK1)

-- loop.example/g03014/spec.l5Around
def spec_l5Around_L1_b (a0 : (List Thing)) (a2 : Int) (s3 : Int) : Option (Ctl Int Unit Bool) :=
  bif (decide (s3 ≥ 0)) then
  (gi a0 s3).bind fun v5 =>
  bif (v5.In != 0) then
  (gi a0 s3).bind fun v8 =>
  bif (v8.In == a2) then
  some (.ret true)
  else
  (gi a0 s3).bind fun v11 =>
  (spec_FindThing a0 v11.In).bind fun v13 =>
  some (.next v13)
  else
  some (.brk ())
  else
  some (.brk ())
def spec_l5Around_L1 (a0 : (List Thing)) (a2 : Int) (s : Int) : Option (Ctl Int Unit Bool) := spec_l5Around_L1_b a0 a2 s
def spec_l5Around_L1_s (a0 : (List Thing)) (a2 : Int) (s3 : Int) : St := ⟨[(0, .o (.c (.rs 6 (a0.map Thing.enc)))), (2, .o (.c (.v (.int .i64 a2)))), (7, .o (.c (.v (.int .i64 s3))))], []⟩
def spec_l5Around_L1_S (a0 : (List Thing)) (a2 : Int) (s : Int) : St := spec_l5Around_L1_s a0 a2 s
def spec_l5Around_L1_a : Option Bool :=
  some false
def spec_l5Around_L1_k (x : (Unit) ⊕ (Bool)) : Option Bool := match x with
  | .inl t => spec_l5Around_L1_a
  | .inr y => some y
def spec_l5Around (a0 : (List Thing)) (a1 : Int) (a2 : Int) : Option Bool :=
  (spec_FindThing a0 a1).bind fun v1 =>
  (loopM (spec_l5Around_L1 a0 a2) big v1).bind (spec_l5Around_L1_k)
theorem spec_l5Around_ok (a0 : (List Thing)) (a1 : Int) (a2 : Int) (r : Bool) (hM : spec_l5Around a0 a1 a2 = some r) :
    Con Try.prog 64 [.c (.rs 6 (a0.map Thing.enc)), .c (.v (.int .i64 a1)), .c (.v (.int .i64 a2))] [] (.o (.c (.v (.bool r)))) [] [] := by
  unfold spec_l5Around at hM
  refine cn (N := 35) (pids := []) Try_mixed Try.func64 (by kernel_rfl) (by kernel_rfl) (by kernel_rfl) rfl fun ρ g w R => ?_
  obtain ⟨v1, h2, hM⟩ := bind_some hM
  have K1 : ∀ (_ : Unit), spec_l5Around_L1_a = some r → Gr R [.code (cAt Try.f64 [1, 1, 1])] (⟨[], []⟩) := by
    intro _ hM
    unfold spec_l5Around_L1_a at hM
    have hE : some false = some r := hM
    have hE := Option.some.inj hE
    subst hE
    exact pr R 9999 [] [] [] [] True.intro (by kernel_rfl)
  refine pc R 9999 [.call false [] (.o (.c (.v (.int .i64 v1)))) [] []] [.keep [0, 2, 7] []] (k' := [.code (.loop (cAt Try.f64 [1, 1, 0, 0, 0])), .blk 0, .code (cAt Try.f64 [1, 1, 1])]) (S' := spec_l5Around_L1_S a0 a2 v1) (And.intro (spec_FindThing_ok a0 a1 v1 h2) True.intro) (by kernel_rfl) ?_
  refine lq (spec_l5Around_L1_S a0 a2) (body := spec_l5Around_L1 a0 a2) (k := spec_l5Around_L1_k) hM fun m1 s c1 hM hK1 => ?_
  obtain ⟨s3, hs⟩ : ∃ z, z = s := ⟨_, rfl⟩
  subst hs
  have hM : spec_l5Around_L1_b a0 a2 s3 = some c1 := hM
  unfold spec_l5Around_L1_b at hM
  rcases cond_cases hM with ⟨h4, hM⟩ | ⟨h4, hM⟩
  · obtain ⟨v5, h6, hM⟩ := bind_some hM
    rcases cond_cases hM with ⟨h7, hM⟩ | ⟨h7, hM⟩
    · obtain ⟨v8, h9, hM⟩ := bind_some hM
      rcases cond_cases hM with ⟨h10, hM⟩ | ⟨h10, hM⟩
      · have hE : some (Ctl.ret true) = some c1 := hM
        have hE := Option.some.inj hE
        subst hE
        have hE : some true = some r := hK1
        have hE := Option.some.inj hE
        subst hE
        exact pr R 9999 [.as 13 true, .ix (Thing.enc v5), .as 20 true, .ix (Thing.enc v8), .as 27 true] [] [] [] (And.intro h4 (And.intro (gi_map Thing.enc h6) (And.intro h7 (And.intro (gi_map Thing.enc h9) (And.intro h10 True.intro))))) (by kernel_rfl)
      · obtain ⟨v11, h12, hM⟩ := bind_some hM
        obtain ⟨v13, h14, hM⟩ := bind_some hM
        have hE : some (Ctl.next v13) = some c1 := hM
        have hE := Option.some.inj hE
        subst hE
        exact pc R 9999 [.as 13 true, .ix (Thing.enc v5), .as 20 true, .ix (Thing.enc v8), .as 27 false, .ix (Thing.enc v11), .call false [] (.o (.c (.v (.int .i64 v13)))) [] []] [.keep [0, 2, 7] []] (And.intro h4 (And.intro (gi_map Thing.enc h6) (And.intro h7 (And.intro (gi_map Thing.enc h9) (And.intro h10 (And.intro (gi_map Thing.enc h12) (And.intro (spec_FindThing_ok a0 v11.In v13 h14) True.intro))))))) (by kernel_rfl) (li (Sf := spec_l5Around_L1_S a0 a2) (M := Mk (spec_l5Around_L1 a0 a2) (spec_l5Around_L1_k) r) (k := [.blk 0, .code (cAt Try.f64 [1, 1, 1])]) (Nat.lt_succ_self m1) hK1)
    · have hE : some (Ctl.brk ()) = some c1 := hM
      have hE := Option.some.inj hE
      subst hE
      exact pc R 5 [.as 13 true, .ix (Thing.enc v5), .as 20 false] [.keep [] []] (And.intro h4 (And.intro (gi_map Thing.enc h6) (And.intro h7 True.intro))) (by kernel_rfl) (K1 () hK1)
  · have hE : some (Ctl.brk ()) = some c1 := hM
    have hE := Option.some.inj hE
    subst hE
    exact pc R 5 [.as 13 false] [.keep [] []] (And.intro h4 True.intro) (by kernel_rfl) (K1 () hK1)

-- loop.example/g03014/spec.l5Locked
def spec_l5Locked_L1_b (a0 : (List Thing)) (a1 : Int) (s1 : Int) : Option (Ctl Int Unit Bool) :=
  bif (decide (s1 < (a0.length : Int))) then
  (gi a0 s1).bind fun v3 =>
  bif v3.Sealed then
  (gi a0 s1).bind fun v6 =>
  (spec_l5Around a0 a1 v6.Id).bind fun v8 =>
  bif v8 then
  some (.ret true)
  else
  some (.next (w64 (s1 + 1)))
  else
  some (.next (w64 (s1 + 1)))
  else
  some (.brk ())
def spec_l5Locked_L1 (a0 : (List Thing)) (a1 : Int) (s : Int) : Option (Ctl Int Unit Bool) := spec_l5Locked_L1_b a0 a1 s
def spec_l5Locked_L1_s (a0 : (List Thing)) (a1 : Int) (s1 : Int) : St := ⟨[(0, .o (.c (.rs 6 (a0.map Thing.enc)))), (1, .o (.c (.v (.int .i64 a1)))), (5, .o (.c (.v (.int .i64 s1))))], []⟩
def spec_l5Locked_L1_S (a0 : (List Thing)) (a1 : Int) (s : Int) : St := spec_l5Locked_L1_s a0 a1 s
def spec_l5Locked_L1_a : Option Bool :=
  some false
def spec_l5Locked_L1_k (x : (Unit) ⊕ (Bool)) : Option Bool := match x with
  | .inl t => spec_l5Locked_L1_a
  | .inr y => some y
def spec_l5Locked (a0 : (List Thing)) (a1 : Int) : Option Bool :=
  (loopM (spec_l5Locked_L1 a0 a1) big 0).bind (spec_l5Locked_L1_k)
theorem spec_l5Locked_ok (a0 : (List Thing)) (a1 : Int) (r : Bool) (hM : spec_l5Locked a0 a1 = some r) :
    Con Try.prog 63 [.c (.rs 6 (a0.map Thing.enc)), .c (.v (.int .i64 a1))] [] (.o (.c (.v (.bool r)))) [] [] := by
  unfold spec_l5Locked at hM
  refine cn (N := 27) (pids := []) Try_mixed Try.func63 (by kernel_rfl) (by kernel_rfl) (by kernel_rfl) rfl fun ρ g w R => ?_
  have K1 : ∀ (_ : Unit), spec_l5Locked_L1_a = some r → Gr R [.code (cAt Try.f63 [1, 1])] (⟨[], []⟩) := by
    intro _ hM
    unfold spec_l5Locked_L1_a at hM
    have hE : some false = some r := hM
    have hE := Option.some.inj hE
    subst hE
    exact pr R 9999 [] [] [] [] True.intro (by kernel_rfl)
  refine pc R 9999 [] [.keep [0, 1, 5] []] (k' := [.code (.loop (cAt Try.f63 [1, 0, 1, 0, 0])), .blk 0, .code (cAt Try.f63 [1, 1])]) (S' := spec_l5Locked_L1_S a0 a1 0) True.intro (by kernel_rfl) ?_
  refine lq (spec_l5Locked_L1_S a0 a1) (body := spec_l5Locked_L1 a0 a1) (k := spec_l5Locked_L1_k) hM fun m1 s c1 hM hK1 => ?_
  obtain ⟨s1, hs⟩ : ∃ z, z = s := ⟨_, rfl⟩
  subst hs
  have hM : spec_l5Locked_L1_b a0 a1 s1 = some c1 := hM
  unfold spec_l5Locked_L1_b at hM
  rcases cond_cases hM with ⟨h2, hM⟩ | ⟨h2, hM⟩
  · obtain ⟨v3, h4, hM⟩ := bind_some hM
    rcases cond_cases hM with ⟨h5, hM⟩ | ⟨h5, hM⟩
    · obtain ⟨v6, h7, hM⟩ := bind_some hM
      obtain ⟨v8, h9, hM⟩ := bind_some hM
      rcases cond_cases hM with ⟨h10, hM⟩ | ⟨h10, hM⟩
      · have hE : some (Ctl.ret true) = some c1 := hM
        have hE := Option.some.inj hE
        subst hE
        have hE : some true = some r := hK1
        have hE := Option.some.inj hE
        subst hE
        exact pr R 9999 [.ln (a0.length), .as 9 true, .ix (Thing.enc v3), .as 17 true, .ix (Thing.enc v6), .call false [] (.o (.c (.v (.bool v8)))) [] [], .as 26 true] [] [] [] (And.intro (lenm Thing.enc a0) (And.intro h2 (And.intro (gi_map Thing.enc h4) (And.intro h5 (And.intro (gi_map Thing.enc h7) (And.intro (spec_l5Around_ok a0 a1 v6.Id v8 h9) (And.intro h10 True.intro))))))) (by kernel_rfl)
      · have hE : some (Ctl.next (w64 (s1 + 1))) = some c1 := hM
        have hE := Option.some.inj hE
        subst hE
        exact pc R 9999 [.ln (a0.length), .as 9 true, .ix (Thing.enc v3), .as 17 true, .ix (Thing.enc v6), .call false [] (.o (.c (.v (.bool v8)))) [] [], .as 26 false] [.keep [0, 1, 5] []] (And.intro (lenm Thing.enc a0) (And.intro h2 (And.intro (gi_map Thing.enc h4) (And.intro h5 (And.intro (gi_map Thing.enc h7) (And.intro (spec_l5Around_ok a0 a1 v6.Id v8 h9) (And.intro h10 True.intro))))))) (by kernel_rfl) (li (Sf := spec_l5Locked_L1_S a0 a1) (M := Mk (spec_l5Locked_L1 a0 a1) (spec_l5Locked_L1_k) r) (k := [.blk 0, .code (cAt Try.f63 [1, 1])]) (Nat.lt_succ_self m1) hK1)
    · have hE : some (Ctl.next (w64 (s1 + 1))) = some c1 := hM
      have hE := Option.some.inj hE
      subst hE
      exact pc R 9999 [.ln (a0.length), .as 9 true, .ix (Thing.enc v3), .as 17 false] [.keep [0, 1, 5] []] (And.intro (lenm Thing.enc a0) (And.intro h2 (And.intro (gi_map Thing.enc h4) (And.intro h5 True.intro)))) (by kernel_rfl) (li (Sf := spec_l5Locked_L1_S a0 a1) (M := Mk (spec_l5Locked_L1 a0 a1) (spec_l5Locked_L1_k) r) (k := [.blk 0, .code (cAt Try.f63 [1, 1])]) (Nat.lt_succ_self m1) hK1)
  · have hE : some (Ctl.brk ()) = some c1 := hM
    have hE := Option.some.inj hE
    subst hE
    exact pc R 5 [.ln (a0.length), .as 9 false] [.keep [] []] (And.intro (lenm Thing.enc a0) (And.intro h2 True.intro)) (by kernel_rfl) (K1 () hK1)

-- loop.example/g03014/spec.PutInto
def spec_PutInto_L1_b (a0 : (List Thing)) (a2 : Int) (v1 : (List Thing)) (v3 : Int) (v28 : Thing) (s30 : Int) : Option (Ctl Int Unit ((List Thing) × Int)) :=
  bif (decide (s30 < ((List.set v1 (Int.toNat v3) (Thing.mk v28.Id v28.Own v28.Room a2 v28.Box v28.Sealed)).length : Int))) then
  (gi (List.set v1 (Int.toNat v3) (Thing.mk v28.Id v28.Own v28.Room a2 v28.Box v28.Sealed)) s30).bind fun v37 =>
  (spec_l5Depth (List.set v1 (Int.toNat v3) (Thing.mk v28.Id v28.Own v28.Room a2 v28.Box v28.Sealed)) v37.Id).bind fun v39 =>
  bif (decide (v39 > 4)) then
  (spec_l5Copy a0).bind fun v42 =>
  some (.ret (v42, 4))
  else
  some (.next (w64 (s30 + 1)))
  else
  some (.brk ())
def spec_PutInto_L1 (a0 : (List Thing)) (a2 : Int) (v1 : (List Thing)) (v3 : Int) (v28 : Thing) (s : Int) : Option (Ctl Int Unit ((List Thing) × Int)) := spec_PutInto_L1_b a0 a2 v1 v3 v28 s
def spec_PutInto_L1_s (a0 : (List Thing)) (a2 : Int) (v1 : (List Thing)) (v3 : Int) (v28 : Thing) (s30 : Int) : St := ⟨[(0, .o (.c (.rs 6 (a0.map Thing.enc)))), (8, .o (.c (.sl 0))), (11, .o (.c (.v (.int .i64 s30))))], [(0, .row 35 6 ((List.set v1 (Int.toNat v3) (Thing.mk v28.Id v28.Own v28.Room a2 v28.Box v28.Sealed)).map Thing.enc))]⟩
def spec_PutInto_L1_S (a0 : (List Thing)) (a2 : Int) (v1 : (List Thing)) (v3 : Int) (v28 : Thing) (s : Int) : St := spec_PutInto_L1_s a0 a2 v1 v3 v28 s
def spec_PutInto_L1_a (a0 : (List Thing)) (a2 : Int) (v1 : (List Thing)) (v3 : Int) (v28 : Thing) : Option ((List Thing) × Int) :=
  (spec_AreThings (List.set v1 (Int.toNat v3) (Thing.mk v28.Id v28.Own v28.Room a2 v28.Box v28.Sealed))).bind fun v31 =>
  bif (!v31) then
  (spec_l5Copy a0).bind fun v34 =>
  some (v34, 5)
  else
  some (List.set v1 (Int.toNat v3) (Thing.mk v28.Id v28.Own v28.Room a2 v28.Box v28.Sealed), 0)
def spec_PutInto_L1_k (a0 : (List Thing)) (a2 : Int) (v1 : (List Thing)) (v3 : Int) (v28 : Thing) (x : (Unit) ⊕ ((List Thing) × Int)) : Option ((List Thing) × Int) := match x with
  | .inl t => spec_PutInto_L1_a a0 a2 v1 v3 v28
  | .inr y => some y
def spec_PutInto (a0 : (List Thing)) (a1 : Int) (a2 : Int) : Option ((List Thing) × Int) :=
  (spec_l5Copy a0).bind fun v1 =>
  (spec_FindThing a0 a1).bind fun v3 =>
  (spec_FindThing a0 a2).bind fun v5 =>
  (spec_AreThings a0).bind fun v7 =>
  bif (!v7) then
  some (v1, 1)
  else
  bif (decide (v3 < 0)) then
  some (v1, 1)
  else
  bif (decide (v5 < 0)) then
  some (v1, 1)
  else
  (gi a0 v5).bind fun v12 =>
  bif (!v12.Box) then
  some (v1, 1)
  else
  (spec_l5Locked a0 a1).bind fun v15 =>
  bif v15 then
  some (v1, 2)
  else
  (spec_l5Locked a0 a2).bind fun v18 =>
  bif v18 then
  some (v1, 2)
  else
  (gi a0 v5).bind fun v21 =>
  bif v21.Sealed then
  some (v1, 2)
  else
  bif (a1 == a2) then
  some (v1, 3)
  else
  (spec_l5Around a0 a2 a1).bind fun v25 =>
  bif v25 then
  some (v1, 3)
  else
  (gi v1 v3).bind fun v28 =>
  (loopM (spec_PutInto_L1 a0 a2 v1 v3 v28) big 0).bind (spec_PutInto_L1_k a0 a2 v1 v3 v28)
theorem spec_PutInto_ok (a0 : (List Thing)) (a1 : Int) (a2 : Int) (r : (List Thing) × Int) (hM : spec_PutInto a0 a1 a2 = some r) :
    Con Try.prog 42 [.c (.rs 6 (a0.map Thing.enc)), .c (.v (.int .i64 a1)), .c (.v (.int .i64 a2))] [] (.tup [.c (.sl 1000), .c (.v (.int .i64 r.2))]) [] [(1000, .row 35 6 (r.1.map Thing.enc))] := by
  unfold spec_PutInto at hM
  refine cn (N := 96) (pids := []) Try_mixed Try.func42 (by kernel_rfl) (by kernel_rfl) (by kernel_rfl) rfl fun ρ g w R => ?_
  obtain ⟨v1, h2, hM⟩ := bind_some hM
  obtain ⟨v3, h4, hM⟩ := bind_some hM
  obtain ⟨v5, h6, hM⟩ := bind_some hM
  obtain ⟨v7, h8, hM⟩ := bind_some hM
  rcases cond_cases hM with ⟨h9, hM⟩ | ⟨h9, hM⟩
  · have hE : some (v1, 1) = some r := hM
    have hE := Option.some.inj hE
    subst hE
    exact pr R 9999 [.call false [] (.o (.c (.sl 0))) [] [(0, .row 35 6 (v1.map Thing.enc))], .call false [] (.o (.c (.v (.int .i64 v3)))) [] [], .call false [] (.o (.c (.v (.int .i64 v5)))) [] [], .call false [] (.o (.c (.v (.bool v7)))) [] [], .as 24 true] [.sw 0 1000] [] [1000] (And.intro (And.intro (con_sw 1000 0 (spec_l5Copy_ok a0 v1 h2)) (rfl : ([] : List Nat) = [])) (And.intro (spec_FindThing_ok a0 a1 v3 h4) (And.intro (spec_FindThing_ok a0 a2 v5 h6) (And.intro (spec_AreThings_ok a0 v7 h8) (And.intro h9 True.intro))))) (by kernel_rfl)
  · rcases cond_cases hM with ⟨h10, hM⟩ | ⟨h10, hM⟩
    · have hE : some (v1, 1) = some r := hM
      have hE := Option.some.inj hE
      subst hE
      exact pr R 9999 [.call false [] (.o (.c (.sl 0))) [] [(0, .row 35 6 (v1.map Thing.enc))], .call false [] (.o (.c (.v (.int .i64 v3)))) [] [], .call false [] (.o (.c (.v (.int .i64 v5)))) [] [], .call false [] (.o (.c (.v (.bool v7)))) [] [], .as 24 false, .as 28 true] [.sw 0 1000] [] [1000] (And.intro (And.intro (con_sw 1000 0 (spec_l5Copy_ok a0 v1 h2)) (rfl : ([] : List Nat) = [])) (And.intro (spec_FindThing_ok a0 a1 v3 h4) (And.intro (spec_FindThing_ok a0 a2 v5 h6) (And.intro (spec_AreThings_ok a0 v7 h8) (And.intro h9 (And.intro h10 True.intro)))))) (by kernel_rfl)
    · rcases cond_cases hM with ⟨h11, hM⟩ | ⟨h11, hM⟩
      · have hE : some (v1, 1) = some r := hM
        have hE := Option.some.inj hE
        subst hE
        exact pr R 9999 [.call false [] (.o (.c (.sl 0))) [] [(0, .row 35 6 (v1.map Thing.enc))], .call false [] (.o (.c (.v (.int .i64 v3)))) [] [], .call false [] (.o (.c (.v (.int .i64 v5)))) [] [], .call false [] (.o (.c (.v (.bool v7)))) [] [], .as 24 false, .as 28 false, .as 32 true] [.sw 0 1000] [] [1000] (And.intro (And.intro (con_sw 1000 0 (spec_l5Copy_ok a0 v1 h2)) (rfl : ([] : List Nat) = [])) (And.intro (spec_FindThing_ok a0 a1 v3 h4) (And.intro (spec_FindThing_ok a0 a2 v5 h6) (And.intro (spec_AreThings_ok a0 v7 h8) (And.intro h9 (And.intro h10 (And.intro h11 True.intro))))))) (by kernel_rfl)
      · obtain ⟨v12, h13, hM⟩ := bind_some hM
        rcases cond_cases hM with ⟨h14, hM⟩ | ⟨h14, hM⟩
        · have hE : some (v1, 1) = some r := hM
          have hE := Option.some.inj hE
          subst hE
          exact pr R 9999 [.call false [] (.o (.c (.sl 0))) [] [(0, .row 35 6 (v1.map Thing.enc))], .call false [] (.o (.c (.v (.int .i64 v3)))) [] [], .call false [] (.o (.c (.v (.int .i64 v5)))) [] [], .call false [] (.o (.c (.v (.bool v7)))) [] [], .as 24 false, .as 28 false, .as 32 false, .ix (Thing.enc v12), .as 20 true] [.sw 0 1000] [] [1000] (And.intro (And.intro (con_sw 1000 0 (spec_l5Copy_ok a0 v1 h2)) (rfl : ([] : List Nat) = [])) (And.intro (spec_FindThing_ok a0 a1 v3 h4) (And.intro (spec_FindThing_ok a0 a2 v5 h6) (And.intro (spec_AreThings_ok a0 v7 h8) (And.intro h9 (And.intro h10 (And.intro h11 (And.intro (gi_map Thing.enc h13) (And.intro h14 True.intro))))))))) (by kernel_rfl)
        · obtain ⟨v15, h16, hM⟩ := bind_some hM
          rcases cond_cases hM with ⟨h17, hM⟩ | ⟨h17, hM⟩
          · have hE : some (v1, 2) = some r := hM
            have hE := Option.some.inj hE
            subst hE
            exact pr R 9999 [.call false [] (.o (.c (.sl 0))) [] [(0, .row 35 6 (v1.map Thing.enc))], .call false [] (.o (.c (.v (.int .i64 v3)))) [] [], .call false [] (.o (.c (.v (.int .i64 v5)))) [] [], .call false [] (.o (.c (.v (.bool v7)))) [] [], .as 24 false, .as 28 false, .as 32 false, .ix (Thing.enc v12), .as 20 false, .call false [] (.o (.c (.v (.bool v15)))) [] [], .as 45 true] [.sw 0 1000] [] [1000] (And.intro (And.intro (con_sw 1000 0 (spec_l5Copy_ok a0 v1 h2)) (rfl : ([] : List Nat) = [])) (And.intro (spec_FindThing_ok a0 a1 v3 h4) (And.intro (spec_FindThing_ok a0 a2 v5 h6) (And.intro (spec_AreThings_ok a0 v7 h8) (And.intro h9 (And.intro h10 (And.intro h11 (And.intro (gi_map Thing.enc h13) (And.intro h14 (And.intro (spec_l5Locked_ok a0 a1 v15 h16) (And.intro h17 True.intro))))))))))) (by kernel_rfl)
          · obtain ⟨v18, h19, hM⟩ := bind_some hM
            rcases cond_cases hM with ⟨h20, hM⟩ | ⟨h20, hM⟩
            · have hE : some (v1, 2) = some r := hM
              have hE := Option.some.inj hE
              subst hE
              exact pr R 9999 [.call false [] (.o (.c (.sl 0))) [] [(0, .row 35 6 (v1.map Thing.enc))], .call false [] (.o (.c (.v (.int .i64 v3)))) [] [], .call false [] (.o (.c (.v (.int .i64 v5)))) [] [], .call false [] (.o (.c (.v (.bool v7)))) [] [], .as 24 false, .as 28 false, .as 32 false, .ix (Thing.enc v12), .as 20 false, .call false [] (.o (.c (.v (.bool v15)))) [] [], .as 45 false, .call false [] (.o (.c (.v (.bool v18)))) [] [], .as 50 true] [.sw 0 1000] [] [1000] (And.intro (And.intro (con_sw 1000 0 (spec_l5Copy_ok a0 v1 h2)) (rfl : ([] : List Nat) = [])) (And.intro (spec_FindThing_ok a0 a1 v3 h4) (And.intro (spec_FindThing_ok a0 a2 v5 h6) (And.intro (spec_AreThings_ok a0 v7 h8) (And.intro h9 (And.intro h10 (And.intro h11 (And.intro (gi_map Thing.enc h13) (And.intro h14 (And.intro (spec_l5Locked_ok a0 a1 v15 h16) (And.intro h17 (And.intro (spec_l5Locked_ok a0 a2 v18 h19) (And.intro h20 True.intro))))))))))))) (by kernel_rfl)
            · obtain ⟨v21, h22, hM⟩ := bind_some hM
              rcases cond_cases hM with ⟨h23, hM⟩ | ⟨h23, hM⟩
              · have hE : some (v1, 2) = some r := hM
                have hE := Option.some.inj hE
                subst hE
                exact pr R 9999 [.call false [] (.o (.c (.sl 0))) [] [(0, .row 35 6 (v1.map Thing.enc))], .call false [] (.o (.c (.v (.int .i64 v3)))) [] [], .call false [] (.o (.c (.v (.int .i64 v5)))) [] [], .call false [] (.o (.c (.v (.bool v7)))) [] [], .as 24 false, .as 28 false, .as 32 false, .ix (Thing.enc v12), .as 20 false, .call false [] (.o (.c (.v (.bool v15)))) [] [], .as 45 false, .call false [] (.o (.c (.v (.bool v18)))) [] [], .as 50 false, .ix (Thing.enc v21), .as 41 true] [.sw 0 1000] [] [1000] (And.intro (And.intro (con_sw 1000 0 (spec_l5Copy_ok a0 v1 h2)) (rfl : ([] : List Nat) = [])) (And.intro (spec_FindThing_ok a0 a1 v3 h4) (And.intro (spec_FindThing_ok a0 a2 v5 h6) (And.intro (spec_AreThings_ok a0 v7 h8) (And.intro h9 (And.intro h10 (And.intro h11 (And.intro (gi_map Thing.enc h13) (And.intro h14 (And.intro (spec_l5Locked_ok a0 a1 v15 h16) (And.intro h17 (And.intro (spec_l5Locked_ok a0 a2 v18 h19) (And.intro h20 (And.intro (gi_map Thing.enc h22) (And.intro h23 True.intro))))))))))))))) (by kernel_rfl)
              · rcases cond_cases hM with ⟨h24, hM⟩ | ⟨h24, hM⟩
                · have hE : some (v1, 3) = some r := hM
                  have hE := Option.some.inj hE
                  subst hE
                  exact pr R 9999 [.call false [] (.o (.c (.sl 0))) [] [(0, .row 35 6 (v1.map Thing.enc))], .call false [] (.o (.c (.v (.int .i64 v3)))) [] [], .call false [] (.o (.c (.v (.int .i64 v5)))) [] [], .call false [] (.o (.c (.v (.bool v7)))) [] [], .as 24 false, .as 28 false, .as 32 false, .ix (Thing.enc v12), .as 20 false, .call false [] (.o (.c (.v (.bool v15)))) [] [], .as 45 false, .call false [] (.o (.c (.v (.bool v18)))) [] [], .as 50 false, .ix (Thing.enc v21), .as 41 false, .as 62 true] [.sw 0 1000] [] [1000] (And.intro (And.intro (con_sw 1000 0 (spec_l5Copy_ok a0 v1 h2)) (rfl : ([] : List Nat) = [])) (And.intro (spec_FindThing_ok a0 a1 v3 h4) (And.intro (spec_FindThing_ok a0 a2 v5 h6) (And.intro (spec_AreThings_ok a0 v7 h8) (And.intro h9 (And.intro h10 (And.intro h11 (And.intro (gi_map Thing.enc h13) (And.intro h14 (And.intro (spec_l5Locked_ok a0 a1 v15 h16) (And.intro h17 (And.intro (spec_l5Locked_ok a0 a2 v18 h19) (And.intro h20 (And.intro (gi_map Thing.enc h22) (And.intro h23 (And.intro h24 True.intro)))))))))))))))) (by kernel_rfl)
                · obtain ⟨v25, h26, hM⟩ := bind_some hM
                  rcases cond_cases hM with ⟨h27, hM⟩ | ⟨h27, hM⟩
                  · have hE : some (v1, 3) = some r := hM
                    have hE := Option.some.inj hE
                    subst hE
                    exact pr R 9999 [.call false [] (.o (.c (.sl 0))) [] [(0, .row 35 6 (v1.map Thing.enc))], .call false [] (.o (.c (.v (.int .i64 v3)))) [] [], .call false [] (.o (.c (.v (.int .i64 v5)))) [] [], .call false [] (.o (.c (.v (.bool v7)))) [] [], .as 24 false, .as 28 false, .as 32 false, .ix (Thing.enc v12), .as 20 false, .call false [] (.o (.c (.v (.bool v15)))) [] [], .as 45 false, .call false [] (.o (.c (.v (.bool v18)))) [] [], .as 50 false, .ix (Thing.enc v21), .as 41 false, .as 62 false, .call false [] (.o (.c (.v (.bool v25)))) [] [], .as 58 true] [.sw 0 1000] [] [1000] (And.intro (And.intro (con_sw 1000 0 (spec_l5Copy_ok a0 v1 h2)) (rfl : ([] : List Nat) = [])) (And.intro (spec_FindThing_ok a0 a1 v3 h4) (And.intro (spec_FindThing_ok a0 a2 v5 h6) (And.intro (spec_AreThings_ok a0 v7 h8) (And.intro h9 (And.intro h10 (And.intro h11 (And.intro (gi_map Thing.enc h13) (And.intro h14 (And.intro (spec_l5Locked_ok a0 a1 v15 h16) (And.intro h17 (And.intro (spec_l5Locked_ok a0 a2 v18 h19) (And.intro h20 (And.intro (gi_map Thing.enc h22) (And.intro h23 (And.intro h24 (And.intro (spec_l5Around_ok a0 a2 a1 v25 h26) (And.intro h27 True.intro)))))))))))))))))) (by kernel_rfl)
                  · obtain ⟨v28, h29, hM⟩ := bind_some hM
                    have K1 : ∀ (_ : Unit), spec_PutInto_L1_a a0 a2 v1 v3 v28 = some r → Gr R [.code (cAt Try.f42 [1, 1, 1, 1, 1, 1, 1])] (⟨[(0, .o (.c (.rs 6 (a0.map Thing.enc)))), (8, .o (.c (.sl 0)))], [(0, .row 35 6 ((List.set v1 (Int.toNat v3) (Thing.mk v28.Id v28.Own v28.Room a2 v28.Box v28.Sealed)).map Thing.enc))]⟩) := by
                      intro _ hM
                      unfold spec_PutInto_L1_a at hM
                      obtain ⟨v31, h32, hM⟩ := bind_some hM
                      rcases cond_cases hM with ⟨h33, hM⟩ | ⟨h33, hM⟩
                      · obtain ⟨v34, h35, hM⟩ := bind_some hM
                        have hE : some (v34, 5) = some r := hM
                        have hE := Option.some.inj hE
                        subst hE
                        exact pr R 9999 [.call false [] (.o (.c (.v (.bool v31)))) [] [], .as 92 true, .call false [] (.o (.c (.sl 1))) [] [(1, .row 35 6 (v34.map Thing.enc))]] [.sw 1 1000] [] [1000] (And.intro (spec_AreThings_ok (List.set v1 (Int.toNat v3) (Thing.mk v28.Id v28.Own v28.Room a2 v28.Box v28.Sealed)) v31 h32) (And.intro h33 (And.intro (And.intro (con_sw 1000 1 (spec_l5Copy_ok a0 v34 h35)) (rfl : ([] : List Nat) = [])) True.intro))) (by kernel_rfl)
                      · have hE : some (List.set v1 (Int.toNat v3) (Thing.mk v28.Id v28.Own v28.Room a2 v28.Box v28.Sealed), 0) = some r := hM
                        have hE := Option.some.inj hE
                        subst hE
                        exact pr R 9999 [.call false [] (.o (.c (.v (.bool v31)))) [] [], .as 92 false] [.sw 0 1000] [] [1000] (And.intro (spec_AreThings_ok (List.set v1 (Int.toNat v3) (Thing.mk v28.Id v28.Own v28.Room a2 v28.Box v28.Sealed)) v31 h32) (And.intro h33 True.intro)) (by kernel_rfl)
                    refine pc R 9999 [.call false [] (.o (.c (.sl 0))) [] [(0, .row 35 6 (v1.map Thing.enc))], .call false [] (.o (.c (.v (.int .i64 v3)))) [] [], .call false [] (.o (.c (.v (.int .i64 v5)))) [] [], .call false [] (.o (.c (.v (.bool v7)))) [] [], .as 24 false, .as 28 false, .as 32 false, .ix (Thing.enc v12), .as 20 false, .call false [] (.o (.c (.v (.bool v15)))) [] [], .as 45 false, .call false [] (.o (.c (.v (.bool v18)))) [] [], .as 50 false, .ix (Thing.enc v21), .as 41 false, .as 62 false, .call false [] (.o (.c (.v (.bool v25)))) [] [], .as 58 false, .ix (Thing.enc v28), .nm ((List.set v1 (Int.toNat v3) (Thing.mk v28.Id v28.Own v28.Room a2 v28.Box v28.Sealed)).map Thing.enc)] [.keep [0, 8, 11] [0]] (k' := [.code (.loop (cAt Try.f42 [1, 1, 1, 1, 1, 1, 0, 1, 0, 0])), .blk 1, .code (cAt Try.f42 [1, 1, 1, 1, 1, 1, 1])]) (S' := spec_PutInto_L1_S a0 a2 v1 v3 v28 0) (And.intro (And.intro (con_sw 1000 0 (spec_l5Copy_ok a0 v1 h2)) (rfl : ([] : List Nat) = [])) (And.intro (spec_FindThing_ok a0 a1 v3 h4) (And.intro (spec_FindThing_ok a0 a2 v5 h6) (And.intro (spec_AreThings_ok a0 v7 h8) (And.intro h9 (And.intro h10 (And.intro h11 (And.intro (gi_map Thing.enc h13) (And.intro h14 (And.intro (spec_l5Locked_ok a0 a1 v15 h16) (And.intro h17 (And.intro (spec_l5Locked_ok a0 a2 v18 h19) (And.intro h20 (And.intro (gi_map Thing.enc h22) (And.intro h23 (And.intro h24 (And.intro (spec_l5Around_ok a0 a2 a1 v25 h26) (And.intro h27 (And.intro (gi_lt Thing.enc h29) (And.intro (And.intro (gi_map Thing.enc h29).2 (set_map Thing.enc v1 (Int.toNat v3) (Thing.mk v28.Id v28.Own v28.Room a2 v28.Box v28.Sealed))) True.intro)))))))))))))))))))) (by kernel_rfl) ?_
                    refine lq (spec_PutInto_L1_S a0 a2 v1 v3 v28) (body := spec_PutInto_L1 a0 a2 v1 v3 v28) (k := spec_PutInto_L1_k a0 a2 v1 v3 v28) hM fun m1 s c1 hM hK1 => ?_
                    obtain ⟨s30, hs⟩ : ∃ z, z = s := ⟨_, rfl⟩
                    subst hs
                    have hM : spec_PutInto_L1_b a0 a2 v1 v3 v28 s30 = some c1 := hM
                    unfold spec_PutInto_L1_b at hM
                    rcases cond_cases hM with ⟨h36, hM⟩ | ⟨h36, hM⟩
                    · obtain ⟨v37, h38, hM⟩ := bind_some hM
                      obtain ⟨v39, h40, hM⟩ := bind_some hM
                      rcases cond_cases hM with ⟨h41, hM⟩ | ⟨h41, hM⟩
                      · obtain ⟨v42, h43, hM⟩ := bind_some hM
                        have hE : some (Ctl.ret (v42, 4)) = some c1 := hM
                        have hE := Option.some.inj hE
                        subst hE
                        have hE : some (v42, 4) = some r := hK1
                        have hE := Option.some.inj hE
                        subst hE
                        exact pr R 9999 [.ln ((List.set v1 (Int.toNat v3) (Thing.mk v28.Id v28.Own v28.Room a2 v28.Box v28.Sealed)).length), .as 77 true, .ix (Thing.enc v37), .call false [] (.o (.c (.v (.int .i64 v39)))) [] [], .as 87 true, .call false [] (.o (.c (.sl 2))) [] [(2, .row 35 6 (v42.map Thing.enc))]] [.sw 2 1000] [] [1000] (And.intro (lenm Thing.enc (List.set v1 (Int.toNat v3) (Thing.mk v28.Id v28.Own v28.Room a2 v28.Box v28.Sealed))) (And.intro h36 (And.intro (gi_lt Thing.enc h38) (And.intro ((gi_map Thing.enc h38).2) (And.intro (spec_l5Depth_ok (List.set v1 (Int.toNat v3) (Thing.mk v28.Id v28.Own v28.Room a2 v28.Box v28.Sealed)) v37.Id v39 h40) (And.intro h41 (And.intro (And.intro (con_sw 1000 2 (spec_l5Copy_ok a0 v42 h43)) (rfl : ([] : List Nat) = [])) True.intro))))))) (by kernel_rfl)
                      · have hE : some (Ctl.next (w64 (s30 + 1))) = some c1 := hM
                        have hE := Option.some.inj hE
                        subst hE
                        exact pc R 9999 [.ln ((List.set v1 (Int.toNat v3) (Thing.mk v28.Id v28.Own v28.Room a2 v28.Box v28.Sealed)).length), .as 77 true, .ix (Thing.enc v37), .call false [] (.o (.c (.v (.int .i64 v39)))) [] [], .as 87 false] [.keep [0, 8, 11] [0]] (And.intro (lenm Thing.enc (List.set v1 (Int.toNat v3) (Thing.mk v28.Id v28.Own v28.Room a2 v28.Box v28.Sealed))) (And.intro h36 (And.intro (gi_lt Thing.enc h38) (And.intro ((gi_map Thing.enc h38).2) (And.intro (spec_l5Depth_ok (List.set v1 (Int.toNat v3) (Thing.mk v28.Id v28.Own v28.Room a2 v28.Box v28.Sealed)) v37.Id v39 h40) (And.intro h41 True.intro)))))) (by kernel_rfl) (li (Sf := spec_PutInto_L1_S a0 a2 v1 v3 v28) (M := Mk (spec_PutInto_L1 a0 a2 v1 v3 v28) (spec_PutInto_L1_k a0 a2 v1 v3 v28) r) (k := [.blk 1, .code (cAt Try.f42 [1, 1, 1, 1, 1, 1, 1])]) (Nat.lt_succ_self m1) hK1)
                    · have hE : some (Ctl.brk ()) = some c1 := hM
                      have hE := Option.some.inj hE
                      subst hE
                      exact pc R 5 [.ln ((List.set v1 (Int.toNat v3) (Thing.mk v28.Id v28.Own v28.Room a2 v28.Box v28.Sealed)).length), .as 77 false] [.keep [0, 8] [0]] (And.intro (lenm Thing.enc (List.set v1 (Int.toNat v3) (Thing.mk v28.Id v28.Own v28.Room a2 v28.Box v28.Sealed))) (And.intro h36 True.intro)) (by kernel_rfl) (K1 () hK1)

-- loop.example/g03014/spec.PackAll
def spec_PackAll_x16 (a2 : (List Int)) (v8 : (List Int)) (s11 : (List Int)) (s12 : Int) (s18 : Int) (v32 : ((List Thing) × Int)) : St := ⟨[(2, .o (.c (.rs 1 (a2.map encI)))), (9, .o (.c (.sl 1))), (10, .o (.c (.sl 2))), (11, .o (.c (.v (.int .i64 s12)))), (13, .o (.c (.v (.int .i64 s18)))), (14, .o (.c (.sl 5))), (15, .o (.c (.v (.int .i64 v32.2))))], [(1, .row 3 1 (s11.map encI)), (2, .row 3 1 (v8.map encI)), (5, .row 35 6 (v32.1.map Thing.enc))]⟩
def spec_PackAll_L2_b (a2 : (List Int)) (v8 : (List Int)) (s12 : Int) (s16 : (List Thing)) (s17 : Bool) (s18 : Int) : Option (Ctl ((List Thing) × Bool × Int) ((List Thing) × Bool) ((List Thing) × (List Int))) :=
  bif (decide (s18 < (a2.length : Int))) then
  bif (!s17) then
  (gi v8 s12).bind fun v28 =>
  (gi a2 s18).bind fun v30 =>
  (spec_PutInto s16 v28 v30).bind fun v32 =>
  some (.next (v32.1, v32.2 == 0, w64 (s18 + 1)))
  else
  some (.brk (s16, s17))
  else
  some (.brk (s16, s17))
def spec_PackAll_L2 (a2 : (List Int)) (v8 : (List Int)) (s12 : Int) (s : (List Thing) × Bool × Int) : Option (Ctl ((List Thing) × Bool × Int) ((List Thing) × Bool) ((List Thing) × (List Int))) := spec_PackAll_L2_b a2 v8 s12 s.1 s.2.1 s.2.2
def spec_PackAll_L2_s (a2 : (List Int)) (v8 : (List Int)) (s11 : (List Int)) (s12 : Int) (s16 : (List Thing)) (s17 : Bool) (s18 : Int) : St := ⟨[(2, .o (.c (.rs 1 (a2.map encI)))), (8, .o (.c (.sl 0))), (9, .o (.c (.sl 1))), (10, .o (.c (.sl 2))), (11, .o (.c (.v (.int .i64 s12)))), (12, .o (.c (.v (.bool s17)))), (13, .o (.c (.v (.int .i64 s18))))], [(0, .row 35 6 (s16.map Thing.enc)), (1, .row 3 1 (s11.map encI)), (2, .row 3 1 (v8.map encI))]⟩
def spec_PackAll_L2_S (a2 : (List Int)) (v8 : (List Int)) (s11 : (List Int)) (s12 : Int) (s : (List Thing) × Bool × Int) : St := spec_PackAll_L2_s a2 v8 s11 s12 s.1 s.2.1 s.2.2
def spec_PackAll_L2_a (v8 : (List Int)) (s11 : (List Int)) (s12 : Int) (s19 : (List Thing)) (s20 : Bool) : Option (Ctl ((List Thing) × (List Int) × Int) ((List Thing) × (List Int)) ((List Thing) × (List Int))) :=
  bif (!s20) then
  (gi v8 s12).bind fun v22 =>
  (ap 8 s11 ([v22] : List Int)).bind fun v24 =>
  some (.next (s19, v24, w64 (s12 + 1)))
  else
  some (.next (s19, s11, w64 (s12 + 1)))
def spec_PackAll_L2_k (v8 : (List Int)) (s11 : (List Int)) (s12 : Int) (x : ((List Thing) × Bool) ⊕ ((List Thing) × (List Int))) : Option (Ctl ((List Thing) × (List Int) × Int) ((List Thing) × (List Int)) ((List Thing) × (List Int))) := match x with
  | .inl t => spec_PackAll_L2_a v8 s11 s12 t.1 t.2
  | .inr y => some (.ret y)
def spec_PackAll_L1_b (a2 : (List Int)) (v8 : (List Int)) (s10 : (List Thing)) (s11 : (List Int)) (s12 : Int) : Option (Ctl ((List Thing) × (List Int) × Int) ((List Thing) × (List Int)) ((List Thing) × (List Int))) :=
  bif (decide (s12 < (v8.length : Int))) then
  (loopM (spec_PackAll_L2 a2 v8 s12) big (s10, false, 0)).bind (spec_PackAll_L2_k v8 s11 s12)
  else
  some (.brk (s10, s11))
def spec_PackAll_L1 (a2 : (List Int)) (v8 : (List Int)) (s : (List Thing) × (List Int) × Int) : Option (Ctl ((List Thing) × (List Int) × Int) ((List Thing) × (List Int)) ((List Thing) × (List Int))) := spec_PackAll_L1_b a2 v8 s.1 s.2.1 s.2.2
def spec_PackAll_L1_s (a2 : (List Int)) (v8 : (List Int)) (s10 : (List Thing)) (s11 : (List Int)) (s12 : Int) : St := ⟨[(2, .o (.c (.rs 1 (a2.map encI)))), (8, .o (.c (.sl 0))), (9, .o (.c (.sl 1))), (10, .o (.c (.sl 2))), (11, .o (.c (.v (.int .i64 s12))))], [(0, .row 35 6 (s10.map Thing.enc)), (1, .row 3 1 (s11.map encI)), (2, .row 3 1 (v8.map encI))]⟩
def spec_PackAll_L1_S (a2 : (List Int)) (v8 : (List Int)) (s : (List Thing) × (List Int) × Int) : St := spec_PackAll_L1_s a2 v8 s.1 s.2.1 s.2.2
def spec_PackAll_L1_a (s13 : (List Thing)) (s14 : (List Int)) : Option ((List Thing) × (List Int)) :=
  some (s13, s14)
def spec_PackAll_L1_k (x : ((List Thing) × (List Int)) ⊕ ((List Thing) × (List Int))) : Option ((List Thing) × (List Int)) := match x with
  | .inl t => spec_PackAll_L1_a t.1 t.2
  | .inr y => some y
def spec_PackAll (a0 : (List Thing)) (a1 : (List Int)) (a2 : (List Int)) : Option ((List Thing) × (List Int)) :=
  (spec_l5Copy a0).bind fun v1 =>
  (spec_AreThings a0).bind fun v3 =>
  bif (!v3) then
  some (v1, ([] : List Int))
  else
  bif (decide ((a1.length : Int) > 40)) then
  some (v1, ([] : List Int))
  else
  bif (decide ((a2.length : Int) > 40)) then
  some (v1, ([] : List Int))
  else
  (spec_l5Heavy a0 a1).bind fun v8 =>
  (loopM (spec_PackAll_L1 a2 v8) big (v1, ([] : List Int), 0)).bind (spec_PackAll_L1_k)
theorem spec_PackAll_ok (a0 : (List Thing)) (a1 : (List Int)) (a2 : (List Int)) (r : (List Thing) × (List Int)) (hM : spec_PackAll a0 a1 a2 = some r) :
    Con Try.prog 14 [.c (.rs 6 (a0.map Thing.enc)), .c (.rs 1 (a1.map encI)), .c (.rs 1 (a2.map encI))] [] (.tup [.c (.sl 1000), .c (.sl 1001)]) [] [(1000, .row 35 6 (r.1.map Thing.enc)), (1001, .row 3 1 (r.2.map encI))] := by
  unfold spec_PackAll at hM
  refine cn (N := 80) (pids := []) Try_mixed Try.func14 (by kernel_rfl) (by kernel_rfl) (by kernel_rfl) rfl fun ρ g w R => ?_
  obtain ⟨v1, h2, hM⟩ := bind_some hM
  obtain ⟨v3, h4, hM⟩ := bind_some hM
  rcases cond_cases hM with ⟨h5, hM⟩ | ⟨h5, hM⟩
  · have hE : some (v1, ([] : List Int)) = some r := hM
    have hE := Option.some.inj hE
    subst hE
    exact pr R 9999 [.call false [] (.o (.c (.sl 0))) [] [(0, .row 35 6 (v1.map Thing.enc))], .new 1, .call false [] (.o (.c (.v (.bool v3)))) [] [], .as 22 true] [.sw 0 1000, .sw 1 1001] [] [1000, 1001] (And.intro (And.intro (con_sw 1000 0 (spec_l5Copy_ok a0 v1 h2)) (rfl : ([] : List Nat) = [])) (And.intro (spec_AreThings_ok a0 v3 h4) (And.intro h5 True.intro))) (by kernel_rfl)
  · rcases cond_cases hM with ⟨h6, hM⟩ | ⟨h6, hM⟩
    · have hE : some (v1, ([] : List Int)) = some r := hM
      have hE := Option.some.inj hE
      subst hE
      exact pr R 9999 [.call false [] (.o (.c (.sl 0))) [] [(0, .row 35 6 (v1.map Thing.enc))], .new 1, .call false [] (.o (.c (.v (.bool v3)))) [] [], .as 22 false, .ln (a1.length), .as 27 true] [.sw 0 1000, .sw 1 1001] [] [1000, 1001] (And.intro (And.intro (con_sw 1000 0 (spec_l5Copy_ok a0 v1 h2)) (rfl : ([] : List Nat) = [])) (And.intro (spec_AreThings_ok a0 v3 h4) (And.intro h5 (And.intro (lenm encI a1) (And.intro h6 True.intro))))) (by kernel_rfl)
    · rcases cond_cases hM with ⟨h7, hM⟩ | ⟨h7, hM⟩
      · have hE : some (v1, ([] : List Int)) = some r := hM
        have hE := Option.some.inj hE
        subst hE
        exact pr R 9999 [.call false [] (.o (.c (.sl 0))) [] [(0, .row 35 6 (v1.map Thing.enc))], .new 1, .call false [] (.o (.c (.v (.bool v3)))) [] [], .as 22 false, .ln (a1.length), .as 27 false, .ln (a2.length), .as 31 true] [.sw 0 1000, .sw 1 1001] [] [1000, 1001] (And.intro (And.intro (con_sw 1000 0 (spec_l5Copy_ok a0 v1 h2)) (rfl : ([] : List Nat) = [])) (And.intro (spec_AreThings_ok a0 v3 h4) (And.intro h5 (And.intro (lenm encI a1) (And.intro h6 (And.intro (lenm encI a2) (And.intro h7 True.intro))))))) (by kernel_rfl)
      · obtain ⟨v8, h9, hM⟩ := bind_some hM
        have K1 : ∀ (s13 : (List Thing)) (s14 : (List Int)), spec_PackAll_L1_a s13 s14 = some r → Gr R [.code (cAt Try.f14 [1, 1, 1, 1, 1, 1])] (⟨[(8, .o (.c (.sl 0))), (9, .o (.c (.sl 1)))], [(0, .row 35 6 (s13.map Thing.enc)), (1, .row 3 1 (s14.map encI))]⟩) := by
          intro s13 s14 hM
          unfold spec_PackAll_L1_a at hM
          have hE : some (s13, s14) = some r := hM
          have hE := Option.some.inj hE
          subst hE
          exact pr R 9999 [] [.sw 0 1000, .sw 1 1001] [] [1000, 1001] True.intro (by kernel_rfl)
        refine pc R 9999 [.call false [] (.o (.c (.sl 0))) [] [(0, .row 35 6 (v1.map Thing.enc))], .new 1, .call false [] (.o (.c (.v (.bool v3)))) [] [], .as 22 false, .ln (a1.length), .as 27 false, .ln (a2.length), .as 31 false, .call false [] (.o (.c (.sl 2))) [] [(2, .row 3 1 (v8.map encI))]] [.keep [2, 8, 9, 10, 11] [0, 1, 2]] (k' := [.code (.loop (cAt Try.f14 [1, 1, 1, 1, 1, 0, 1, 0, 0])), .blk 0, .code (cAt Try.f14 [1, 1, 1, 1, 1, 1])]) (S' := spec_PackAll_L1_S a2 v8 (v1, ([] : List Int), 0)) (And.intro (And.intro (con_sw 1000 0 (spec_l5Copy_ok a0 v1 h2)) (rfl : ([] : List Nat) = [])) (And.intro (spec_AreThings_ok a0 v3 h4) (And.intro h5 (And.intro (lenm encI a1) (And.intro h6 (And.intro (lenm encI a2) (And.intro h7 (And.intro (And.intro (con_sw 1000 2 (spec_l5Heavy_ok a0 a1 v8 h9)) (rfl : ([] : List Nat) = [])) True.intro)))))))) (by kernel_rfl) ?_
        refine lq (spec_PackAll_L1_S a2 v8) (body := spec_PackAll_L1 a2 v8) (k := spec_PackAll_L1_k) hM fun m1 s c1 hM hK1 => ?_
        obtain ⟨s10, s11, s12⟩ := s
        have hM : spec_PackAll_L1_b a2 v8 s10 s11 s12 = some c1 := hM
        unfold spec_PackAll_L1_b at hM
        rcases cond_cases hM with ⟨h15, hM⟩ | ⟨h15, hM⟩
        · have K2 : ∀ (s19 : (List Thing)) (s20 : Bool), spec_PackAll_L2_a v8 s11 s12 s19 s20 = some c1 → Gr R [.code (cAt Try.f14 [1, 1, 1, 1, 1, 0, 1, 0, 0, 1, 0, 0, 1, 1]), .blk 1, .code (cAt Try.f14 [1, 1, 1, 1, 1, 0, 1, 0, 0, 1, 1]), .inv (Jr R (spec_PackAll_L1_S a2 v8) (Mk (spec_PackAll_L1 a2 v8) (spec_PackAll_L1_k) r) (m1 + 1)), .blk 0, .code (cAt Try.f14 [1, 1, 1, 1, 1, 1])] (⟨[(2, .o (.c (.rs 1 (a2.map encI)))), (8, .o (.c (.sl 0))), (9, .o (.c (.sl 1))), (10, .o (.c (.sl 2))), (11, .o (.c (.v (.int .i64 s12)))), (12, .o (.c (.v (.bool s20))))], [(0, .row 35 6 (s19.map Thing.enc)), (1, .row 3 1 (s11.map encI)), (2, .row 3 1 (v8.map encI))]⟩) := by
            intro s19 s20 hM
            unfold spec_PackAll_L2_a at hM
            rcases cond_cases hM with ⟨h21, hM⟩ | ⟨h21, hM⟩
            · obtain ⟨v22, h23, hM⟩ := bind_some hM
              obtain ⟨v24, h25, hM⟩ := bind_some hM
              have hE : some (Ctl.next (s19, v24, w64 (s12 + 1))) = some c1 := hM
              have hE := Option.some.inj hE
              subst hE
              exact pc R 9999 [.as 70 true, .ix (encI v22), .new 3, .new 4, .nm (v24.map encI)] [.sw 4 1, .keep [2, 8, 9, 10, 11] [0, 1, 2]] (And.intro h21 (And.intro (gi_lt encI h23) (And.intro ((gi_map encI h23).2) (And.intro (ap_ok encI h25) True.intro)))) (by kernel_rfl) (li (Sf := spec_PackAll_L1_S a2 v8) (M := Mk (spec_PackAll_L1 a2 v8) (spec_PackAll_L1_k) r) (k := [.blk 0, .code (cAt Try.f14 [1, 1, 1, 1, 1, 1])]) (Nat.lt_succ_self m1) hK1)
            · have hE : some (Ctl.next (s19, s11, w64 (s12 + 1))) = some c1 := hM
              have hE := Option.some.inj hE
              subst hE
              exact pc R 9999 [.as 70 false] [.keep [2, 8, 9, 10, 11] [0, 1, 2]] (And.intro h21 True.intro) (by kernel_rfl) (li (Sf := spec_PackAll_L1_S a2 v8) (M := Mk (spec_PackAll_L1 a2 v8) (spec_PackAll_L1_k) r) (k := [.blk 0, .code (cAt Try.f14 [1, 1, 1, 1, 1, 1])]) (Nat.lt_succ_self m1) hK1)
          refine pc R 9999 [.ln (v8.length), .as 40 true] [.keep [2, 8, 9, 10, 11, 12, 13] [0, 1, 2]] (k' := [.code (.loop (cAt Try.f14 [1, 1, 1, 1, 1, 0, 1, 0, 0, 1, 0, 0, 1, 0, 1, 0, 0])), .blk 2, .code (cAt Try.f14 [1, 1, 1, 1, 1, 0, 1, 0, 0, 1, 0, 0, 1, 1]), .blk 1, .code (cAt Try.f14 [1, 1, 1, 1, 1, 0, 1, 0, 0, 1, 1]), .inv (Jr R (spec_PackAll_L1_S a2 v8) (Mk (spec_PackAll_L1 a2 v8) (spec_PackAll_L1_k) r) (m1 + 1)), .blk 0, .code (cAt Try.f14 [1, 1, 1, 1, 1, 1])]) (S' := spec_PackAll_L2_S a2 v8 s11 s12 (s10, false, 0)) (And.intro (lenm encI v8) (And.intro h15 True.intro)) (by kernel_rfl) ?_
          refine lq (spec_PackAll_L2_S a2 v8 s11 s12) (body := spec_PackAll_L2 a2 v8 s12) (k := spec_PackAll_L2_k v8 s11 s12) hM fun m2 s c2 hM hK2 => ?_
          obtain ⟨s16, s17, s18⟩ := s
          have hM : spec_PackAll_L2_b a2 v8 s12 s16 s17 s18 = some c2 := hM
          unfold spec_PackAll_L2_b at hM
          rcases cond_cases hM with ⟨h26, hM⟩ | ⟨h26, hM⟩
          · rcases cond_cases hM with ⟨h27, hM⟩ | ⟨h27, hM⟩
            · obtain ⟨v28, h29, hM⟩ := bind_some hM
              obtain ⟨v30, h31, hM⟩ := bind_some hM
              obtain ⟨v32, h33, hM⟩ := bind_some hM
              have hE : some (Ctl.next (v32.1, v32.2 == 0, w64 (s18 + 1))) = some c2 := hM
              have hE := Option.some.inj hE
              subst hE
              exact pc R 9999 [.ln (a2.length), .as 47 true, .as 50 true, .xo [[], [], [], [], [.ix (encI v28)], [], [], [.ix (encI v30)], [], [.call false [] (.tup [.c (.sl 5), .c (.v (.int .i64 v32.2))]) [] [(5, .row 35 6 (v32.1.map Thing.enc))]], [], [], [], [], []] [.keep [2, 9, 10, 11, 13, 14, 15] [1, 2, 5]] (spec_PackAll_x16 a2 v8 s11 s12 s18 v32)] [.sw 5 0, .keep [2, 8, 9, 10, 11, 12, 13] [0, 1, 2]] (And.intro (lenm encI a2) (And.intro h26 (And.intro h27 (And.intro (gi_lt encI h29) (And.intro (gi_map encI h31) (And.intro ((gi_map encI h29).2) (And.intro (And.intro (con_sw 1000 5 (spec_PutInto_ok s16 v28 v30 v32 h33)) (rfl : ([] : List Nat) = [])) (And.intro (rfl : (spec_PackAll_x16 a2 v8 s11 s12 s18 v32) = (spec_PackAll_x16 a2 v8 s11 s12 s18 v32)) (And.intro ((gi_map encI h29).2) (And.intro (And.intro (con_sw 1000 5 (spec_PutInto_ok s16 v28 v30 v32 h33)) (rfl : ([] : List Nat) = [])) (And.intro (rfl : (spec_PackAll_x16 a2 v8 s11 s12 s18 v32) = (spec_PackAll_x16 a2 v8 s11 s12 s18 v32)) True.intro))))))))))) (by kernel_rfl) (li (Sf := spec_PackAll_L2_S a2 v8 s11 s12) (M := Mk (spec_PackAll_L2 a2 v8 s12) (spec_PackAll_L2_k v8 s11 s12) c1) (k := [.blk 2, .code (cAt Try.f14 [1, 1, 1, 1, 1, 0, 1, 0, 0, 1, 0, 0, 1, 1]), .blk 1, .code (cAt Try.f14 [1, 1, 1, 1, 1, 0, 1, 0, 0, 1, 1]), .inv (Jr R (spec_PackAll_L1_S a2 v8) (Mk (spec_PackAll_L1 a2 v8) (spec_PackAll_L1_k) r) (m1 + 1)), .blk 0, .code (cAt Try.f14 [1, 1, 1, 1, 1, 1])]) (Nat.lt_succ_self m2) hK2)
            · have hE : some (Ctl.brk (s16, s17)) = some c2 := hM
              have hE := Option.some.inj hE
              subst hE
              exact pc R 5 [.ln (a2.length), .as 47 true, .as 50 false] [.keep [2, 8, 9, 10, 11, 12] [0, 1, 2]] (And.intro (lenm encI a2) (And.intro h26 (And.intro h27 True.intro))) (by kernel_rfl) (K2 s16 s17 hK2)
          · have hE : some (Ctl.brk (s16, s17)) = some c2 := hM
            have hE := Option.some.inj hE
            subst hE
            exact pc R 5 [.ln (a2.length), .as 47 false] [.keep [2, 8, 9, 10, 11, 12] [0, 1, 2]] (And.intro (lenm encI a2) (And.intro h26 True.intro)) (by kernel_rfl) (K2 s16 s17 hK2)
        · have hE : some (Ctl.brk (s10, s11)) = some c1 := hM
          have hE := Option.some.inj hE
          subst hE
          exact pc R 5 [.ln (v8.length), .as 40 false] [.keep [8, 9] [0, 1]] (And.intro (lenm encI v8) (And.intro h15 True.intro)) (by kernel_rfl) (K1 s10 s11 hK1)

-- loop.example/g03014/impl.copyThings
def impl_copyThings (a0 : (List Thing)) : Option (List Thing) :=
  (ap 40 ([] : List Thing) a0).bind fun v1 =>
  some v1
theorem impl_copyThings_ok (a0 : (List Thing)) (r : (List Thing)) (hM : impl_copyThings a0 = some r) :
    Con Try.prog 28 [.c (.rs 6 (a0.map Thing.enc))] [] (.o (.c (.sl 1000))) [] [(1000, .row 35 6 (r.map Thing.enc))] := by
  unfold impl_copyThings at hM
  refine cn (N := 6) (pids := []) Try_mixed Try.func28 (by kernel_rfl) (by kernel_rfl) (by kernel_rfl) rfl fun ρ g w R => ?_
  obtain ⟨v1, h2, hM⟩ := bind_some hM
  have hE : some v1 = some r := hM
  have hE := Option.some.inj hE
  subst hE
  exact pr R 9999 [.new 0, .new 1, .nm (v1.map Thing.enc)] [.sw 1 1000] [] [1000] (And.intro (ap_ok Thing.enc h2) True.intro) (by kernel_rfl)

-- loop.example/g03014/impl.within
def impl_within (a0 : Int) (a1 : Int) (a2 : Int) : Option Bool :=
  bif (decide (a1 ≤ a0)) then
  some (decide (a0 ≤ a2))
  else
  some false
theorem impl_within_ok (a0 : Int) (a1 : Int) (a2 : Int) (r : Bool) (hM : impl_within a0 a1 a2 = some r) :
    Con Try.prog 60 [.c (.v (.int .i64 a0)), .c (.v (.int .i64 a1)), .c (.v (.int .i64 a2))] [] (.o (.c (.v (.bool r)))) [] [] := by
  unfold impl_within at hM
  refine cn (N := 15) (pids := []) Try_mixed Try.func60 (by kernel_rfl) (by kernel_rfl) (by kernel_rfl) rfl fun ρ g w R => ?_
  rcases cond_cases hM with ⟨h1, hM⟩ | ⟨h1, hM⟩
  · have hE : some (decide (a0 ≤ a2)) = some r := hM
    have hE := Option.some.inj hE
    subst hE
    exact pr R 9999 [.as 10 true] [] [] [] (And.intro h1 True.intro) (by kernel_rfl)
  · have hE : some false = some r := hM
    have hE := Option.some.inj hE
    subst hE
    exact pr R 9999 [.as 10 false] [] [] [] (And.intro h1 True.intro) (by kernel_rfl)

-- loop.example/g03014/impl.FindThing
def impl_FindThing_L1_b (a0 : (List Thing)) (a1 : Int) (s1 : Int) : Option (Ctl Int Unit Int) :=
  bif (decide (s1 < (a0.length : Int))) then
  (gi a0 s1).bind fun v3 =>
  bif (v3.Id == a1) then
  some (.ret s1)
  else
  some (.next (w64 (s1 + 1)))
  else
  some (.brk ())
def impl_FindThing_L1 (a0 : (List Thing)) (a1 : Int) (s : Int) : Option (Ctl Int Unit Int) := impl_FindThing_L1_b a0 a1 s
def impl_FindThing_L1_s (a0 : (List Thing)) (a1 : Int) (s1 : Int) : St := ⟨[(1, .o (.c (.v (.int .i64 a1)))), (7, .o (.c (.rs 6 (a0.map Thing.enc)))), (8, .o (.c (.v (.int .i64 (a0.length : Int))))), (9, .o (.c (.v (.int .i64 s1))))], []⟩
def impl_FindThing_L1_S (a0 : (List Thing)) (a1 : Int) (s : Int) : St := impl_FindThing_L1_s a0 a1 s
def impl_FindThing_L1_a : Option Int :=
  some (-1)
def impl_FindThing_L1_k (x : (Unit) ⊕ (Int)) : Option Int := match x with
  | .inl t => impl_FindThing_L1_a
  | .inr y => some y
def impl_FindThing (a0 : (List Thing)) (a1 : Int) : Option Int :=
  (loopM (impl_FindThing_L1 a0 a1) big 0).bind (impl_FindThing_L1_k)
theorem impl_FindThing_ok (a0 : (List Thing)) (a1 : Int) (r : Int) (hM : impl_FindThing a0 a1 = some r) :
    Con Try.prog 10 [.c (.rs 6 (a0.map Thing.enc)), .c (.v (.int .i64 a1))] [] (.o (.c (.v (.int .i64 r)))) [] [] := by
  unfold impl_FindThing at hM
  refine cn (N := 20) (pids := []) Try_mixed Try.func10 (by kernel_rfl) (by kernel_rfl) (by kernel_rfl) rfl fun ρ g w R => ?_
  have K1 : ∀ (_ : Unit), impl_FindThing_L1_a = some r → Gr R [.code (cAt Try.f10 [1, 1])] (⟨[], []⟩) := by
    intro _ hM
    unfold impl_FindThing_L1_a at hM
    have hE : some (-1) = some r := hM
    have hE := Option.some.inj hE
    subst hE
    exact pr R 9999 [] [] [] [] True.intro (by kernel_rfl)
  refine pc R 9999 [.ln (a0.length)] [.keep [1, 7, 8, 9] []] (k' := [.code (.loop (cAt Try.f10 [1, 0, 1, 0, 0])), .blk 0, .code (cAt Try.f10 [1, 1])]) (S' := impl_FindThing_L1_S a0 a1 0) (And.intro (lenm Thing.enc a0) True.intro) (by kernel_rfl) ?_
  refine lq (impl_FindThing_L1_S a0 a1) (body := impl_FindThing_L1 a0 a1) (k := impl_FindThing_L1_k) hM fun m1 s c1 hM hK1 => ?_
  obtain ⟨s1, hs⟩ : ∃ z, z = s := ⟨_, rfl⟩
  subst hs
  have hM : impl_FindThing_L1_b a0 a1 s1 = some c1 := hM
  unfold impl_FindThing_L1_b at hM
  rcases cond_cases hM with ⟨h2, hM⟩ | ⟨h2, hM⟩
  · obtain ⟨v3, h4, hM⟩ := bind_some hM
    rcases cond_cases hM with ⟨h5, hM⟩ | ⟨h5, hM⟩
    · have hE : some (Ctl.ret s1) = some c1 := hM
      have hE := Option.some.inj hE
      subst hE
      have hE : some s1 = some r := hK1
      have hE := Option.some.inj hE
      subst hE
      exact pr R 9999 [.as 10 true, .ix (Thing.enc v3), .new 0, .as 17 true] [] [] [] (And.intro h2 (And.intro (gi_map Thing.enc h4) (And.intro h5 True.intro))) (by kernel_rfl)
    · have hE : some (Ctl.next (w64 (s1 + 1))) = some c1 := hM
      have hE := Option.some.inj hE
      subst hE
      exact pc R 9999 [.as 10 true, .ix (Thing.enc v3), .new 0, .as 17 false] [.keep [1, 7, 8, 9] []] (And.intro h2 (And.intro (gi_map Thing.enc h4) (And.intro h5 True.intro))) (by kernel_rfl) (li (Sf := impl_FindThing_L1_S a0 a1) (M := Mk (impl_FindThing_L1 a0 a1) (impl_FindThing_L1_k) r) (k := [.blk 0, .code (cAt Try.f10 [1, 1])]) (Nat.lt_succ_self m1) hK1)
  · have hE : some (Ctl.brk ()) = some c1 := hM
    have hE := Option.some.inj hE
    subst hE
    exact pc R 5 [.as 10 false] [.keep [] []] (And.intro h2 True.intro) (by kernel_rfl) (K1 () hK1)

-- loop.example/g03014/impl.isBox
def impl_isBox (a0 : (List Thing)) (a1 : Int) : Option Bool :=
  (impl_FindThing a0 a1).bind fun v1 =>
  bif (decide (v1 ≥ 0)) then
  (gi a0 v1).bind fun v4 =>
  some v4.Box
  else
  some false
theorem impl_isBox_ok (a0 : (List Thing)) (a1 : Int) (r : Bool) (hM : impl_isBox a0 a1 = some r) :
    Con Try.prog 53 [.c (.rs 6 (a0.map Thing.enc)), .c (.v (.int .i64 a1))] [] (.o (.c (.v (.bool r)))) [] [] := by
  unfold impl_isBox at hM
  refine cn (N := 18) (pids := []) Try_mixed Try.func53 (by kernel_rfl) (by kernel_rfl) (by kernel_rfl) rfl fun ρ g w R => ?_
  obtain ⟨v1, h2, hM⟩ := bind_some hM
  rcases cond_cases hM with ⟨h3, hM⟩ | ⟨h3, hM⟩
  · obtain ⟨v4, h5, hM⟩ := bind_some hM
    have hE : some v4.Box = some r := hM
    have hE := Option.some.inj hE
    subst hE
    exact pr R 9999 [.call false [] (.o (.c (.v (.int .i64 v1)))) [] [], .as 11 true, .ix (Thing.enc v4)] [] [] [] (And.intro (impl_FindThing_ok a0 a1 v1 h2) (And.intro h3 (And.intro (gi_map Thing.enc h5) True.intro))) (by kernel_rfl)
  · have hE : some false = some r := hM
    have hE := Option.some.inj hE
    subst hE
    exact pr R 9999 [.call false [] (.o (.c (.v (.int .i64 v1)))) [] [], .as 11 false] [] [] [] (And.intro (impl_FindThing_ok a0 a1 v1 h2) (And.intro h3 True.intro)) (by kernel_rfl)

-- loop.example/g03014/impl.around
def impl_around_L1_b (a0 : (List Thing)) (s3 : (List Int)) (s4 : Int) : Option (Ctl ((List Int) × Int) (List Int) (List Int)) :=
  bif (decide (s4 ≥ 0)) then
  (gi a0 s4).bind fun v7 =>
  bif (v7.In != 0) then
  bif (decide ((s3.length : Int) ≤ 4)) then
  (gi a0 s4).bind fun v11 =>
  (ap 8 s3 ([v11.In] : List Int)).bind fun v13 =>
  (gi a0 s4).bind fun v15 =>
  (impl_FindThing a0 v15.In).bind fun v17 =>
  some (.next (v13, v17))
  else
  some (.brk s3)
  else
  some (.brk s3)
  else
  some (.brk s3)
def impl_around_L1 (a0 : (List Thing)) (s : (List Int) × Int) : Option (Ctl ((List Int) × Int) (List Int) (List Int)) := impl_around_L1_b a0 s.1 s.2
def impl_around_L1_s (a0 : (List Thing)) (s3 : (List Int)) (s4 : Int) : St := ⟨[(0, .o (.c (.rs 6 (a0.map Thing.enc)))), (5, .o (.c (.sl 0))), (6, .o (.c (.v (.int .i64 s4))))], [(0, .row 3 1 (s3.map encI))]⟩
def impl_around_L1_S (a0 : (List Thing)) (s : (List Int) × Int) : St := impl_around_L1_s a0 s.1 s.2
def impl_around_L1_a (s5 : (List Int)) : Option (List Int) :=
  some s5
def impl_around_L1_k (x : ((List Int)) ⊕ ((List Int))) : Option (List Int) := match x with
  | .inl t => impl_around_L1_a t
  | .inr y => some y
def impl_around (a0 : (List Thing)) (a1 : Int) : Option (List Int) :=
  (impl_FindThing a0 a1).bind fun v1 =>
  (loopM (impl_around_L1 a0) big (([] : List Int), v1)).bind (impl_around_L1_k)
theorem impl_around_ok (a0 : (List Thing)) (a1 : Int) (r : (List Int)) (hM : impl_around a0 a1 = some r) :
    Con Try.prog 56 [.c (.rs 6 (a0.map Thing.enc)), .c (.v (.int .i64 a1))] [] (.o (.c (.sl 1000))) [] [(1000, .row 3 1 (r.map encI))] := by
  unfold impl_around at hM
  refine cn (N := 42) (pids := []) Try_mixed Try.func56 (by kernel_rfl) (by kernel_rfl) (by kernel_rfl) rfl fun ρ g w R => ?_
  obtain ⟨v1, h2, hM⟩ := bind_some hM
  have K1 : ∀ (s5 : (List Int)), impl_around_L1_a s5 = some r → Gr R [.code (cAt Try.f56 [1, 1, 1, 1])] (⟨[(5, .o (.c (.sl 0)))], [(0, .row 3 1 (s5.map encI))]⟩) := by
    intro s5 hM
    unfold impl_around_L1_a at hM
    have hE : some s5 = some r := hM
    have hE := Option.some.inj hE
    subst hE
    exact pr R 9999 [] [.sw 0 1000] [] [1000] True.intro (by kernel_rfl)
  refine pc R 9999 [.new 0, .call false [] (.o (.c (.v (.int .i64 v1)))) [] []] [.keep [0, 5, 6] [0]] (k' := [.code (.loop (cAt Try.f56 [1, 1, 1, 0, 0, 0])), .blk 0, .code (cAt Try.f56 [1, 1, 1, 1])]) (S' := impl_around_L1_S a0 (([] : List Int), v1)) (And.intro (impl_FindThing_ok a0 a1 v1 h2) True.intro) (by kernel_rfl) ?_
  refine lq (impl_around_L1_S a0) (body := impl_around_L1 a0) (k := impl_around_L1_k) hM fun m1 s c1 hM hK1 => ?_
  obtain ⟨s3, s4⟩ := s
  have hM : impl_around_L1_b a0 s3 s4 = some c1 := hM
  unfold impl_around_L1_b at hM
  rcases cond_cases hM with ⟨h6, hM⟩ | ⟨h6, hM⟩
  · obtain ⟨v7, h8, hM⟩ := bind_some hM
    rcases cond_cases hM with ⟨h9, hM⟩ | ⟨h9, hM⟩
    · rcases cond_cases hM with ⟨h10, hM⟩ | ⟨h10, hM⟩
      · obtain ⟨v11, h12, hM⟩ := bind_some hM
        obtain ⟨v13, h14, hM⟩ := bind_some hM
        obtain ⟨v15, h16, hM⟩ := bind_some hM
        obtain ⟨v17, h18, hM⟩ := bind_some hM
        have hE : some (Ctl.next (v13, v17)) = some c1 := hM
        have hE := Option.some.inj hE
        subst hE
        exact pc R 9999 [.as 13 true, .ix (Thing.enc v7), .as 21 true, .ln (s3.length), .as 25 true, .ix (Thing.enc v11), .new 1, .new 2, .nm (v13.map encI), .ix (Thing.enc v15), .call false [] (.o (.c (.v (.int .i64 v17)))) [] []] [.sw 2 0, .keep [0, 5, 6] [0]] (And.intro h6 (And.intro (gi_map Thing.enc h8) (And.intro h9 (And.intro (lenm encI s3) (And.intro h10 (And.intro (gi_map Thing.enc h12) (And.intro (ap_ok encI h14) (And.intro (gi_map Thing.enc h16) (And.intro (impl_FindThing_ok a0 v15.In v17 h18) True.intro))))))))) (by kernel_rfl) (li (Sf := impl_around_L1_S a0) (M := Mk (impl_around_L1 a0) (impl_around_L1_k) r) (k := [.blk 0, .code (cAt Try.f56 [1, 1, 1, 1])]) (Nat.lt_succ_self m1) hK1)
      · have hE : some (Ctl.brk s3) = some c1 := hM
        have hE := Option.some.inj hE
        subst hE
        exact pc R 5 [.as 13 true, .ix (Thing.enc v7), .as 21 true, .ln (s3.length), .as 25 false] [.keep [5] [0]] (And.intro h6 (And.intro (gi_map Thing.enc h8) (And.intro h9 (And.intro (lenm encI s3) (And.intro h10 True.intro))))) (by kernel_rfl) (K1 s3 hK1)
    · have hE : some (Ctl.brk s3) = some c1 := hM
      have hE := Option.some.inj hE
      subst hE
      exact pc R 5 [.as 13 true, .ix (Thing.enc v7), .as 21 false] [.keep [5] [0]] (And.intro h6 (And.intro (gi_map Thing.enc h8) (And.intro h9 True.intro))) (by kernel_rfl) (K1 s3 hK1)
  · have hE : some (Ctl.brk s3) = some c1 := hM
    have hE := Option.some.inj hE
    subst hE
    exact pc R 5 [.as 13 false] [.keep [5] [0]] (And.intro h6 True.intro) (by kernel_rfl) (K1 s3 hK1)

-- loop.example/g03014/impl.areDeep
def impl_areDeep_L2_b (a0 : (List Thing)) (s2 : Int) : Option (Ctl Int Unit Bool) :=
  bif (decide (s2 < (a0.length : Int))) then
  (gi a0 s2).bind fun v4 =>
  (impl_around a0 v4.Id).bind fun v6 =>
  bif (decide ((v6.length : Int) > 4)) then
  some (.ret false)
  else
  some (.next (w64 (s2 + 1)))
  else
  some (.brk ())
def impl_areDeep_L2 (a0 : (List Thing)) (s : Int) : Option (Ctl Int Unit Bool) := impl_areDeep_L2_b a0 s
def impl_areDeep_L2_s (a0 : (List Thing)) (s2 : Int) : St := ⟨[(0, .o (.c (.rs 6 (a0.map Thing.enc)))), (74, .o (.c (.rs 6 (a0.map Thing.enc)))), (75, .o (.c (.v (.int .i64 (a0.length : Int))))), (76, .o (.c (.v (.int .i64 s2))))], []⟩
def impl_areDeep_L2_S (a0 : (List Thing)) (s : Int) : St := impl_areDeep_L2_s a0 s
def impl_areDeep_L2_a (a0 : (List Thing)) : Option Bool :=
  some (decide ((a0.length : Int) ≤ 40))
def impl_areDeep_L2_k (a0 : (List Thing)) (x : (Unit) ⊕ (Bool)) : Option Bool := match x with
  | .inl t => impl_areDeep_L2_a a0
  | .inr y => some y
def impl_areDeep_L1_b (a0 : (List Thing)) (s1 : Int) : Option (Ctl Int Unit Bool) :=
  bif (decide (s1 < (a0.length : Int))) then
  (gi a0 s1).bind fun v10 =>
  (impl_within v10.Id 1 9999).bind fun v12 =>
  bif (!v12) then
  some (.ret false)
  else
  bif (decide (s1 > 0)) then
  (gi a0 (w64 (s1 - 1))).bind fun v16 =>
  bif (decide (v16.Id ≥ v10.Id)) then
  some (.ret false)
  else
  (impl_within v10.Own 1 30000).bind fun v19 =>
  bif (!v19) then
  some (.ret false)
  else
  bif v10.Box then
  (impl_within v10.Room 1 1000000).bind fun v23 =>
  bif (!v23) then
  some (.ret false)
  else
  bif (!v10.Box) then
  bif (v10.Room != 0) then
  some (.ret false)
  else
  bif v10.Sealed then
  some (.ret false)
  else
  bif (v10.In != 0) then
  (impl_isBox a0 v10.In).bind fun v30 =>
  bif (!v30) then
  some (.ret false)
  else
  some (.next (w64 (s1 + 1)))
  else
  some (.next (w64 (s1 + 1)))
  else
  bif (v10.In != 0) then
  (impl_isBox a0 v10.In).bind fun v34 =>
  bif (!v34) then
  some (.ret false)
  else
  some (.next (w64 (s1 + 1)))
  else
  some (.next (w64 (s1 + 1)))
  else
  bif (!v10.Box) then
  bif (v10.Room != 0) then
  some (.ret false)
  else
  bif v10.Sealed then
  some (.ret false)
  else
  bif (v10.In != 0) then
  (impl_isBox a0 v10.In).bind fun v41 =>
  bif (!v41) then
  some (.ret false)
  else
  some (.next (w64 (s1 + 1)))
  else
  some (.next (w64 (s1 + 1)))
  else
  bif (v10.In != 0) then
  (impl_isBox a0 v10.In).bind fun v45 =>
  bif (!v45) then
  some (.ret false)
  else
  some (.next (w64 (s1 + 1)))
  else
  some (.next (w64 (s1 + 1)))
  else
  (impl_within v10.Own 1 30000).bind fun v48 =>
  bif (!v48) then
  some (.ret false)
  else
  bif v10.Box then
  (impl_within v10.Room 1 1000000).bind fun v52 =>
  bif (!v52) then
  some (.ret false)
  else
  bif (!v10.Box) then
  bif (v10.Room != 0) then
  some (.ret false)
  else
  bif v10.Sealed then
  some (.ret false)
  else
  bif (v10.In != 0) then
  (impl_isBox a0 v10.In).bind fun v59 =>
  bif (!v59) then
  some (.ret false)
  else
  some (.next (w64 (s1 + 1)))
  else
  some (.next (w64 (s1 + 1)))
  else
  bif (v10.In != 0) then
  (impl_isBox a0 v10.In).bind fun v63 =>
  bif (!v63) then
  some (.ret false)
  else
  some (.next (w64 (s1 + 1)))
  else
  some (.next (w64 (s1 + 1)))
  else
  bif (!v10.Box) then
  bif (v10.Room != 0) then
  some (.ret false)
  else
  bif v10.Sealed then
  some (.ret false)
  else
  bif (v10.In != 0) then
  (impl_isBox a0 v10.In).bind fun v70 =>
  bif (!v70) then
  some (.ret false)
  else
  some (.next (w64 (s1 + 1)))
  else
  some (.next (w64 (s1 + 1)))
  else
  bif (v10.In != 0) then
  (impl_isBox a0 v10.In).bind fun v74 =>
  bif (!v74) then
  some (.ret false)
  else
  some (.next (w64 (s1 + 1)))
  else
  some (.next (w64 (s1 + 1)))
  else
  some (.brk ())
def impl_areDeep_L1 (a0 : (List Thing)) (s : Int) : Option (Ctl Int Unit Bool) := impl_areDeep_L1_b a0 s
def impl_areDeep_L1_s (a0 : (List Thing)) (s1 : Int) : St := ⟨[(0, .o (.c (.rs 6 (a0.map Thing.enc)))), (7, .o (.c (.rs 6 (a0.map Thing.enc)))), (8, .o (.c (.v (.int .i64 (a0.length : Int))))), (9, .o (.c (.v (.int .i64 s1))))], []⟩
def impl_areDeep_L1_S (a0 : (List Thing)) (s : Int) : St := impl_areDeep_L1_s a0 s
def impl_areDeep_L1_a (a0 : (List Thing)) : Option Bool :=
  (loopM (impl_areDeep_L2 a0) big 0).bind (impl_areDeep_L2_k a0)
def impl_areDeep_L1_k (a0 : (List Thing)) (x : (Unit) ⊕ (Bool)) : Option Bool := match x with
  | .inl t => impl_areDeep_L1_a a0
  | .inr y => some y
def impl_areDeep (a0 : (List Thing)) : Option Bool :=
  (loopM (impl_areDeep_L1 a0) big 0).bind (impl_areDeep_L1_k a0)
theorem impl_areDeep_ok (a0 : (List Thing)) (r : Bool) (hM : impl_areDeep a0 = some r) :
    Con Try.prog 38 [.c (.rs 6 (a0.map Thing.enc))] [] (.o (.c (.v (.bool r)))) [] [] := by
  unfold impl_areDeep at hM
  refine cn (N := 90) (pids := []) Try_mixed Try.func38 (by kernel_rfl) (by kernel_rfl) (by kernel_rfl) rfl fun ρ g w R => ?_
  have K1 : ∀ (_ : Unit), impl_areDeep_L1_a a0 = some r → Gr R [.code (cAt Try.f38 [1, 1])] (⟨[(0, .o (.c (.rs 6 (a0.map Thing.enc))))], []⟩) := by
    intro _ hM
    unfold impl_areDeep_L1_a at hM
    have K2 : ∀ (_ : Unit), impl_areDeep_L2_a a0 = some r → Gr R [.code (cAt Try.f38 [1, 1, 1])] (⟨[(0, .o (.c (.rs 6 (a0.map Thing.enc))))], []⟩) := by
      intro _ hM
      unfold impl_areDeep_L2_a at hM
      have hE : some (decide ((a0.length : Int) ≤ 40)) = some r := hM
      have hE := Option.some.inj hE
      subst hE
      exact pr R 9999 [.ln (a0.length)] [] [] [] (And.intro (lenm Thing.enc a0) True.intro) (by kernel_rfl)
    refine pc R 9999 [.ln (a0.length)] [.keep [0, 74, 75, 76] []] (k' := [.code (.loop (cAt Try.f38 [1, 1, 0, 1, 0, 0])), .blk 2, .code (cAt Try.f38 [1, 1, 1])]) (S' := impl_areDeep_L2_S a0 0) (And.intro (lenm Thing.enc a0) True.intro) (by kernel_rfl) ?_
    refine lq (impl_areDeep_L2_S a0) (body := impl_areDeep_L2 a0) (k := impl_areDeep_L2_k a0) hM fun m2 s c2 hM hK2 => ?_
    obtain ⟨s2, hs⟩ : ∃ z, z = s := ⟨_, rfl⟩
    subst hs
    have hM : impl_areDeep_L2_b a0 s2 = some c2 := hM
    unfold impl_areDeep_L2_b at hM
    rcases cond_cases hM with ⟨h3, hM⟩ | ⟨h3, hM⟩
    · obtain ⟨v4, h5, hM⟩ := bind_some hM
      obtain ⟨v6, h7, hM⟩ := bind_some hM
      rcases cond_cases hM with ⟨h8, hM⟩ | ⟨h8, hM⟩
      · have hE : some (Ctl.ret false) = some c2 := hM
        have hE := Option.some.inj hE
        subst hE
        have hE : some false = some r := hK2
        have hE := Option.some.inj hE
        subst hE
        exact pr R 9999 [.as 77 true, .ix (Thing.enc v4), .new 0, .call false [] (.o (.c (.sl 1))) [] [(1, .row 3 1 (v6.map encI))], .ln (v6.length), .as 85 true] [] [] [] (And.intro h3 (And.intro (gi_map Thing.enc h5) (And.intro (And.intro (con_sw 1000 1 (impl_around_ok a0 v4.Id v6 h7)) (rfl : ([] : List Nat) = [])) (And.intro (lenm encI v6) (And.intro h8 True.intro))))) (by kernel_rfl)
      · have hE : some (Ctl.next (w64 (s2 + 1))) = some c2 := hM
        have hE := Option.some.inj hE
        subst hE
        exact pc R 9999 [.as 77 true, .ix (Thing.enc v4), .new 0, .call false [] (.o (.c (.sl 1))) [] [(1, .row 3 1 (v6.map encI))], .ln (v6.length), .as 85 false] [.keep [0, 74, 75, 76] []] (And.intro h3 (And.intro (gi_map Thing.enc h5) (And.intro (And.intro (con_sw 1000 1 (impl_around_ok a0 v4.Id v6 h7)) (rfl : ([] : List Nat) = [])) (And.intro (lenm encI v6) (And.intro h8 True.intro))))) (by kernel_rfl) (li (Sf := impl_areDeep_L2_S a0) (M := Mk (impl_areDeep_L2 a0) (impl_areDeep_L2_k a0) r) (k := [.blk 2, .code (cAt Try.f38 [1, 1, 1])]) (Nat.lt_succ_self m2) hK2)
    · have hE : some (Ctl.brk ()) = some c2 := hM
      have hE := Option.some.inj hE
      subst hE
      exact pc R 5 [.as 77 false] [.keep [0] []] (And.intro h3 True.intro) (by kernel_rfl) (K2 () hK2)
  refine pc R 9999 [.ln (a0.length)] [.keep [0, 7, 8, 9] []] (k' := [.code (.loop (cAt Try.f38 [1, 0, 1, 0, 0])), .blk 0, .code (cAt Try.f38 [1, 1])]) (S' := impl_areDeep_L1_S a0 0) (And.intro (lenm Thing.enc a0) True.intro) (by kernel_rfl) ?_
  refine lq (impl_areDeep_L1_S a0) (body := impl_areDeep_L1 a0) (k := impl_areDeep_L1_k a0) hM fun m1 s c1 hM hK1 => ?_
  obtain ⟨s1, hs⟩ : ∃ z, z = s := ⟨_, rfl⟩
  subst hs
  have hM : impl_areDeep_L1_b a0 s1 = some c1 := hM
  unfold impl_areDeep_L1_b at hM
  rcases cond_cases hM with ⟨h9, hM⟩ | ⟨h9, hM⟩
  · obtain ⟨v10, h11, hM⟩ := bind_some hM
    obtain ⟨v12, h13, hM⟩ := bind_some hM
    rcases cond_cases hM with ⟨h14, hM⟩ | ⟨h14, hM⟩
    · have hE : some (Ctl.ret false) = some c1 := hM
      have hE := Option.some.inj hE
      subst hE
      have hE : some false = some r := hK1
      have hE := Option.some.inj hE
      subst hE
      exact pr R 9999 [.as 10 true, .ix (Thing.enc v10), .new 2, .call false [] (.o (.c (.v (.bool v12)))) [] [], .as 18 true] [] [] [] (And.intro h9 (And.intro (gi_map Thing.enc h11) (And.intro (impl_within_ok v10.Id 1 9999 v12 h13) (And.intro h14 True.intro)))) (by kernel_rfl)
    · rcases cond_cases hM with ⟨h15, hM⟩ | ⟨h15, hM⟩
      · obtain ⟨v16, h17, hM⟩ := bind_some hM
        rcases cond_cases hM with ⟨h18, hM⟩ | ⟨h18, hM⟩
        · have hE : some (Ctl.ret false) = some c1 := hM
          have hE := Option.some.inj hE
          subst hE
          have hE : some false = some r := hK1
          have hE := Option.some.inj hE
          subst hE
          exact pr R 9999 [.as 10 true, .ix (Thing.enc v10), .new 2, .call false [] (.o (.c (.v (.bool v12)))) [] [], .as 18 false, .as 21 true, .ix (Thing.enc v16), .as 33 true] [] [] [] (And.intro h9 (And.intro (gi_map Thing.enc h11) (And.intro (impl_within_ok v10.Id 1 9999 v12 h13) (And.intro h14 (And.intro h15 (And.intro (gi_map Thing.enc h17) (And.intro h18 True.intro))))))) (by kernel_rfl)
        · obtain ⟨v19, h20, hM⟩ := bind_some hM
          rcases cond_cases hM with ⟨h21, hM⟩ | ⟨h21, hM⟩
          · have hE : some (Ctl.ret false) = some c1 := hM
            have hE := Option.some.inj hE
            subst hE
            have hE : some false = some r := hK1
            have hE := Option.some.inj hE
            subst hE
            exact pr R 9999 [.as 10 true, .ix (Thing.enc v10), .new 2, .call false [] (.o (.c (.v (.bool v12)))) [] [], .as 18 false, .as 21 true, .ix (Thing.enc v16), .as 33 false, .call false [] (.o (.c (.v (.bool v19)))) [] [], .as 38 true] [] [] [] (And.intro h9 (And.intro (gi_map Thing.enc h11) (And.intro (impl_within_ok v10.Id 1 9999 v12 h13) (And.intro h14 (And.intro h15 (And.intro (gi_map Thing.enc h17) (And.intro h18 (And.intro (impl_within_ok v10.Own 1 30000 v19 h20) (And.intro h21 True.intro))))))))) (by kernel_rfl)
          · rcases cond_cases hM with ⟨h22, hM⟩ | ⟨h22, hM⟩
            · obtain ⟨v23, h24, hM⟩ := bind_some hM
              rcases cond_cases hM with ⟨h25, hM⟩ | ⟨h25, hM⟩
              · have hE : some (Ctl.ret false) = some c1 := hM
                have hE := Option.some.inj hE
                subst hE
                have hE : some false = some r := hK1
                have hE := Option.some.inj hE
                subst hE
                exact pr R 9999 [.as 10 true, .ix (Thing.enc v10), .new 2, .call false [] (.o (.c (.v (.bool v12)))) [] [], .as 18 false, .as 21 true, .ix (Thing.enc v16), .as 33 false, .call false [] (.o (.c (.v (.bool v19)))) [] [], .as 38 false, .as 41 true, .call false [] (.o (.c (.v (.bool v23)))) [] [], .as 47 true] [] [] [] (And.intro h9 (And.intro (gi_map Thing.enc h11) (And.intro (impl_within_ok v10.Id 1 9999 v12 h13) (And.intro h14 (And.intro h15 (And.intro (gi_map Thing.enc h17) (And.intro h18 (And.intro (impl_within_ok v10.Own 1 30000 v19 h20) (And.intro h21 (And.intro h22 (And.intro (impl_within_ok v10.Room 1 1000000 v23 h24) (And.intro h25 True.intro)))))))))))) (by kernel_rfl)
              · rcases cond_cases hM with ⟨h26, hM⟩ | ⟨h26, hM⟩
                · rcases cond_cases hM with ⟨h27, hM⟩ | ⟨h27, hM⟩
                  · have hE : some (Ctl.ret false) = some c1 := hM
                    have hE := Option.some.inj hE
                    subst hE
                    have hE : some false = some r := hK1
                    have hE := Option.some.inj hE
                    subst hE
                    exact pr R 9999 [.as 10 true, .ix (Thing.enc v10), .new 2, .call false [] (.o (.c (.v (.bool v12)))) [] [], .as 18 false, .as 21 true, .ix (Thing.enc v16), .as 33 false, .call false [] (.o (.c (.v (.bool v19)))) [] [], .as 38 false, .as 41 true, .call false [] (.o (.c (.v (.bool v23)))) [] [], .as 47 false, .as 51 true, .as 55 true] [] [] [] (And.intro h9 (And.intro (gi_map Thing.enc h11) (And.intro (impl_within_ok v10.Id 1 9999 v12 h13) (And.intro h14 (And.intro h15 (And.intro (gi_map Thing.enc h17) (And.intro h18 (And.intro (impl_within_ok v10.Own 1 30000 v19 h20) (And.intro h21 (And.intro h22 (And.intro (impl_within_ok v10.Room 1 1000000 v23 h24) (And.intro h25 (And.intro h26 (And.intro h27 True.intro)))))))))))))) (by kernel_rfl)
                  · rcases cond_cases hM with ⟨h28, hM⟩ | ⟨h28, hM⟩
                    · have hE : some (Ctl.ret false) = some c1 := hM
                      have hE := Option.some.inj hE
                      subst hE
                      have hE : some false = some r := hK1
                      have hE := Option.some.inj hE
                      subst hE
                      exact pr R 9999 [.as 10 true, .ix (Thing.enc v10), .new 2, .call false [] (.o (.c (.v (.bool v12)))) [] [], .as 18 false, .as 21 true, .ix (Thing.enc v16), .as 33 false, .call false [] (.o (.c (.v (.bool v19)))) [] [], .as 38 false, .as 41 true, .call false [] (.o (.c (.v (.bool v23)))) [] [], .as 47 false, .as 51 true, .as 55 false, .as 61 true] [] [] [] (And.intro h9 (And.intro (gi_map Thing.enc h11) (And.intro (impl_within_ok v10.Id 1 9999 v12 h13) (And.intro h14 (And.intro h15 (And.intro (gi_map Thing.enc h17) (And.intro h18 (And.intro (impl_within_ok v10.Own 1 30000 v19 h20) (And.intro h21 (And.intro h22 (And.intro (impl_within_ok v10.Room 1 1000000 v23 h24) (And.intro h25 (And.intro h26 (And.intro h27 (And.intro h28 True.intro))))))))))))))) (by kernel_rfl)
                    · rcases cond_cases hM with ⟨h29, hM⟩ | ⟨h29, hM⟩
                      · obtain ⟨v30, h31, hM⟩ := bind_some hM
                        rcases cond_cases hM with ⟨h32, hM⟩ | ⟨h32, hM⟩
                        · have hE : some (Ctl.ret false) = some c1 := hM
                          have hE := Option.some.inj hE
                          subst hE
                          have hE : some false = some r := hK1
                          have hE := Option.some.inj hE
                          subst hE
                          exact pr R 9999 [.as 10 true, .ix (Thing.enc v10), .new 2, .call false [] (.o (.c (.v (.bool v12)))) [] [], .as 18 false, .as 21 true, .ix (Thing.enc v16), .as 33 false, .call false [] (.o (.c (.v (.bool v19)))) [] [], .as 38 false, .as 41 true, .call false [] (.o (.c (.v (.bool v23)))) [] [], .as 47 false, .as 51 true, .as 55 false, .as 61 false, .as 65 true, .call false [] (.o (.c (.v (.bool v30)))) [] [], .as 72 true] [] [] [] (And.intro h9 (And.intro (gi_map Thing.enc h11) (And.intro (impl_within_ok v10.Id 1 9999 v12 h13) (And.intro h14 (And.intro h15 (And.intro (gi_map Thing.enc h17) (And.intro h18 (And.intro (impl_within_ok v10.Own 1 30000 v19 h20) (And.intro h21 (And.intro h22 (And.intro (impl_within_ok v10.Room 1 1000000 v23 h24) (And.intro h25 (And.intro h26 (And.intro h27 (And.intro h28 (And.intro h29 (And.intro (impl_isBox_ok a0 v10.In v30 h31) (And.intro h32 True.intro)))))))))))))))))) (by kernel_rfl)
                        · have hE : some (Ctl.next (w64 (s1 + 1))) = some c1 := hM
                          have hE := Option.some.inj hE
                          subst hE
                          exact pc R 9999 [.as 10 true, .ix (Thing.enc v10), .new 2, .call false [] (.o (.c (.v (.bool v12)))) [] [], .as 18 false, .as 21 true, .ix (Thing.enc v16), .as 33 false, .call false [] (.o (.c (.v (.bool v19)))) [] [], .as 38 false, .as 41 true, .call false [] (.o (.c (.v (.bool v23)))) [] [], .as 47 false, .as 51 true, .as 55 false, .as 61 false, .as 65 true, .call false [] (.o (.c (.v (.bool v30)))) [] [], .as 72 false] [.keep [0, 7, 8, 9] []] (And.intro h9 (And.intro (gi_map Thing.enc h11) (And.intro (impl_within_ok v10.Id 1 9999 v12 h13) (And.intro h14 (And.intro h15 (And.intro (gi_map Thing.enc h17) (And.intro h18 (And.intro (impl_within_ok v10.Own 1 30000 v19 h20) (And.intro h21 (And.intro h22 (And.intro (impl_within_ok v10.Room 1 1000000 v23 h24) (And.intro h25 (And.intro h26 (And.intro h27 (And.intro h28 (And.intro h29 (And.intro (impl_isBox_ok a0 v10.In v30 h31) (And.intro h32 True.intro)))))))))))))))))) (by kernel_rfl) (li (Sf := impl_areDeep_L1_S a0) (M := Mk (impl_areDeep_L1 a0) (impl_areDeep_L1_k a0) r) (k := [.blk 0, .code (cAt Try.f38 [1, 1])]) (Nat.lt_succ_self m1) hK1)
                      · have hE : some (Ctl.next (w64 (s1 + 1))) = some c1 := hM
                        have hE := Option.some.inj hE
                        subst hE
                        exact pc R 9999 [.as 10 true, .ix (Thing.enc v10), .new 2, .call false [] (.o (.c (.v (.bool v12)))) [] [], .as 18 false, .as 21 true, .ix (Thing.enc v16), .as 33 false, .call false [] (.o (.c (.v (.bool v19)))) [] [], .as 38 false, .as 41 true, .call false [] (.o (.c (.v (.bool v23)))) [] [], .as 47 false, .as 51 true, .as 55 false, .as 61 false, .as 65 false] [.keep [0, 7, 8, 9] []] (And.intro h9 (And.intro (gi_map Thing.enc h11) (And.intro (impl_within_ok v10.Id 1 9999 v12 h13) (And.intro h14 (And.intro h15 (And.intro (gi_map Thing.enc h17) (And.intro h18 (And.intro (impl_within_ok v10.Own 1 30000 v19 h20) (And.intro h21 (And.intro h22 (And.intro (impl_within_ok v10.Room 1 1000000 v23 h24) (And.intro h25 (And.intro h26 (And.intro h27 (And.intro h28 (And.intro h29 True.intro)))))))))))))))) (by kernel_rfl) (li (Sf := impl_areDeep_L1_S a0) (M := Mk (impl_areDeep_L1 a0) (impl_areDeep_L1_k a0) r) (k := [.blk 0, .code (cAt Try.f38 [1, 1])]) (Nat.lt_succ_self m1) hK1)
                · rcases cond_cases hM with ⟨h33, hM⟩ | ⟨h33, hM⟩
                  · obtain ⟨v34, h35, hM⟩ := bind_some hM
                    rcases cond_cases hM with ⟨h36, hM⟩ | ⟨h36, hM⟩
                    · have hE : some (Ctl.ret false) = some c1 := hM
                      have hE := Option.some.inj hE
                      subst hE
                      have hE : some false = some r := hK1
                      have hE := Option.some.inj hE
                      subst hE
                      exact pr R 9999 [.as 10 true, .ix (Thing.enc v10), .new 2, .call false [] (.o (.c (.v (.bool v12)))) [] [], .as 18 false, .as 21 true, .ix (Thing.enc v16), .as 33 false, .call false [] (.o (.c (.v (.bool v19)))) [] [], .as 38 false, .as 41 true, .call false [] (.o (.c (.v (.bool v23)))) [] [], .as 47 false, .as 51 false, .as 65 true, .call false [] (.o (.c (.v (.bool v34)))) [] [], .as 72 true] [] [] [] (And.intro h9 (And.intro (gi_map Thing.enc h11) (And.intro (impl_within_ok v10.Id 1 9999 v12 h13) (And.intro h14 (And.intro h15 (And.intro (gi_map Thing.enc h17) (And.intro h18 (And.intro (impl_within_ok v10.Own 1 30000 v19 h20) (And.intro h21 (And.intro h22 (And.intro (impl_within_ok v10.Room 1 1000000 v23 h24) (And.intro h25 (And.intro h26 (And.intro h33 (And.intro (impl_isBox_ok a0 v10.In v34 h35) (And.intro h36 True.intro)))))))))))))))) (by kernel_rfl)
                    · have hE : some (Ctl.next (w64 (s1 + 1))) = some c1 := hM
                      have hE := Option.some.inj hE
                      subst hE
                      exact pc R 9999 [.as 10 true, .ix (Thing.enc v10), .new 2, .call false [] (.o (.c (.v (.bool v12)))) [] [], .as 18 false, .as 21 true, .ix (Thing.enc v16), .as 33 false, .call false [] (.o (.c (.v (.bool v19)))) [] [], .as 38 false, .as 41 true, .call false [] (.o (.c (.v (.bool v23)))) [] [], .as 47 false, .as 51 false, .as 65 true, .call false [] (.o (.c (.v (.bool v34)))) [] [], .as 72 false] [.keep [0, 7, 8, 9] []] (And.intro h9 (And.intro (gi_map Thing.enc h11) (And.intro (impl_within_ok v10.Id 1 9999 v12 h13) (And.intro h14 (And.intro h15 (And.intro (gi_map Thing.enc h17) (And.intro h18 (And.intro (impl_within_ok v10.Own 1 30000 v19 h20) (And.intro h21 (And.intro h22 (And.intro (impl_within_ok v10.Room 1 1000000 v23 h24) (And.intro h25 (And.intro h26 (And.intro h33 (And.intro (impl_isBox_ok a0 v10.In v34 h35) (And.intro h36 True.intro)))))))))))))))) (by kernel_rfl) (li (Sf := impl_areDeep_L1_S a0) (M := Mk (impl_areDeep_L1 a0) (impl_areDeep_L1_k a0) r) (k := [.blk 0, .code (cAt Try.f38 [1, 1])]) (Nat.lt_succ_self m1) hK1)
                  · have hE : some (Ctl.next (w64 (s1 + 1))) = some c1 := hM
                    have hE := Option.some.inj hE
                    subst hE
                    exact pc R 9999 [.as 10 true, .ix (Thing.enc v10), .new 2, .call false [] (.o (.c (.v (.bool v12)))) [] [], .as 18 false, .as 21 true, .ix (Thing.enc v16), .as 33 false, .call false [] (.o (.c (.v (.bool v19)))) [] [], .as 38 false, .as 41 true, .call false [] (.o (.c (.v (.bool v23)))) [] [], .as 47 false, .as 51 false, .as 65 false] [.keep [0, 7, 8, 9] []] (And.intro h9 (And.intro (gi_map Thing.enc h11) (And.intro (impl_within_ok v10.Id 1 9999 v12 h13) (And.intro h14 (And.intro h15 (And.intro (gi_map Thing.enc h17) (And.intro h18 (And.intro (impl_within_ok v10.Own 1 30000 v19 h20) (And.intro h21 (And.intro h22 (And.intro (impl_within_ok v10.Room 1 1000000 v23 h24) (And.intro h25 (And.intro h26 (And.intro h33 True.intro)))))))))))))) (by kernel_rfl) (li (Sf := impl_areDeep_L1_S a0) (M := Mk (impl_areDeep_L1 a0) (impl_areDeep_L1_k a0) r) (k := [.blk 0, .code (cAt Try.f38 [1, 1])]) (Nat.lt_succ_self m1) hK1)
            · rcases cond_cases hM with ⟨h37, hM⟩ | ⟨h37, hM⟩
              · rcases cond_cases hM with ⟨h38, hM⟩ | ⟨h38, hM⟩
                · have hE : some (Ctl.ret false) = some c1 := hM
                  have hE := Option.some.inj hE
                  subst hE
                  have hE : some false = some r := hK1
                  have hE := Option.some.inj hE
                  subst hE
                  exact pr R 9999 [.as 10 true, .ix (Thing.enc v10), .new 2, .call false [] (.o (.c (.v (.bool v12)))) [] [], .as 18 false, .as 21 true, .ix (Thing.enc v16), .as 33 false, .call false [] (.o (.c (.v (.bool v19)))) [] [], .as 38 false, .as 41 false, .as 51 true, .as 55 true] [] [] [] (And.intro h9 (And.intro (gi_map Thing.enc h11) (And.intro (impl_within_ok v10.Id 1 9999 v12 h13) (And.intro h14 (And.intro h15 (And.intro (gi_map Thing.enc h17) (And.intro h18 (And.intro (impl_within_ok v10.Own 1 30000 v19 h20) (And.intro h21 (And.intro h22 (And.intro h37 (And.intro h38 True.intro)))))))))))) (by kernel_rfl)
                · rcases cond_cases hM with ⟨h39, hM⟩ | ⟨h39, hM⟩
                  · have hE : some (Ctl.ret false) = some c1 := hM
                    have hE := Option.some.inj hE
                    subst hE
                    have hE : some false = some r := hK1
                    have hE := Option.some.inj hE
                    subst hE
                    exact pr R 9999 [.as 10 true, .ix (Thing.enc v10), .new 2, .call false [] (.o (.c (.v (.bool v12)))) [] [], .as 18 false, .as 21 true, .ix (Thing.enc v16), .as 33 false, .call false [] (.o (.c (.v (.bool v19)))) [] [], .as 38 false, .as 41 false, .as 51 true, .as 55 false, .as 61 true] [] [] [] (And.intro h9 (And.intro (gi_map Thing.enc h11) (And.intro (impl_within_ok v10.Id 1 9999 v12 h13) (And.intro h14 (And.intro h15 (And.intro (gi_map Thing.enc h17) (And.intro h18 (And.intro (impl_within_ok v10.Own 1 30000 v19 h20) (And.intro h21 (And.intro h22 (And.intro h37 (And.intro h38 (And.intro h39 True.intro))))))))))))) (by kernel_rfl)
                  · rcases cond_cases hM with ⟨h40, hM⟩ | ⟨h40, hM⟩
                    · obtain ⟨v41, h42, hM⟩ := bind_some hM
                      rcases cond_cases hM with ⟨h43, hM⟩ | ⟨h43, hM⟩
                      · have hE : some (Ctl.ret false) = some c1 := hM
                        have hE := Option.some.inj hE
                        subst hE
                        have hE : some false = some r := hK1
                        have hE := Option.some.inj hE
                        subst hE
                        exact pr R 9999 [.as 10 true, .ix (Thing.enc v10), .new 2, .call false [] (.o (.c (.v (.bool v12)))) [] [], .as 18 false, .as 21 true, .ix (Thing.enc v16), .as 33 false, .call false [] (.o (.c (.v (.bool v19)))) [] [], .as 38 false, .as 41 false, .as 51 true, .as 55 false, .as 61 false, .as 65 true, .call false [] (.o (.c (.v (.bool v41)))) [] [], .as 72 true] [] [] [] (And.intro h9 (And.intro (gi_map Thing.enc h11) (And.intro (impl_within_ok v10.Id 1 9999 v12 h13) (And.intro h14 (And.intro h15 (And.intro (gi_map Thing.enc h17) (And.intro h18 (And.intro (impl_within_ok v10.Own 1 30000 v19 h20) (And.intro h21 (And.intro h22 (And.intro h37 (And.intro h38 (And.intro h39 (And.intro h40 (And.intro (impl_isBox_ok a0 v10.In v41 h42) (And.intro h43 True.intro)))))))))))))))) (by kernel_rfl)
                      · have hE : some (Ctl.next (w64 (s1 + 1))) = some c1 := hM
                        have hE := Option.some.inj hE
                        subst hE
                        exact pc R 9999 [.as 10 true, .ix (Thing.enc v10), .new 2, .call false [] (.o (.c (.v (.bool v12)))) [] [], .as 18 false, .as 21 true, .ix (Thing.enc v16), .as 33 false, .call false [] (.o (.c (.v (.bool v19)))) [] [], .as 38 false, .as 41 false, .as 51 true, .as 55 false, .as 61 false, .as 65 true, .call false [] (.o (.c (.v (.bool v41)))) [] [], .as 72 false] [.keep [0, 7, 8, 9] []] (And.intro h9 (And.intro (gi_map Thing.enc h11) (And.intro (impl_within_ok v10.Id 1 9999 v12 h13) (And.intro h14 (And.intro h15 (And.intro (gi_map Thing.enc h17) (And.intro h18 (And.intro (impl_within_ok v10.Own 1 30000 v19 h20) (And.intro h21 (And.intro h22 (And.intro h37 (And.intro h38 (And.intro h39 (And.intro h40 (And.intro (impl_isBox_ok a0 v10.In v41 h42) (And.intro h43 True.intro)))))))))))))))) (by kernel_rfl) (li (Sf := impl_areDeep_L1_S a0) (M := Mk (impl_areDeep_L1 a0) (impl_areDeep_L1_k a0) r) (k := [.blk 0, .code (cAt Try.f38 [1, 1])]) (Nat.lt_succ_self m1) hK1)
                    · have hE : some (Ctl.next (w64 (s1 + 1))) = some c1 := hM
                      have hE := Option.some.inj hE
                      subst hE
                      exact pc R 9999 [.as 10 true, .ix (Thing.enc v10), .new 2, .call false [] (.o (.c (.v (.bool v12)))) [] [], .as 18 false, .as 21 true, .ix (Thing.enc v16), .as 33 false, .call false [] (.o (.c (.v (.bool v19)))) [] [], .as 38 false, .as 41 false, .as 51 true, .as 55 false, .as 61 false, .as 65 false] [.keep [0, 7, 8, 9] []] (And.intro h9 (And.intro (gi_map Thing.enc h11) (And.intro (impl_within_ok v10.Id 1 9999 v12 h13) (And.intro h14 (And.intro h15 (And.intro (gi_map Thing.enc h17) (And.intro h18 (And.intro (impl_within_ok v10.Own 1 30000 v19 h20) (And.intro h21 (And.intro h22 (And.intro h37 (And.intro h38 (And.intro h39 (And.intro h40 True.intro)))))))))))))) (by kernel_rfl) (li (Sf := impl_areDeep_L1_S a0) (M := Mk (impl_areDeep_L1 a0) (impl_areDeep_L1_k a0) r) (k := [.blk 0, .code (cAt Try.f38 [1, 1])]) (Nat.lt_succ_self m1) hK1)
              · rcases cond_cases hM with ⟨h44, hM⟩ | ⟨h44, hM⟩
                · obtain ⟨v45, h46, hM⟩ := bind_some hM
                  rcases cond_cases hM with ⟨h47, hM⟩ | ⟨h47, hM⟩
                  · have hE : some (Ctl.ret false) = some c1 := hM
                    have hE := Option.some.inj hE
                    subst hE
                    have hE : some false = some r := hK1
                    have hE := Option.some.inj hE
                    subst hE
                    exact pr R 9999 [.as 10 true, .ix (Thing.enc v10), .new 2, .call false [] (.o (.c (.v (.bool v12)))) [] [], .as 18 false, .as 21 true, .ix (Thing.enc v16), .as 33 false, .call false [] (.o (.c (.v (.bool v19)))) [] [], .as 38 false, .as 41 false, .as 51 false, .as 65 true, .call false [] (.o (.c (.v (.bool v45)))) [] [], .as 72 true] [] [] [] (And.intro h9 (And.intro (gi_map Thing.enc h11) (And.intro (impl_within_ok v10.Id 1 9999 v12 h13) (And.intro h14 (And.intro h15 (And.intro (gi_map Thing.enc h17) (And.intro h18 (And.intro (impl_within_ok v10.Own 1 30000 v19 h20) (And.intro h21 (And.intro h22 (And.intro h37 (And.intro h44 (And.intro (impl_isBox_ok a0 v10.In v45 h46) (And.intro h47 True.intro)))))))))))))) (by kernel_rfl)
                  · have hE : some (Ctl.next (w64 (s1 + 1))) = some c1 := hM
                    have hE := Option.some.inj hE
                    subst hE
                    exact pc R 9999 [.as 10 true, .ix (Thing.enc v10), .new 2, .call false [] (.o (.c (.v (.bool v12)))) [] [], .as 18 false, .as 21 true, .ix (Thing.enc v16), .as 33 false, .call false [] (.o (.c (.v (.bool v19)))) [] [], .as 38 false, .as 41 false, .as 51 false, .as 65 true, .call false [] (.o (.c (.v (.bool v45)))) [] [], .as 72 false] [.keep [0, 7, 8, 9] []] (And.intro h9 (And.intro (gi_map Thing.enc h11) (And.intro (impl_within_ok v10.Id 1 9999 v12 h13) (And.intro h14 (And.intro h15 (And.intro (gi_map Thing.enc h17) (And.intro h18 (And.intro (impl_within_ok v10.Own 1 30000 v19 h20) (And.intro h21 (And.intro h22 (And.intro h37 (And.intro h44 (And.intro (impl_isBox_ok a0 v10.In v45 h46) (And.intro h47 True.intro)))))))))))))) (by kernel_rfl) (li (Sf := impl_areDeep_L1_S a0) (M := Mk (impl_areDeep_L1 a0) (impl_areDeep_L1_k a0) r) (k := [.blk 0, .code (cAt Try.f38 [1, 1])]) (Nat.lt_succ_self m1) hK1)
                · have hE : some (Ctl.next (w64 (s1 + 1))) = some c1 := hM
                  have hE := Option.some.inj hE
                  subst hE
                  exact pc R 9999 [.as 10 true, .ix (Thing.enc v10), .new 2, .call false [] (.o (.c (.v (.bool v12)))) [] [], .as 18 false, .as 21 true, .ix (Thing.enc v16), .as 33 false, .call false [] (.o (.c (.v (.bool v19)))) [] [], .as 38 false, .as 41 false, .as 51 false, .as 65 false] [.keep [0, 7, 8, 9] []] (And.intro h9 (And.intro (gi_map Thing.enc h11) (And.intro (impl_within_ok v10.Id 1 9999 v12 h13) (And.intro h14 (And.intro h15 (And.intro (gi_map Thing.enc h17) (And.intro h18 (And.intro (impl_within_ok v10.Own 1 30000 v19 h20) (And.intro h21 (And.intro h22 (And.intro h37 (And.intro h44 True.intro)))))))))))) (by kernel_rfl) (li (Sf := impl_areDeep_L1_S a0) (M := Mk (impl_areDeep_L1 a0) (impl_areDeep_L1_k a0) r) (k := [.blk 0, .code (cAt Try.f38 [1, 1])]) (Nat.lt_succ_self m1) hK1)
      · obtain ⟨v48, h49, hM⟩ := bind_some hM
        rcases cond_cases hM with ⟨h50, hM⟩ | ⟨h50, hM⟩
        · have hE : some (Ctl.ret false) = some c1 := hM
          have hE := Option.some.inj hE
          subst hE
          have hE : some false = some r := hK1
          have hE := Option.some.inj hE
          subst hE
          exact pr R 9999 [.as 10 true, .ix (Thing.enc v10), .new 2, .call false [] (.o (.c (.v (.bool v12)))) [] [], .as 18 false, .as 21 false, .call false [] (.o (.c (.v (.bool v48)))) [] [], .as 38 true] [] [] [] (And.intro h9 (And.intro (gi_map Thing.enc h11) (And.intro (impl_within_ok v10.Id 1 9999 v12 h13) (And.intro h14 (And.intro h15 (And.intro (impl_within_ok v10.Own 1 30000 v48 h49) (And.intro h50 True.intro))))))) (by kernel_rfl)
        · rcases cond_cases hM with ⟨h51, hM⟩ | ⟨h51, hM⟩
          · obtain ⟨v52, h53, hM⟩ := bind_some hM
            rcases cond_cases hM with ⟨h54, hM⟩ | ⟨h54, hM⟩
            · have hE : some (Ctl.ret false) = some c1 := hM
              have hE := Option.some.inj hE
              subst hE
              have hE : some false = some r := hK1
              have hE := Option.some.inj hE
              subst hE
              exact pr R 9999 [.as 10 true, .ix (Thing.enc v10), .new 2, .call false [] (.o (.c (.v (.bool v12)))) [] [], .as 18 false, .as 21 false, .call false [] (.o (.c (.v (.bool v48)))) [] [], .as 38 false, .as 41 true, .call false [] (.o (.c (.v (.bool v52)))) [] [], .as 47 true] [] [] [] (And.intro h9 (And.intro (gi_map Thing.enc h11) (And.intro (impl_within_ok v10.Id 1 9999 v12 h13) (And.intro h14 (And.intro h15 (And.intro (impl_within_ok v10.Own 1 30000 v48 h49) (And.intro h50 (And.intro h51 (And.intro (impl_within_ok v10.Room 1 1000000 v52 h53) (And.intro h54 True.intro)))))))))) (by kernel_rfl)
            · rcases cond_cases hM with ⟨h55, hM⟩ | ⟨h55, hM⟩
              · rcases cond_cases hM with ⟨h56, hM⟩ | ⟨h56, hM⟩
                · have hE : some (Ctl.ret false) = some c1 := hM
                  have hE := Option.some.inj hE
                  subst hE
                  have hE : some false = some r := hK1
                  have hE := Option.some.inj hE
                  subst hE
                  exact pr R 9999 [.as 10 true, .ix (Thing.enc v10), .new 2, .call false [] (.o (.c (.v (.bool v12)))) [] [], .as 18 false, .as 21 false, .call false [] (.o (.c (.v (.bool v48)))) [] [], .as 38 false, .as 41 true, .call false [] (.o (.c (.v (.bool v52)))) [] [], .as 47 false, .as 51 true, .as 55 true] [] [] [] (And.intro h9 (And.intro (gi_map Thing.enc h11) (And.intro (impl_within_ok v10.Id 1 9999 v12 h13) (And.intro h14 (And.intro h15 (And.intro (impl_within_ok v10.Own 1 30000 v48 h49) (And.intro h50 (And.intro h51 (And.intro (impl_within_ok v10.Room 1 1000000 v52 h53) (And.intro h54 (And.intro h55 (And.intro h56 True.intro)))))))))))) (by kernel_rfl)
                · rcases cond_cases hM with ⟨h57, hM⟩ | ⟨h57, hM⟩
                  · have hE : some (Ctl.ret false) = some c1 := hM
                    have hE := Option.some.inj hE
                    subst hE
                    have hE : some false = some r := hK1
                    have hE := Option.some.inj hE
                    subst hE
                    exact pr R 9999 [.as 10 true, .ix (Thing.enc v10), .new 2, .call false [] (.o (.c (.v (.bool v12)))) [] [], .as 18 false, .as 21 false, .call false [] (.o (.c (.v (.bool v48)))) [] [], .as 38 false, .as 41 true, .call false [] (.o (.c (.v (.bool v52)))) [] [], .as 47 false, .as 51 true, .as 55 false, .as 61 true] [] [] [] (And.intro h9 (And.intro (gi_map Thing.enc h11) (And.intro (impl_within_ok v10.Id 1 9999 v12 h13) (And.intro h14 (And.intro h15 (And.intro (impl_within_ok v10.Own 1 30000 v48 h49) (And.intro h50 (And.intro h51 (And.intro (impl_within_ok v10.Room 1 1000000 v52 h53) (And.intro h54 (And.intro h55 (And.intro h56 (And.intro h57 True.intro))))))))))))) (by kernel_rfl)
                  · rcases cond_cases hM with ⟨h58, hM⟩ | ⟨h58, hM⟩
                    · obtain ⟨v59, h60, hM⟩ := bind_some hM
                      rcases cond_cases hM with ⟨h61, hM⟩ | ⟨h61, hM⟩
                      · have hE : some (Ctl.ret false) = some c1 := hM
                        have hE := Option.some.inj hE
                        subst hE
                        have hE : some false = some r := hK1
                        have hE := Option.some.inj hE
                        subst hE
                        exact pr R 9999 [.as 10 true, .ix (Thing.enc v10), .new 2, .call false [] (.o (.c (.v (.bool v12)))) [] [], .as 18 false, .as 21 false, .call false [] (.o (.c (.v (.bool v48)))) [] [], .as 38 false, .as 41 true, .call false [] (.o (.c (.v (.bool v52)))) [] [], .as 47 false, .as 51 true, .as 55 false, .as 61 false, .as 65 true, .call false [] (.o (.c (.v (.bool v59)))) [] [], .as 72 true] [] [] [] (And.intro h9 (And.intro (gi_map Thing.enc h11) (And.intro (impl_within_ok v10.Id 1 9999 v12 h13) (And.intro h14 (And.intro h15 (And.intro (impl_within_ok v10.Own 1 30000 v48 h49) (And.intro h50 (And.intro h51 (And.intro (impl_within_ok v10.Room 1 1000000 v52 h53) (And.intro h54 (And.intro h55 (And.intro h56 (And.intro h57 (And.intro h58 (And.intro (impl_isBox_ok a0 v10.In v59 h60) (And.intro h61 True.intro)))))))))))))))) (by kernel_rfl)
                      · have hE : some (Ctl.next (w64 (s1 + 1))) = some c1 := hM
                        have hE := Option.some.inj hE
                        subst hE
                        exact pc R 9999 [.as 10 true, .ix (Thing.enc v10), .new 2, .call false [] (.o (.c (.v (.bool v12)))) [] [], .as 18 false, .as 21 false, .call false [] (.o (.c (.v (.bool v48)))) [] [], .as 38 false, .as 41 true, .call false [] (.o (.c (.v (.bool v52)))) [] [], .as 47 false, .as 51 true, .as 55 false, .as 61 false, .as 65 true, .call false [] (.o (.c (.v (.bool v59)))) [] [], .as 72 false] [.keep [0, 7, 8, 9] []] (And.intro h9 (And.intro (gi_map Thing.enc h11) (And.intro (impl_within_ok v10.Id 1 9999 v12 h13) (And.intro h14 (And.intro h15 (And.intro (impl_within_ok v10.Own 1 30000 v48 h49) (And.intro h50 (And.intro h51 (And.intro (impl_within_ok v10.Room 1 1000000 v52 h53) (And.intro h54 (And.intro h55 (And.intro h56 (And.intro h57 (And.intro h58 (And.intro (impl_isBox_ok a0 v10.In v59 h60) (And.intro h61 True.intro)))))))))))))))) (by kernel_rfl) (li (Sf := impl_areDeep_L1_S a0) (M := Mk (impl_areDeep_L1 a0) (impl_areDeep_L1_k a0) r) (k := [.blk 0, .code (cAt Try.f38 [1, 1])]) (Nat.lt_succ_self m1) hK1)
                    · have hE : some (Ctl.next (w64 (s1 + 1))) = some c1 := hM
                      have hE := Option.some.inj hE
                      subst hE
                      exact pc R 9999 [.as 10 true, .ix (Thing.enc v10), .new 2, .call false [] (.o (.c (.v (.bool v12)))) [] [], .as 18 false, .as 21 false, .call false [] (.o (.c (.v (.bool v48)))) [] [], .as 38 false, .as 41 true, .call false [] (.o (.c (.v (.bool v52)))) [] [], .as 47 false, .as 51 true, .as 55 false, .as 61 false, .as 65 false] [.keep [0, 7, 8, 9] []] (And.intro h9 (And.intro (gi_map Thing.enc h11) (And.intro (impl_within_ok v10.Id 1 9999 v12 h13) (And.intro h14 (And.intro h15 (And.intro (impl_within_ok v10.Own 1 30000 v48 h49) (And.intro h50 (And.intro h51 (And.intro (impl_within_ok v10.Room 1 1000000 v52 h53) (And.intro h54 (And.intro h55 (And.intro h56 (And.intro h57 (And.intro h58 True.intro)))))))))))))) (by kernel_rfl) (li (Sf := impl_areDeep_L1_S a0) (M := Mk (impl_areDeep_L1 a0) (impl_areDeep_L1_k a0) r) (k := [.blk 0, .code (cAt Try.f38 [1, 1])]) (Nat.lt_succ_self m1) hK1)
              · rcases cond_cases hM with ⟨h62, hM⟩ | ⟨h62, hM⟩
                · obtain ⟨v63, h64, hM⟩ := bind_some hM
                  rcases cond_cases hM with ⟨h65, hM⟩ | ⟨h65, hM⟩
                  · have hE : some (Ctl.ret false) = some c1 := hM
                    have hE := Option.some.inj hE
                    subst hE
                    have hE : some false = some r := hK1
                    have hE := Option.some.inj hE
                    subst hE
                    exact pr R 9999 [.as 10 true, .ix (Thing.enc v10), .new 2, .call false [] (.o (.c (.v (.bool v12)))) [] [], .as 18 false, .as 21 false, .call false [] (.o (.c (.v (.bool v48)))) [] [], .as 38 false, .as 41 true, .call false [] (.o (.c (.v (.bool v52)))) [] [], .as 47 false, .as 51 false, .as 65 true, .call false [] (.o (.c (.v (.bool v63)))) [] [], .as 72 true] [] [] [] (And.intro h9 (And.intro (gi_map Thing.enc h11) (And.intro (impl_within_ok v10.Id 1 9999 v12 h13) (And.intro h14 (And.intro h15 (And.intro (impl_within_ok v10.Own 1 30000 v48 h49) (And.intro h50 (And.intro h51 (And.intro (impl_within_ok v10.Room 1 1000000 v52 h53) (And.intro h54 (And.intro h55 (And.intro h62 (And.intro (impl_isBox_ok a0 v10.In v63 h64) (And.intro h65 True.intro)))))))))))))) (by kernel_rfl)
                  · have hE : some (Ctl.next (w64 (s1 + 1))) = some c1 := hM
                    have hE := Option.some.inj hE
                    subst hE
                    exact pc R 9999 [.as 10 true, .ix (Thing.enc v10), .new 2, .call false [] (.o (.c (.v (.bool v12)))) [] [], .as 18 false, .as 21 false, .call false [] (.o (.c (.v (.bool v48)))) [] [], .as 38 false, .as 41 true, .call false [] (.o (.c (.v (.bool v52)))) [] [], .as 47 false, .as 51 false, .as 65 true, .call false [] (.o (.c (.v (.bool v63)))) [] [], .as 72 false] [.keep [0, 7, 8, 9] []] (And.intro h9 (And.intro (gi_map Thing.enc h11) (And.intro (impl_within_ok v10.Id 1 9999 v12 h13) (And.intro h14 (And.intro h15 (And.intro (impl_within_ok v10.Own 1 30000 v48 h49) (And.intro h50 (And.intro h51 (And.intro (impl_within_ok v10.Room 1 1000000 v52 h53) (And.intro h54 (And.intro h55 (And.intro h62 (And.intro (impl_isBox_ok a0 v10.In v63 h64) (And.intro h65 True.intro)))))))))))))) (by kernel_rfl) (li (Sf := impl_areDeep_L1_S a0) (M := Mk (impl_areDeep_L1 a0) (impl_areDeep_L1_k a0) r) (k := [.blk 0, .code (cAt Try.f38 [1, 1])]) (Nat.lt_succ_self m1) hK1)
                · have hE : some (Ctl.next (w64 (s1 + 1))) = some c1 := hM
                  have hE := Option.some.inj hE
                  subst hE
                  exact pc R 9999 [.as 10 true, .ix (Thing.enc v10), .new 2, .call false [] (.o (.c (.v (.bool v12)))) [] [], .as 18 false, .as 21 false, .call false [] (.o (.c (.v (.bool v48)))) [] [], .as 38 false, .as 41 true, .call false [] (.o (.c (.v (.bool v52)))) [] [], .as 47 false, .as 51 false, .as 65 false] [.keep [0, 7, 8, 9] []] (And.intro h9 (And.intro (gi_map Thing.enc h11) (And.intro (impl_within_ok v10.Id 1 9999 v12 h13) (And.intro h14 (And.intro h15 (And.intro (impl_within_ok v10.Own 1 30000 v48 h49) (And.intro h50 (And.intro h51 (And.intro (impl_within_ok v10.Room 1 1000000 v52 h53) (And.intro h54 (And.intro h55 (And.intro h62 True.intro)))))))))))) (by kernel_rfl) (li (Sf := impl_areDeep_L1_S a0) (M := Mk (impl_areDeep_L1 a0) (impl_areDeep_L1_k a0) r) (k := [.blk 0, .code (cAt Try.f38 [1, 1])]) (Nat.lt_succ_self m1) hK1)
          · rcases cond_cases hM with ⟨h66, hM⟩ | ⟨h66, hM⟩
            · rcases cond_cases hM with ⟨h67, hM⟩ | ⟨h67, hM⟩
              · have hE : some (Ctl.ret false) = some c1 := hM
                have hE := Option.some.inj hE
                subst hE
                have hE : some false = some r := hK1
                have hE := Option.some.inj hE
                subst hE
                exact pr R 9999 [.as 10 true, .ix (Thing.enc v10), .new 2, .call false [] (.o (.c (.v (.bool v12)))) [] [], .as 18 false, .as 21 false, .call false [] (.o (.c (.v (.bool v48)))) [] [], .as 38 false, .as 41 false, .as 51 true, .as 55 true] [] [] [] (And.intro h9 (And.intro (gi_map Thing.enc h11) (And.intro (impl_within_ok v10.Id 1 9999 v12 h13) (And.intro h14 (And.intro h15 (And.intro (impl_within_ok v10.Own 1 30000 v48 h49) (And.intro h50 (And.intro h51 (And.intro h66 (And.intro h67 True.intro)))))))))) (by kernel_rfl)
              · rcases cond_cases hM with ⟨h68, hM⟩ | ⟨h68, hM⟩
                · have hE : some (Ctl.ret false) = some c1 := hM
                  have hE := Option.some.inj hE
                  subst hE
                  have hE : some false = some r := hK1
                  have hE := Option.some.inj hE
                  subst hE
                  exact pr R 9999 [.as 10 true, .ix (Thing.enc v10), .new 2, .call false [] (.o (.c (.v (.bool v12)))) [] [], .as 18 false, .as 21 false, .call false [] (.o (.c (.v (.bool v48)))) [] [], .as 38 false, .as 41 false, .as 51 true, .as 55 false, .as 61 true] [] [] [] (And.intro h9 (And.intro (gi_map Thing.enc h11) (And.intro (impl_within_ok v10.Id 1 9999 v12 h13) (And.intro h14 (And.intro h15 (And.intro (impl_within_ok v10.Own 1 30000 v48 h49) (And.intro h50 (And.intro h51 (And.intro h66 (And.intro h67 (And.intro h68 True.intro))))))))))) (by kernel_rfl)
                · rcases cond_cases hM with ⟨h69, hM⟩ | ⟨h69, hM⟩
                  · obtain ⟨v70, h71, hM⟩ := bind_some hM
                    rcases cond_cases hM with ⟨h72, hM⟩ | ⟨h72, hM⟩
                    · have hE : some (Ctl.ret false) = some c1 := hM
                      have hE := Option.some.inj hE
                      subst hE
                      have hE : some false = some r := hK1
                      have hE := Option.some.inj hE
                      subst hE
                      exact pr R 9999 [.as 10 true, .ix (Thing.enc v10), .new 2, .call false [] (.o (.c (.v (.bool v12)))) [] [], .as 18 false, .as 21 false, .call false [] (.o (.c (.v (.bool v48)))) [] [], .as 38 false, .as 41 false, .as 51 true, .as 55 false, .as 61 false, .as 65 true, .call false [] (.o (.c (.v (.bool v70)))) [] [], .as 72 true] [] [] [] (And.intro h9 (And.intro (gi_map Thing.enc h11) (And.intro (impl_within_ok v10.Id 1 9999 v12 h13) (And.intro h14 (And.intro h15 (And.intro (impl_within_ok v10.Own 1 30000 v48 h49) (And.intro h50 (And.intro h51 (And.intro h66 (And.intro h67 (And.intro h68 (And.intro h69 (And.intro (impl_isBox_ok a0 v10.In v70 h71) (And.intro h72 True.intro)))))))))))))) (by kernel_rfl)
                    · have hE : some (Ctl.next (w64 (s1 + 1))) = some c1 := hM
                      have hE := Option.some.inj hE
                      subst hE
                      exact pc R 9999 [.as 10 true, .ix (Thing.enc v10), .new 2, .call false [] (.o (.c (.v (.bool v12)))) [] [], .as 18 false, .as 21 false, .call false [] (.o (.c (.v (.bool v48)))) [] [], .as 38 false, .as 41 false, .as 51 true, .as 55 false, .as 61 false, .as 65 true, .call false [] (.o (.c (.v (.bool v70)))) [] [], .as 72 false] [.keep [0, 7, 8, 9] []] (And.intro h9 (And.intro (gi_map Thing.enc h11) (And.intro (impl_within_ok v10.Id 1 9999 v12 h13) (And.intro h14 (And.intro h15 (And.intro (impl_within_ok v10.Own 1 30000 v48 h49) (And.intro h50 (And.intro h51 (And.intro h66 (And.intro h67 (And.intro h68 (And.intro h69 (And.intro (impl_isBox_ok a0 v10.In v70 h71) (And.intro h72 True.intro)))))))))))))) (by kernel_rfl) (li (Sf := impl_areDeep_L1_S a0) (M := Mk (impl_areDeep_L1 a0) (impl_areDeep_L1_k a0) r) (k := [.blk 0, .code (cAt Try.f38 [1, 1])]) (Nat.lt_succ_self m1) hK1)
                  · have hE : some (Ctl.next (w64 (s1 + 1))) = some c1 := hM
                    have hE := Option.some.inj hE
                    subst hE
                    exact pc R 9999 [.as 10 true, .ix (Thing.enc v10), .new 2, .call false [] (.o (.c (.v (.bool v12)))) [] [], .as 18 false, .as 21 false, .call false [] (.o (.c (.v (.bool v48)))) [] [], .as 38 false, .as 41 false, .as 51 true, .as 55 false, .as 61 false, .as 65 false] [.keep [0, 7, 8, 9] []] (And.intro h9 (And.intro (gi_map Thing.enc h11) (And.intro (impl_within_ok v10.Id 1 9999 v12 h13) (And.intro h14 (And.intro h15 (And.intro (impl_within_ok v10.Own 1 30000 v48 h49) (And.intro h50 (And.intro h51 (And.intro h66 (And.intro h67 (And.intro h68 (And.intro h69 True.intro)))))))))))) (by kernel_rfl) (li (Sf := impl_areDeep_L1_S a0) (M := Mk (impl_areDeep_L1 a0) (impl_areDeep_L1_k a0) r) (k := [.blk 0, .code (cAt Try.f38 [1, 1])]) (Nat.lt_succ_self m1) hK1)
            · rcases cond_cases hM with ⟨h73, hM⟩ | ⟨h73, hM⟩
              · obtain ⟨v74, h75, hM⟩ := bind_some hM
                rcases cond_cases hM with ⟨h76, hM⟩ | ⟨h76, hM⟩
                · have hE : some (Ctl.ret false) = some c1 := hM
                  have hE := Option.some.inj hE
                  subst hE
                  have hE : some false = some r := hK1
                  have hE := Option.some.inj hE
                  subst hE
                  exact pr R 9999 [.as 10 true, .ix (Thing.enc v10), .new 2, .call false [] (.o (.c (.v (.bool v12)))) [] [], .as 18 false, .as 21 false, .call false [] (.o (.c (.v (.bool v48)))) [] [], .as 38 false, .as 41 false, .as 51 false, .as 65 true, .call false [] (.o (.c (.v (.bool v74)))) [] [], .as 72 true] [] [] [] (And.intro h9 (And.intro (gi_map Thing.enc h11) (And.intro (impl_within_ok v10.Id 1 9999 v12 h13) (And.intro h14 (And.intro h15 (And.intro (impl_within_ok v10.Own 1 30000 v48 h49) (And.intro h50 (And.intro h51 (And.intro h66 (And.intro h73 (And.intro (impl_isBox_ok a0 v10.In v74 h75) (And.intro h76 True.intro)))))))))))) (by kernel_rfl)
                · have hE : some (Ctl.next (w64 (s1 + 1))) = some c1 := hM
                  have hE := Option.some.inj hE
                  subst hE
                  exact pc R 9999 [.as 10 true, .ix (Thing.enc v10), .new 2, .call false [] (.o (.c (.v (.bool v12)))) [] [], .as 18 false, .as 21 false, .call false [] (.o (.c (.v (.bool v48)))) [] [], .as 38 false, .as 41 false, .as 51 false, .as 65 true, .call false [] (.o (.c (.v (.bool v74)))) [] [], .as 72 false] [.keep [0, 7, 8, 9] []] (And.intro h9 (And.intro (gi_map Thing.enc h11) (And.intro (impl_within_ok v10.Id 1 9999 v12 h13) (And.intro h14 (And.intro h15 (And.intro (impl_within_ok v10.Own 1 30000 v48 h49) (And.intro h50 (And.intro h51 (And.intro h66 (And.intro h73 (And.intro (impl_isBox_ok a0 v10.In v74 h75) (And.intro h76 True.intro)))))))))))) (by kernel_rfl) (li (Sf := impl_areDeep_L1_S a0) (M := Mk (impl_areDeep_L1 a0) (impl_areDeep_L1_k a0) r) (k := [.blk 0, .code (cAt Try.f38 [1, 1])]) (Nat.lt_succ_self m1) hK1)
              · have hE : some (Ctl.next (w64 (s1 + 1))) = some c1 := hM
                have hE := Option.some.inj hE
                subst hE
                exact pc R 9999 [.as 10 true, .ix (Thing.enc v10), .new 2, .call false [] (.o (.c (.v (.bool v12)))) [] [], .as 18 false, .as 21 false, .call false [] (.o (.c (.v (.bool v48)))) [] [], .as 38 false, .as 41 false, .as 51 false, .as 65 false] [.keep [0, 7, 8, 9] []] (And.intro h9 (And.intro (gi_map Thing.enc h11) (And.intro (impl_within_ok v10.Id 1 9999 v12 h13) (And.intro h14 (And.intro h15 (And.intro (impl_within_ok v10.Own 1 30000 v48 h49) (And.intro h50 (And.intro h51 (And.intro h66 (And.intro h73 True.intro)))))))))) (by kernel_rfl) (li (Sf := impl_areDeep_L1_S a0) (M := Mk (impl_areDeep_L1 a0) (impl_areDeep_L1_k a0) r) (k := [.blk 0, .code (cAt Try.f38 [1, 1])]) (Nat.lt_succ_self m1) hK1)
  · have hE : some (Ctl.brk ()) = some c1 := hM
    have hE := Option.some.inj hE
    subst hE
    exact pc R 5 [.as 10 false] [.keep [0] []] (And.intro h9 True.intro) (by kernel_rfl) (K1 () hK1)

-- loop.example/g03014/impl.gross
def impl_gross_L1_b (self : (List Thing) → Int → Option Int) (a0 : (List Thing)) (a1 : Int) (s3 : Int) (s4 : Int) : Option (Ctl (Int × Int) Int Int) :=
  bif (decide (s4 < (a0.length : Int))) then
  (gi a0 s4).bind fun v7 =>
  (gi a0 a1).bind fun v9 =>
  bif (v7.In == v9.Id) then
  (self a0 s4).bind fun v12 =>
  some (.next (w64 (s3 + v12), w64 (s4 + 1)))
  else
  some (.next (s3, w64 (s4 + 1)))
  else
  some (.brk s3)
def impl_gross_L1 (self : (List Thing) → Int → Option Int) (a0 : (List Thing)) (a1 : Int) (s : Int × Int) : Option (Ctl (Int × Int) Int Int) := impl_gross_L1_b self a0 a1 s.1 s.2
def impl_gross_L1_s (a0 : (List Thing)) (a1 : Int) (s3 : Int) (s4 : Int) : St := ⟨[(0, .o (.c (.rs 6 (a0.map Thing.enc)))), (1, .o (.c (.v (.int .i64 a1)))), (5, .o (.c (.v (.int .i64 s3)))), (13, .o (.c (.rs 6 (a0.map Thing.enc)))), (14, .o (.c (.v (.int .i64 (a0.length : Int))))), (15, .o (.c (.v (.int .i64 s4))))], []⟩
def impl_gross_L1_S (a0 : (List Thing)) (a1 : Int) (s : Int × Int) : St := impl_gross_L1_s a0 a1 s.1 s.2
def impl_gross_L1_a (s5 : Int) : Option Int :=
  some s5
def impl_gross_L1_k (x : (Int) ⊕ (Int)) : Option Int := match x with
  | .inl t => impl_gross_L1_a t
  | .inr y => some y
def impl_gross_F (self : (List Thing) → Int → Option Int) (a0 : (List Thing)) (a1 : Int) : Option Int :=
  (gi a0 a1).bind fun v1 =>
  (loopM (impl_gross_L1 self a0 a1) big (v1.Own, 0)).bind (impl_gross_L1_k)
def impl_gross_n : Nat → (List Thing) → Int → Option Int
  | 0, _, _ => none
  | n + 1, a0, a1 => impl_gross_F (impl_gross_n n) a0 a1
def impl_gross (a0 : (List Thing)) (a1 : Int) : Option Int := impl_gross_n big a0 a1
theorem impl_gross_step (self : (List Thing) → Int → Option Int) (ih : ∀ (a0 : (List Thing)) (a1 : Int) (r : Int), self a0 a1 = some r →
    Con Try.prog 39 [.c (.rs 6 (a0.map Thing.enc)), .c (.v (.int .i64 a1))] [] (.o (.c (.v (.int .i64 r)))) [] [])
     (a0 : (List Thing)) (a1 : Int) (r : Int) (hM : impl_gross_F self a0 a1 = some r) :
    Con Try.prog 39 [.c (.rs 6 (a0.map Thing.enc)), .c (.v (.int .i64 a1))] [] (.o (.c (.v (.int .i64 r)))) [] [] := by
  unfold impl_gross_F at hM
  refine cn (N := 35) (pids := []) Try_mixed Try.func39 (by kernel_rfl) (by kernel_rfl) (by kernel_rfl) rfl fun ρ g w R => ?_
  obtain ⟨v1, h2, hM⟩ := bind_some hM
  have K1 : ∀ (s5 : Int), impl_gross_L1_a s5 = some r → Gr R [.code (cAt Try.f39 [1, 1, 1])] (⟨[(5, .o (.c (.v (.int .i64 s5))))], []⟩) := by
    intro s5 hM
    unfold impl_gross_L1_a at hM
    have hE : some s5 = some r := hM
    have hE := Option.some.inj hE
    subst hE
    exact pr R 9999 [] [] [] [] True.intro (by kernel_rfl)
  refine pc R 9999 [.ix (Thing.enc v1), .ln (a0.length)] [.keep [0, 1, 5, 13, 14, 15] []] (k' := [.code (.loop (cAt Try.f39 [1, 1, 0, 1, 0, 0])), .blk 0, .code (cAt Try.f39 [1, 1, 1])]) (S' := impl_gross_L1_S a0 a1 (v1.Own, 0)) (And.intro (gi_map Thing.enc h2) (And.intro (lenm Thing.enc a0) True.intro)) (by kernel_rfl) ?_
  refine lq (impl_gross_L1_S a0 a1) (body := impl_gross_L1 self a0 a1) (k := impl_gross_L1_k) hM fun m1 s c1 hM hK1 => ?_
  obtain ⟨s3, s4⟩ := s
  have hM : impl_gross_L1_b self a0 a1 s3 s4 = some c1 := hM
  unfold impl_gross_L1_b at hM
  rcases cond_cases hM with ⟨h6, hM⟩ | ⟨h6, hM⟩
  · obtain ⟨v7, h8, hM⟩ := bind_some hM
    obtain ⟨v9, h10, hM⟩ := bind_some hM
    rcases cond_cases hM with ⟨h11, hM⟩ | ⟨h11, hM⟩
    · obtain ⟨v12, h13, hM⟩ := bind_some hM
      have hE : some (Ctl.next (w64 (s3 + v12), w64 (s4 + 1))) = some c1 := hM
      have hE := Option.some.inj hE
      subst hE
      exact pc R 9999 [.as 16 true, .ix (Thing.enc v7), .new 0, .ix (Thing.enc v9), .as 27 true, .call false [] (.o (.c (.v (.int .i64 v12)))) [] []] [.keep [0, 1, 5, 13, 14, 15] []] (And.intro h6 (And.intro (gi_map Thing.enc h8) (And.intro (gi_map Thing.enc h10) (And.intro h11 (And.intro (ih a0 s4 v12 h13) True.intro))))) (by kernel_rfl) (li (Sf := impl_gross_L1_S a0 a1) (M := Mk (impl_gross_L1 self a0 a1) (impl_gross_L1_k) r) (k := [.blk 0, .code (cAt Try.f39 [1, 1, 1])]) (Nat.lt_succ_self m1) hK1)
    · have hE : some (Ctl.next (s3, w64 (s4 + 1))) = some c1 := hM
      have hE := Option.some.inj hE
      subst hE
      exact pc R 9999 [.as 16 true, .ix (Thing.enc v7), .new 0, .ix (Thing.enc v9), .as 27 false] [.keep [0, 1, 5, 13, 14, 15] []] (And.intro h6 (And.intro (gi_map Thing.enc h8) (And.intro (gi_map Thing.enc h10) (And.intro h11 True.intro)))) (by kernel_rfl) (li (Sf := impl_gross_L1_S a0 a1) (M := Mk (impl_gross_L1 self a0 a1) (impl_gross_L1_k) r) (k := [.blk 0, .code (cAt Try.f39 [1, 1, 1])]) (Nat.lt_succ_self m1) hK1)
  · have hE : some (Ctl.brk s3) = some c1 := hM
    have hE := Option.some.inj hE
    subst hE
    exact pc R 5 [.as 16 false] [.keep [5] []] (And.intro h6 True.intro) (by kernel_rfl) (K1 s3 hK1)
theorem impl_gross_nok : ∀ (n : Nat) (a0 : (List Thing)) (a1 : Int) (r : Int), impl_gross_n n a0 a1 = some r →
    Con Try.prog 39 [.c (.rs 6 (a0.map Thing.enc)), .c (.v (.int .i64 a1))] [] (.o (.c (.v (.int .i64 r)))) [] []
  | 0, _, _, _, h => by cases h
  | n + 1, a0, a1, r, h => impl_gross_step (impl_gross_n n) (impl_gross_nok n) a0 a1 r h
theorem impl_gross_ok (a0 : (List Thing)) (a1 : Int) (r : Int) (h : impl_gross a0 a1 = some r) :
    Con Try.prog 39 [.c (.rs 6 (a0.map Thing.enc)), .c (.v (.int .i64 a1))] [] (.o (.c (.v (.int .i64 r)))) [] [] := impl_gross_nok big a0 a1 r h

-- loop.example/g03014/impl.AreThings
def impl_AreThings_L1_b (a0 : (List Thing)) (s5 : Int) : Option (Ctl Int Unit Bool) :=
  bif (decide (s5 < (a0.length : Int))) then
  (gi a0 s5).bind fun v7 =>
  bif v7.Box then
  (impl_gross a0 s5).bind fun v10 =>
  bif (decide ((w64 (v10 - v7.Own)) > v7.Room)) then
  some (.ret false)
  else
  some (.next (w64 (s5 + 1)))
  else
  some (.next (w64 (s5 + 1)))
  else
  some (.brk ())
def impl_AreThings_L1 (a0 : (List Thing)) (s : Int) : Option (Ctl Int Unit Bool) := impl_AreThings_L1_b a0 s
def impl_AreThings_L1_s (a0 : (List Thing)) (s5 : Int) : St := ⟨[(0, .o (.c (.rs 6 (a0.map Thing.enc)))), (13, .o (.c (.rs 6 (a0.map Thing.enc)))), (14, .o (.c (.v (.int .i64 (a0.length : Int))))), (15, .o (.c (.v (.int .i64 s5))))], []⟩
def impl_AreThings_L1_S (a0 : (List Thing)) (s : Int) : St := impl_AreThings_L1_s a0 s
def impl_AreThings_L1_a : Option Bool :=
  some true
def impl_AreThings_L1_k (x : (Unit) ⊕ (Bool)) : Option Bool := match x with
  | .inl t => impl_AreThings_L1_a
  | .inr y => some y
def impl_AreThings (a0 : (List Thing)) : Option Bool :=
  bif (decide ((a0.length : Int) > 40)) then
  some false
  else
  (impl_areDeep a0).bind fun v2 =>
  bif (!v2) then
  some false
  else
  (loopM (impl_AreThings_L1 a0) big 0).bind (impl_AreThings_L1_k)
theorem impl_AreThings_ok (a0 : (List Thing)) (r : Bool) (hM : impl_AreThings a0 = some r) :
    Con Try.prog 12 [.c (.rs 6 (a0.map Thing.enc))] [] (.o (.c (.v (.bool r)))) [] [] := by
  unfold impl_AreThings at hM
  refine cn (N := 34) (pids := []) Try_mixed Try.func12 (by kernel_rfl) (by kernel_rfl) (by kernel_rfl) rfl fun ρ g w R => ?_
  rcases cond_cases hM with ⟨h1, hM⟩ | ⟨h1, hM⟩
  · have hE : some false = some r := hM
    have hE := Option.some.inj hE
    subst hE
    exact pr R 9999 [.ln (a0.length), .as 8 true] [] [] [] (And.intro (lenm Thing.enc a0) (And.intro h1 True.intro)) (by kernel_rfl)
  · obtain ⟨v2, h3, hM⟩ := bind_some hM
    rcases cond_cases hM with ⟨h4, hM⟩ | ⟨h4, hM⟩
    · have hE : some false = some r := hM
      have hE := Option.some.inj hE
      subst hE
      exact pr R 9999 [.ln (a0.length), .as 8 false, .call false [] (.o (.c (.v (.bool v2)))) [] [], .as 12 true] [] [] [] (And.intro (lenm Thing.enc a0) (And.intro h1 (And.intro (impl_areDeep_ok a0 v2 h3) (And.intro h4 True.intro)))) (by kernel_rfl)
    · have K1 : ∀ (_ : Unit), impl_AreThings_L1_a = some r → Gr R [.code (cAt Try.f12 [1, 1, 1])] (⟨[], []⟩) := by
        intro _ hM
        unfold impl_AreThings_L1_a at hM
        have hE : some true = some r := hM
        have hE := Option.some.inj hE
        subst hE
        exact pr R 9999 [] [] [] [] True.intro (by kernel_rfl)
      refine pc R 9999 [.ln (a0.length), .as 8 false, .call false [] (.o (.c (.v (.bool v2)))) [] [], .as 12 false, .ln (a0.length)] [.keep [0, 13, 14, 15] []] (k' := [.code (.loop (cAt Try.f12 [1, 1, 0, 1, 0, 0])), .blk 0, .code (cAt Try.f12 [1, 1, 1])]) (S' := impl_AreThings_L1_S a0 0) (And.intro (lenm Thing.enc a0) (And.intro h1 (And.intro (impl_areDeep_ok a0 v2 h3) (And.intro h4 (And.intro (lenm Thing.enc a0) True.intro))))) (by kernel_rfl) ?_
      refine lq (impl_AreThings_L1_S a0) (body := impl_AreThings_L1 a0) (k := impl_AreThings_L1_k) hM fun m1 s c1 hM hK1 => ?_
      obtain ⟨s5, hs⟩ : ∃ z, z = s := ⟨_, rfl⟩
      subst hs
      have hM : impl_AreThings_L1_b a0 s5 = some c1 := hM
      unfold impl_AreThings_L1_b at hM
      rcases cond_cases hM with ⟨h6, hM⟩ | ⟨h6, hM⟩
      · obtain ⟨v7, h8, hM⟩ := bind_some hM
        rcases cond_cases hM with ⟨h9, hM⟩ | ⟨h9, hM⟩
        · obtain ⟨v10, h11, hM⟩ := bind_some hM
          rcases cond_cases hM with ⟨h12, hM⟩ | ⟨h12, hM⟩
          · have hE : some (Ctl.ret false) = some c1 := hM
            have hE := Option.some.inj hE
            subst hE
            have hE : some false = some r := hK1
            have hE := Option.some.inj hE
            subst hE
            exact pr R 9999 [.as 16 true, .ix (Thing.enc v7), .new 0, .as 22 true, .call false [] (.o (.c (.v (.int .i64 v10)))) [] [], .as 32 true] [] [] [] (And.intro h6 (And.intro (gi_map Thing.enc h8) (And.intro h9 (And.intro (impl_gross_ok a0 s5 v10 h11) (And.intro h12 True.intro))))) (by kernel_rfl)
          · have hE : some (Ctl.next (w64 (s5 + 1))) = some c1 := hM
            have hE := Option.some.inj hE
            subst hE
            exact pc R 9999 [.as 16 true, .ix (Thing.enc v7), .new 0, .as 22 true, .call false [] (.o (.c (.v (.int .i64 v10)))) [] [], .as 32 false] [.keep [0, 13, 14, 15] []] (And.intro h6 (And.intro (gi_map Thing.enc h8) (And.intro h9 (And.intro (impl_gross_ok a0 s5 v10 h11) (And.intro h12 True.intro))))) (by kernel_rfl) (li (Sf := impl_AreThings_L1_S a0) (M := Mk (impl_AreThings_L1 a0) (impl_AreThings_L1_k) r) (k := [.blk 0, .code (cAt Try.f12 [1, 1, 1])]) (Nat.lt_succ_self m1) hK1)
        · have hE : some (Ctl.next (w64 (s5 + 1))) = some c1 := hM
          have hE := Option.some.inj hE
          subst hE
          exact pc R 9999 [.as 16 true, .ix (Thing.enc v7), .new 0, .as 22 false] [.keep [0, 13, 14, 15] []] (And.intro h6 (And.intro (gi_map Thing.enc h8) (And.intro h9 True.intro))) (by kernel_rfl) (li (Sf := impl_AreThings_L1_S a0) (M := Mk (impl_AreThings_L1 a0) (impl_AreThings_L1_k) r) (k := [.blk 0, .code (cAt Try.f12 [1, 1, 1])]) (Nat.lt_succ_self m1) hK1)
      · have hE : some (Ctl.brk ()) = some c1 := hM
        have hE := Option.some.inj hE
        subst hE
        exact pc R 5 [.as 16 false] [.keep [] []] (And.intro h6 True.intro) (by kernel_rfl) (K1 () hK1)

-- internal/reflectlite.Swapper$5
noncomputable def sw_ie3 : TypeInfo := (Try.prog.info? 3).get (by kernel_rfl)
theorem sw_hi3 : Try.prog.info? 3 = some sw_ie3 := by kernel_rfl
theorem sw_F3 (s : Value) : (fun s => .func (.func 70) #[] #[s, .pointer (some ⟨0, 3, none⟩)] : Value → Value) s = .func (.func 70) #[] #[s, typeHandle Try.prog 3] := by kernel_rfl
theorem sw_ok3 : SwOk Try.prog (fun s => .func (.func 70) #[] #[s, .pointer (some ⟨0, 3, none⟩)]) 1 :=
  ⟨70, 3, sw_ie3, true, false, sw_F3, fun args W => run_callFunc_extern Try.func70 (by kernel_rfl) (by kernel_rfl) (by kernel_rfl) (e := Extern.ReflectliteSwapper.swap true) (by kernel_rfl) args W, sw_hi3, by kernel_rfl, by kernel_rfl, fun _ => rfl⟩

-- loop.example/g03014/impl.isThing
def impl_isThing (a0 : (List Thing)) (a1 : Int) : Option Bool :=
  (impl_AreThings a0).bind fun v1 =>
  bif v1 then
  (impl_FindThing a0 a1).bind fun v4 =>
  some (decide (v4 ≥ 0))
  else
  some false
theorem impl_isThing_ok (a0 : (List Thing)) (a1 : Int) (r : Bool) (hM : impl_isThing a0 a1 = some r) :
    Con Try.prog 52 [.c (.rs 6 (a0.map Thing.enc)), .c (.v (.int .i64 a1))] [] (.o (.c (.v (.bool r)))) [] [] := by
  unfold impl_isThing at hM
  refine cn (N := 13) (pids := []) Try_mixed Try.func52 (by kernel_rfl) (by kernel_rfl) (by kernel_rfl) rfl fun ρ g w R => ?_
  obtain ⟨v1, h2, hM⟩ := bind_some hM
  rcases cond_cases hM with ⟨h3, hM⟩ | ⟨h3, hM⟩
  · obtain ⟨v4, h5, hM⟩ := bind_some hM
    have hE : some (decide (v4 ≥ 0)) = some r := hM
    have hE := Option.some.inj hE
    subst hE
    exact pr R 9999 [.call false [] (.o (.c (.v (.bool v1)))) [] [], .as 7 true, .call false [] (.o (.c (.v (.int .i64 v4)))) [] []] [] [] [] (And.intro (impl_AreThings_ok a0 v1 h2) (And.intro h3 (And.intro (impl_FindThing_ok a0 a1 v4 h5) True.intro))) (by kernel_rfl)
  · have hE : some false = some r := hM
    have hE := Option.some.inj hE
    subst hE
    exact pr R 9999 [.call false [] (.o (.c (.v (.bool v1)))) [] [], .as 7 false] [] [] [] (And.intro (impl_AreThings_ok a0 v1 h2) (And.intro h3 True.intro)) (by kernel_rfl)

-- loop.example/g03014/impl.GrossOf
def impl_GrossOf (a0 : (List Thing)) (a1 : Int) : Option Int :=
  (impl_isThing a0 a1).bind fun v1 =>
  bif (!v1) then
  some 0
  else
  (impl_FindThing a0 a1).bind fun v4 =>
  (impl_gross a0 v4).bind fun v6 =>
  some v6
theorem impl_GrossOf_ok (a0 : (List Thing)) (a1 : Int) (r : Int) (hM : impl_GrossOf a0 a1 = some r) :
    Con Try.prog 33 [.c (.rs 6 (a0.map Thing.enc)), .c (.v (.int .i64 a1))] [] (.o (.c (.v (.int .i64 r)))) [] [] := by
  unfold impl_GrossOf at hM
  refine cn (N := 14) (pids := []) Try_mixed Try.func33 (by kernel_rfl) (by kernel_rfl) (by kernel_rfl) rfl fun ρ g w R => ?_
  obtain ⟨v1, h2, hM⟩ := bind_some hM
  rcases cond_cases hM with ⟨h3, hM⟩ | ⟨h3, hM⟩
  · have hE : some 0 = some r := hM
    have hE := Option.some.inj hE
    subst hE
    exact pr R 9999 [.call false [] (.o (.c (.v (.bool v1)))) [] [], .as 8 true] [] [] [] (And.intro (impl_isThing_ok a0 a1 v1 h2) (And.intro h3 True.intro)) (by kernel_rfl)
  · obtain ⟨v4, h5, hM⟩ := bind_some hM
    obtain ⟨v6, h7, hM⟩ := bind_some hM
    have hE : some v6 = some r := hM
    have hE := Option.some.inj hE
    subst hE
    exact pr R 9999 [.call false [] (.o (.c (.v (.bool v1)))) [] [], .as 8 false, .call false [] (.o (.c (.v (.int .i64 v4)))) [] [], .call false [] (.o (.c (.v (.int .i64 v6)))) [] []] [] [] [] (And.intro (impl_isThing_ok a0 a1 v1 h2) (And.intro h3 (And.intro (impl_FindThing_ok a0 a1 v4 h5) (And.intro (impl_gross_ok a0 v4 v6 h7) True.intro)))) (by kernel_rfl)

-- loop.example/g03014/impl.compareInts
def impl_compareInts (a0 : Int) (a1 : Int) : Option Int :=
  bif (decide (a0 < a1)) then
  some (-1)
  else
  bif (decide (a0 > a1)) then
  some 1
  else
  some 0
theorem impl_compareInts_ok (a0 : Int) (a1 : Int) (r : Int) (hM : impl_compareInts a0 a1 = some r) :
    Con Try.prog 32 [.c (.v (.int .i64 a0)), .c (.v (.int .i64 a1))] [] (.o (.c (.v (.int .i64 r)))) [] [] := by
  unfold impl_compareInts at hM
  refine cn (N := 13) (pids := []) Try_mixed Try.func32 (by kernel_rfl) (by kernel_rfl) (by kernel_rfl) rfl fun ρ g w R => ?_
  rcases cond_cases hM with ⟨h1, hM⟩ | ⟨h1, hM⟩
  · have hE : some (-1) = some r := hM
    have hE := Option.some.inj hE
    subst hE
    exact pr R 9999 [.as 5 true] [] [] [] (And.intro h1 True.intro) (by kernel_rfl)
  · rcases cond_cases hM with ⟨h2, hM⟩ | ⟨h2, hM⟩
    · have hE : some 1 = some r := hM
      have hE := Option.some.inj hE
      subst hE
      exact pr R 9999 [.as 5 false, .as 9 true] [] [] [] (And.intro h1 (And.intro h2 True.intro)) (by kernel_rfl)
    · have hE : some 0 = some r := hM
      have hE := Option.some.inj hE
      subst hE
      exact pr R 9999 [.as 5 false, .as 9 false] [] [] [] (And.intro h1 (And.intro h2 True.intro)) (by kernel_rfl)

-- loop.example/g03014/impl.first
def impl_first_L1_b (a0 : (List Int)) (s1 : Int) : Option (Ctl Int Unit Int) :=
  bif (decide (s1 < (a0.length : Int))) then
  (gi a0 s1).bind fun v3 =>
  bif (v3 != 0) then
  some (.ret v3)
  else
  some (.next (w64 (s1 + 1)))
  else
  some (.brk ())
def impl_first_L1 (a0 : (List Int)) (s : Int) : Option (Ctl Int Unit Int) := impl_first_L1_b a0 s
def impl_first_L1_s (a0 : (List Int)) (s1 : Int) : St := ⟨[(5, .o (.c (.rs 1 (a0.map encI)))), (6, .o (.c (.v (.int .i64 (a0.length : Int))))), (7, .o (.c (.v (.int .i64 s1))))], []⟩
def impl_first_L1_S (a0 : (List Int)) (s : Int) : St := impl_first_L1_s a0 s
def impl_first_L1_a : Option Int :=
  some 0
def impl_first_L1_k (x : (Unit) ⊕ (Int)) : Option Int := match x with
  | .inl t => impl_first_L1_a
  | .inr y => some y
def impl_first (a0 : (List Int)) : Option Int :=
  (loopM (impl_first_L1 a0) big 0).bind (impl_first_L1_k)
theorem impl_first_ok (a0 : (List Int)) (r : Int) (hM : impl_first a0 = some r) :
    Con Try.prog 31 [.c (.rs 1 (a0.map encI))] [] (.o (.c (.v (.int .i64 r)))) [] [] := by
  unfold impl_first at hM
  refine cn (N := 15) (pids := []) Try_mixed Try.func31 (by kernel_rfl) (by kernel_rfl) (by kernel_rfl) rfl fun ρ g w R => ?_
  have K1 : ∀ (_ : Unit), impl_first_L1_a = some r → Gr R [.code (cAt Try.f31 [1, 1])] (⟨[], []⟩) := by
    intro _ hM
    unfold impl_first_L1_a at hM
    have hE : some 0 = some r := hM
    have hE := Option.some.inj hE
    subst hE
    exact pr R 9999 [] [] [] [] True.intro (by kernel_rfl)
  refine pc R 9999 [.ln (a0.length)] [.keep [5, 6, 7] []] (k' := [.code (.loop (cAt Try.f31 [1, 0, 1, 0, 0])), .blk 0, .code (cAt Try.f31 [1, 1])]) (S' := impl_first_L1_S a0 0) (And.intro (lenm encI a0) True.intro) (by kernel_rfl) ?_
  refine lq (impl_first_L1_S a0) (body := impl_first_L1 a0) (k := impl_first_L1_k) hM fun m1 s c1 hM hK1 => ?_
  obtain ⟨s1, hs⟩ : ∃ z, z = s := ⟨_, rfl⟩
  subst hs
  have hM : impl_first_L1_b a0 s1 = some c1 := hM
  unfold impl_first_L1_b at hM
  rcases cond_cases hM with ⟨h2, hM⟩ | ⟨h2, hM⟩
  · obtain ⟨v3, h4, hM⟩ := bind_some hM
    rcases cond_cases hM with ⟨h5, hM⟩ | ⟨h5, hM⟩
    · have hE : some (Ctl.ret v3) = some c1 := hM
      have hE := Option.some.inj hE
      subst hE
      have hE : some v3 = some r := hK1
      have hE := Option.some.inj hE
      subst hE
      exact pr R 9999 [.as 8 true, .ix (encI v3), .as 12 true] [] [] [] (And.intro h2 (And.intro (gi_map encI h4) (And.intro h5 True.intro))) (by kernel_rfl)
    · have hE : some (Ctl.next (w64 (s1 + 1))) = some c1 := hM
      have hE := Option.some.inj hE
      subst hE
      exact pc R 9999 [.as 8 true, .ix (encI v3), .as 12 false] [.keep [5, 6, 7] []] (And.intro h2 (And.intro (gi_map encI h4) (And.intro h5 True.intro))) (by kernel_rfl) (li (Sf := impl_first_L1_S a0) (M := Mk (impl_first_L1 a0) (impl_first_L1_k) r) (k := [.blk 0, .code (cAt Try.f31 [1, 1])]) (Nat.lt_succ_self m1) hK1)
  · have hE : some (Ctl.brk ()) = some c1 := hM
    have hE := Option.some.inj hE
    subst hE
    exact pc R 5 [.as 8 false] [.keep [] []] (And.intro h2 True.intro) (by kernel_rfl) (K1 () hK1)

-- loop.example/g03014/impl.PackAll$1
def impl_PackAll_c1 (a0 : Int) (a1 : Int) (a2 : (List Thing)) (a3 : (List Int)) : Option Bool :=
  (gi a3 a1).bind fun v1 =>
  (impl_GrossOf a2 v1).bind fun v3 =>
  (gi a3 a0).bind fun v5 =>
  (impl_GrossOf a2 v5).bind fun v7 =>
  (impl_compareInts v3 v7).bind fun v9 =>
  (gi a3 a0).bind fun v11 =>
  (gi a3 a1).bind fun v13 =>
  (impl_compareInts v11 v13).bind fun v15 =>
  (impl_first ([v9, v15] : List Int)).bind fun v17 =>
  some (decide (v17 < 0))
theorem impl_PackAll_c1_ok (a0 : Int) (a1 : Int) (a2 : (List Thing)) (a3 : (List Int)) (r : Bool) (hM : impl_PackAll_c1 a0 a1 a2 a3 = some r) :
    Con Try.prog 30 [.c (.v (.int .i64 a0)), .c (.v (.int .i64 a1)), .c (.ptr 902 0), .c (.ptr 903 0)] [(902, .box 24 [.rs 6 (a2.map Thing.enc)]), (903, .box 25 [.sl 923]), (923, .row 3 1 (a3.map encI))] (.o (.c (.v (.bool r)))) [(902, .box 24 [.rs 6 (a2.map Thing.enc)]), (903, .box 25 [.sl 923]), (923, .row 3 1 (a3.map encI))] [] := by
  unfold impl_PackAll_c1 at hM
  refine cn (N := 32) (pids := [902, 903, 923]) Try_mixed Try.func30 (by kernel_rfl) (by kernel_rfl) (by kernel_rfl) rfl fun ρ g w R => ?_
  obtain ⟨v1, h2, hM⟩ := bind_some hM
  obtain ⟨v3, h4, hM⟩ := bind_some hM
  obtain ⟨v5, h6, hM⟩ := bind_some hM
  obtain ⟨v7, h8, hM⟩ := bind_some hM
  obtain ⟨v9, h10, hM⟩ := bind_some hM
  obtain ⟨v11, h12, hM⟩ := bind_some hM
  obtain ⟨v13, h14, hM⟩ := bind_some hM
  obtain ⟨v15, h16, hM⟩ := bind_some hM
  obtain ⟨v17, h18, hM⟩ := bind_some hM
  have hE : some (decide (v17 < 0)) = some r := hM
  have hE := Option.some.inj hE
  subst hE
  exact pr R 9999 [.ix (encI v1), .call false [] (.o (.c (.v (.int .i64 v3)))) [] [], .ix (encI v5), .call false [] (.o (.c (.v (.int .i64 v7)))) [] [], .call false [] (.o (.c (.v (.int .i64 v9)))) [] [], .ix (encI v11), .ix (encI v13), .call false [] (.o (.c (.v (.int .i64 v15)))) [] [], .new 0, .call false [] (.o (.c (.v (.int .i64 v17)))) [] []] [] [902, 903, 923] [] (And.intro (gi_lt encI h2) (And.intro ((gi_map encI h2).2) (And.intro (impl_GrossOf_ok a2 v1 v3 h4) (And.intro (gi_lt encI h6) (And.intro ((gi_map encI h6).2) (And.intro (impl_GrossOf_ok a2 v5 v7 h8) (And.intro (impl_compareInts_ok v3 v7 v9 h10) (And.intro (gi_lt encI h12) (And.intro ((gi_map encI h12).2) (And.intro (gi_lt encI h14) (And.intro ((gi_map encI h14).2) (And.intro (impl_compareInts_ok v11 v13 v15 h16) (And.intro (impl_first_ok ([v9, v15] : List Int) v17 h18) True.intro))))))))))))) (by kernel_rfl)

-- sort.insertionSort_func
def sort_insertionSort_func_at0ls30_L2_b (a0 : ((List Thing) × (List Int))) (a1 : Int) (s5 : (List Int)) (s6 : Int) : Option (Ctl ((List Int) × Int) (List Int) (List Int)) :=
  bif (decide (s6 > a1)) then
  (impl_PackAll_c1 s6 (w64 (s6 - 1)) a0.1 s5).bind fun v9 =>
  bif v9 then
  (gi s5 s6).bind fun v12 =>
  (gi s5 (w64 (s6 - 1))).bind fun v14 =>
  some (.next (List.set (List.set s5 (Int.toNat s6) v14) (Int.toNat (w64 (s6 - 1))) v12, w64 (s6 - 1)))
  else
  some (.brk s5)
  else
  some (.brk s5)
def sort_insertionSort_func_at0ls30_L2 (a0 : ((List Thing) × (List Int))) (a1 : Int) (s : (List Int) × Int) : Option (Ctl ((List Int) × Int) (List Int) (List Int)) := sort_insertionSort_func_at0ls30_L2_b a0 a1 s.1 s.2
def sort_insertionSort_func_at0ls30_L2_s (a0 : ((List Thing) × (List Int))) (a1 : Int) (a2 : Int) (s2 : Int) (s5 : (List Int)) (s6 : Int) : St := ⟨[(0, .o (.agg [.fn 30 [900, 920], .of (fun s => .func (.func 70) #[] #[s, .pointer (some ⟨0, 3, none⟩)]) 940])), (1, .o (.c (.v (.int .i64 a1)))), (2, .o (.c (.v (.int .i64 a2)))), (3, .o (.c (.ptr 0 0))), (6, .o (.c (.v (.int .i64 s2)))), (7, .o (.c (.v (.int .i64 s6))))], [(900, .box 24 [.rs 6 (a0.1.map Thing.enc)]), (920, .box 25 [.sl 940]), (940, .row 3 1 (s5.map encI)), (0, .box 75 [.fn 30 [900, 920], .of (fun s => .func (.func 70) #[] #[s, .pointer (some ⟨0, 3, none⟩)]) 940])]⟩
def sort_insertionSort_func_at0ls30_L2_S (a0 : ((List Thing) × (List Int))) (a1 : Int) (a2 : Int) (s2 : Int) (s : (List Int) × Int) : St := sort_insertionSort_func_at0ls30_L2_s a0 a1 a2 s2 s.1 s.2
def sort_insertionSort_func_at0ls30_L2_a (s2 : Int) (s7 : (List Int)) : Option (Ctl ((List Int) × Int) (List Int) (List Int)) :=
  some (.next (s7, w64 (s2 + 1)))
def sort_insertionSort_func_at0ls30_L2_k (s2 : Int) (x : ((List Int)) ⊕ ((List Int))) : Option (Ctl ((List Int) × Int) (List Int) (List Int)) := match x with
  | .inl t => sort_insertionSort_func_at0ls30_L2_a s2 t
  | .inr y => some (.ret y)
def sort_insertionSort_func_at0ls30_L1_b (a0 : ((List Thing) × (List Int))) (a1 : Int) (a2 : Int) (s1 : (List Int)) (s2 : Int) : Option (Ctl ((List Int) × Int) (List Int) (List Int)) :=
  bif (decide (s2 < a2)) then
  (loopM (sort_insertionSort_func_at0ls30_L2 a0 a1) big (s1, s2)).bind (sort_insertionSort_func_at0ls30_L2_k s2)
  else
  some (.brk s1)
def sort_insertionSort_func_at0ls30_L1 (a0 : ((List Thing) × (List Int))) (a1 : Int) (a2 : Int) (s : (List Int) × Int) : Option (Ctl ((List Int) × Int) (List Int) (List Int)) := sort_insertionSort_func_at0ls30_L1_b a0 a1 a2 s.1 s.2
def sort_insertionSort_func_at0ls30_L1_s (a0 : ((List Thing) × (List Int))) (a1 : Int) (a2 : Int) (s1 : (List Int)) (s2 : Int) : St := ⟨[(0, .o (.agg [.fn 30 [900, 920], .of (fun s => .func (.func 70) #[] #[s, .pointer (some ⟨0, 3, none⟩)]) 940])), (1, .o (.c (.v (.int .i64 a1)))), (2, .o (.c (.v (.int .i64 a2)))), (3, .o (.c (.ptr 0 0))), (6, .o (.c (.v (.int .i64 s2))))], [(900, .box 24 [.rs 6 (a0.1.map Thing.enc)]), (920, .box 25 [.sl 940]), (940, .row 3 1 (s1.map encI)), (0, .box 75 [.fn 30 [900, 920], .of (fun s => .func (.func 70) #[] #[s, .pointer (some ⟨0, 3, none⟩)]) 940])]⟩
def sort_insertionSort_func_at0ls30_L1_S (a0 : ((List Thing) × (List Int))) (a1 : Int) (a2 : Int) (s : (List Int) × Int) : St := sort_insertionSort_func_at0ls30_L1_s a0 a1 a2 s.1 s.2
def sort_insertionSort_func_at0ls30_L1_a (s3 : (List Int)) : Option (List Int) :=
  some s3
def sort_insertionSort_func_at0ls30_L1_k (x : ((List Int)) ⊕ ((List Int))) : Option (List Int) := match x with
  | .inl t => sort_insertionSort_func_at0ls30_L1_a t
  | .inr y => some y
def sort_insertionSort_func_at0ls30 (a0 : ((List Thing) × (List Int))) (a1 : Int) (a2 : Int) : Option (List Int) :=
  (loopM (sort_insertionSort_func_at0ls30_L1 a0 a1 a2) big (a0.2, w64 (a1 + 1))).bind (sort_insertionSort_func_at0ls30_L1_k)
theorem sort_insertionSort_func_at0ls30_ok (a0 : ((List Thing) × (List Int))) (a1 : Int) (a2 : Int) (r : (List Int)) (hM : sort_insertionSort_func_at0ls30 a0 a1 a2 = some r) :
    Con Try.prog 75 [.agg [.fn 30 [900, 920], .of (fun s => .func (.func 70) #[] #[s, .pointer (some ⟨0, 3, none⟩)]) 940], .c (.v (.int .i64 a1)), .c (.v (.int .i64 a2))] [(900, .box 24 [.rs 6 (a0.1.map Thing.enc)]), (920, .box 25 [.sl 940]), (940, .row 3 1 (a0.2.map encI))] (.tup []) [(900, .box 24 [.rs 6 (a0.1.map Thing.enc)]), (920, .box 25 [.sl 940]), (940, .row 3 1 (r.map encI))] [] := by
  unfold sort_insertionSort_func_at0ls30 at hM
  refine cn (N := 35) (pids := [900, 920, 940]) Try_mixed Try.func75 (by kernel_rfl) (by kernel_rfl) (by kernel_rfl) rfl fun ρ g w R => ?_
  have K1 : ∀ (s3 : (List Int)), sort_insertionSort_func_at0ls30_L1_a s3 = some r → Gr R [] (⟨[(0, .o (.agg [.fn 30 [900, 920], .of (fun s => .func (.func 70) #[] #[s, .pointer (some ⟨0, 3, none⟩)]) 940]))], [(900, .box 24 [.rs 6 (a0.1.map Thing.enc)]), (920, .box 25 [.sl 940]), (940, .row 3 1 (s3.map encI))]⟩) := by
    intro s3 hM
    unfold sort_insertionSort_func_at0ls30_L1_a at hM
    have hE : some s3 = some r := hM
    have hE := Option.some.inj hE
    subst hE
    exact pr R 9999 [] [] [900, 920, 940] [] True.intro (by kernel_rfl)
  refine pc R 9999 [.new 0] [.keep [0, 1, 2, 3, 6] [900, 920, 940, 0]] (k' := [.code (.loop (cAt Try.f75 [1, 1, 0, 0])), .blk 0]) (S' := sort_insertionSort_func_at0ls30_L1_S a0 a1 a2 (a0.2, w64 (a1 + 1))) True.intro (by kernel_rfl) ?_
  refine lq (sort_insertionSort_func_at0ls30_L1_S a0 a1 a2) (body := sort_insertionSort_func_at0ls30_L1 a0 a1 a2) (k := sort_insertionSort_func_at0ls30_L1_k) hM fun m1 s c1 hM hK1 => ?_
  obtain ⟨s1, s2⟩ := s
  have hM : sort_insertionSort_func_at0ls30_L1_b a0 a1 a2 s1 s2 = some c1 := hM
  unfold sort_insertionSort_func_at0ls30_L1_b at hM
  rcases cond_cases hM with ⟨h4, hM⟩ | ⟨h4, hM⟩
  · have K2 : ∀ (s7 : (List Int)), sort_insertionSort_func_at0ls30_L2_a s2 s7 = some c1 → Gr R [.blk 1, .code (cAt Try.f75 [1, 1, 0, 0, 1, 1]), .inv (Jr R (sort_insertionSort_func_at0ls30_L1_S a0 a1 a2) (Mk (sort_insertionSort_func_at0ls30_L1 a0 a1 a2) (sort_insertionSort_func_at0ls30_L1_k) r) (m1 + 1)), .blk 0] (⟨[(0, .o (.agg [.fn 30 [900, 920], .of (fun s => .func (.func 70) #[] #[s, .pointer (some ⟨0, 3, none⟩)]) 940])), (1, .o (.c (.v (.int .i64 a1)))), (2, .o (.c (.v (.int .i64 a2)))), (3, .o (.c (.ptr 0 0))), (6, .o (.c (.v (.int .i64 s2))))], [(900, .box 24 [.rs 6 (a0.1.map Thing.enc)]), (920, .box 25 [.sl 940]), (940, .row 3 1 (s7.map encI)), (0, .box 75 [.fn 30 [900, 920], .of (fun s => .func (.func 70) #[] #[s, .pointer (some ⟨0, 3, none⟩)]) 940])]⟩) := by
      intro s7 hM
      unfold sort_insertionSort_func_at0ls30_L2_a at hM
      have hE : some (Ctl.next (s7, w64 (s2 + 1))) = some c1 := hM
      have hE := Option.some.inj hE
      subst hE
      exact pc R 9999 [] [.keep [0, 1, 2, 3, 6] [900, 920, 940, 0]] True.intro (by kernel_rfl) (li (Sf := sort_insertionSort_func_at0ls30_L1_S a0 a1 a2) (M := Mk (sort_insertionSort_func_at0ls30_L1 a0 a1 a2) (sort_insertionSort_func_at0ls30_L1_k) r) (k := [.blk 0]) (Nat.lt_succ_self m1) hK1)
    refine pc R 9999 [.as 12 true] [.keep [0, 1, 2, 3, 6, 7] [900, 920, 940, 0]] (k' := [.code (.loop (cAt Try.f75 [1, 1, 0, 0, 1, 0, 0, 1, 0, 0])), .blk 2, .blk 1, .code (cAt Try.f75 [1, 1, 0, 0, 1, 1]), .inv (Jr R (sort_insertionSort_func_at0ls30_L1_S a0 a1 a2) (Mk (sort_insertionSort_func_at0ls30_L1 a0 a1 a2) (sort_insertionSort_func_at0ls30_L1_k) r) (m1 + 1)), .blk 0]) (S' := sort_insertionSort_func_at0ls30_L2_S a0 a1 a2 s2 (s1, s2)) (And.intro h4 True.intro) (by kernel_rfl) ?_
    refine lq (sort_insertionSort_func_at0ls30_L2_S a0 a1 a2 s2) (body := sort_insertionSort_func_at0ls30_L2 a0 a1) (k := sort_insertionSort_func_at0ls30_L2_k s2) hM fun m2 s c2 hM hK2 => ?_
    obtain ⟨s5, s6⟩ := s
    have hM : sort_insertionSort_func_at0ls30_L2_b a0 a1 s5 s6 = some c2 := hM
    unfold sort_insertionSort_func_at0ls30_L2_b at hM
    rcases cond_cases hM with ⟨h8, hM⟩ | ⟨h8, hM⟩
    · obtain ⟨v9, h10, hM⟩ := bind_some hM
      rcases cond_cases hM with ⟨h11, hM⟩ | ⟨h11, hM⟩
      · obtain ⟨v12, h13, hM⟩ := bind_some hM
        obtain ⟨v14, h15, hM⟩ := bind_some hM
        have hE : some (Ctl.next (List.set (List.set s5 (Int.toNat s6) v14) (Int.toNat (w64 (s6 - 1))) v12, w64 (s6 - 1))) = some c2 := hM
        have hE := Option.some.inj hE
        subst hE
        exact pc R 9999 [.as 19 true, .ad (.keep [0, 1, 2, 3, 6, 7, 16, 17, 18, 19, 20, 21, 22, 23, 24] [900, 920, 940, 0]), .call true [900, 920, 940] (.o (.c (.v (.bool v9)))) [(900, .box 24 [.rs 6 (a0.1.map Thing.enc)]), (920, .box 25 [.sl 940]), (940, .row 3 1 (s5.map encI))] [], .as 26 true, .ix (encI v12), .ix (encI v14), .nm ((List.set (List.set s5 (Int.toNat s6) v14) (Int.toNat (w64 (s6 - 1))) v12).map encI)] [.keep [0, 1, 2, 3, 6, 7] [900, 920, 940, 0]] (And.intro h8 (And.intro (And.intro (con_sw 923 940 (con_sw 903 920 (con_sw 902 900 (impl_PackAll_c1_ok s6 (w64 (s6 - 1)) a0.1 s5 v9 h10)))) (rfl : ([900, 920, 940] : List Nat) = [900, 920, 940])) (And.intro h11 (And.intro (swap_cond encI sw_ok3 h13 h15) True.intro)))) (by kernel_rfl) (li (Sf := sort_insertionSort_func_at0ls30_L2_S a0 a1 a2 s2) (M := Mk (sort_insertionSort_func_at0ls30_L2 a0 a1) (sort_insertionSort_func_at0ls30_L2_k s2) c1) (k := [.blk 2, .blk 1, .code (cAt Try.f75 [1, 1, 0, 0, 1, 1]), .inv (Jr R (sort_insertionSort_func_at0ls30_L1_S a0 a1 a2) (Mk (sort_insertionSort_func_at0ls30_L1 a0 a1 a2) (sort_insertionSort_func_at0ls30_L1_k) r) (m1 + 1)), .blk 0]) (Nat.lt_succ_self m2) hK2)
      · have hE : some (Ctl.brk s5) = some c2 := hM
        have hE := Option.some.inj hE
        subst hE
        exact pc R 5 [.as 19 true, .ad (.keep [0, 1, 2, 3, 6, 7, 16, 17, 18, 19, 20, 21, 22, 23, 24] [900, 920, 940, 0]), .call true [900, 920, 940] (.o (.c (.v (.bool v9)))) [(900, .box 24 [.rs 6 (a0.1.map Thing.enc)]), (920, .box 25 [.sl 940]), (940, .row 3 1 (s5.map encI))] [], .as 26 false] [.keep [0, 1, 2, 3, 6] [900, 920, 940, 0]] (And.intro h8 (And.intro (And.intro (con_sw 923 940 (con_sw 903 920 (con_sw 902 900 (impl_PackAll_c1_ok s6 (w64 (s6 - 1)) a0.1 s5 v9 h10)))) (rfl : ([900, 920, 940] : List Nat) = [900, 920, 940])) (And.intro h11 True.intro))) (by kernel_rfl) (K2 s5 hK2)
    · have hE : some (Ctl.brk s5) = some c2 := hM
      have hE := Option.some.inj hE
      subst hE
      exact pc R 5 [.as 19 false] [.keep [0, 1, 2, 3, 6] [900, 920, 940, 0]] (And.intro h8 True.intro) (by kernel_rfl) (K2 s5 hK2)
  · have hE : some (Ctl.brk s1) = some c1 := hM
    have hE := Option.some.inj hE
    subst hE
    exact pc R 5 [.as 12 false] [.keep [0] [900, 920, 940]] (And.intro h4 True.intro) (by kernel_rfl) (K1 s1 hK1)

-- sort.swapRange_func
def sort_swapRange_func_at0ls30_L1_b (a1 : Int) (a2 : Int) (a3 : Int) (s1 : (List Int)) (s2 : Int) : Option (Ctl ((List Int) × Int) (List Int) (List Int)) :=
  bif (decide (s2 < a3)) then
  (gi s1 (w64 (a1 + s2))).bind fun v5 =>
  (gi s1 (w64 (a2 + s2))).bind fun v7 =>
  some (.next (List.set (List.set s1 (Int.toNat (w64 (a1 + s2))) v7) (Int.toNat (w64 (a2 + s2))) v5, w64 (s2 + 1)))
  else
  some (.brk s1)
def sort_swapRange_func_at0ls30_L1 (a1 : Int) (a2 : Int) (a3 : Int) (s : (List Int) × Int) : Option (Ctl ((List Int) × Int) (List Int) (List Int)) := sort_swapRange_func_at0ls30_L1_b a1 a2 a3 s.1 s.2
def sort_swapRange_func_at0ls30_L1_s (a0 : ((List Thing) × (List Int))) (a1 : Int) (a2 : Int) (a3 : Int) (s1 : (List Int)) (s2 : Int) : St := ⟨[(0, .o (.agg [.fn 30 [900, 920], .of (fun s => .func (.func 70) #[] #[s, .pointer (some ⟨0, 3, none⟩)]) 940])), (1, .o (.c (.v (.int .i64 a1)))), (2, .o (.c (.v (.int .i64 a2)))), (3, .o (.c (.v (.int .i64 a3)))), (4, .o (.c (.ptr 0 0))), (8, .o (.c (.v (.int .i64 s2))))], [(900, .box 24 [.rs 6 (a0.1.map Thing.enc)]), (920, .box 25 [.sl 940]), (940, .row 3 1 (s1.map encI)), (0, .box 75 [.fn 30 [900, 920], .of (fun s => .func (.func 70) #[] #[s, .pointer (some ⟨0, 3, none⟩)]) 940])]⟩
def sort_swapRange_func_at0ls30_L1_S (a0 : ((List Thing) × (List Int))) (a1 : Int) (a2 : Int) (a3 : Int) (s : (List Int) × Int) : St := sort_swapRange_func_at0ls30_L1_s a0 a1 a2 a3 s.1 s.2
def sort_swapRange_func_at0ls30_L1_a (s3 : (List Int)) : Option (List Int) :=
  some s3
def sort_swapRange_func_at0ls30_L1_k (x : ((List Int)) ⊕ ((List Int))) : Option (List Int) := match x with
  | .inl t => sort_swapRange_func_at0ls30_L1_a t
  | .inr y => some y
def sort_swapRange_func_at0ls30 (a0 : ((List Thing) × (List Int))) (a1 : Int) (a2 : Int) (a3 : Int) : Option (List Int) :=
  (loopM (sort_swapRange_func_at0ls30_L1 a1 a2 a3) big (a0.2, 0)).bind (sort_swapRange_func_at0ls30_L1_k)
theorem sort_swapRange_func_at0ls30_ok (a0 : ((List Thing) × (List Int))) (a1 : Int) (a2 : Int) (a3 : Int) (r : (List Int)) (hM : sort_swapRange_func_at0ls30 a0 a1 a2 a3 = some r) :
    Con Try.prog 78 [.agg [.fn 30 [900, 920], .of (fun s => .func (.func 70) #[] #[s, .pointer (some ⟨0, 3, none⟩)]) 940], .c (.v (.int .i64 a1)), .c (.v (.int .i64 a2)), .c (.v (.int .i64 a3))] [(900, .box 24 [.rs 6 (a0.1.map Thing.enc)]), (920, .box 25 [.sl 940]), (940, .row 3 1 (a0.2.map encI))] (.tup []) [(900, .box 24 [.rs 6 (a0.1.map Thing.enc)]), (920, .box 25 [.sl 940]), (940, .row 3 1 (r.map encI))] [] := by
  unfold sort_swapRange_func_at0ls30 at hM
  refine cn (N := 23) (pids := [900, 920, 940]) Try_mixed Try.func78 (by kernel_rfl) (by kernel_rfl) (by kernel_rfl) rfl fun ρ g w R => ?_
  have K1 : ∀ (s3 : (List Int)), sort_swapRange_func_at0ls30_L1_a s3 = some r → Gr R [] (⟨[(0, .o (.agg [.fn 30 [900, 920], .of (fun s => .func (.func 70) #[] #[s, .pointer (some ⟨0, 3, none⟩)]) 940]))], [(900, .box 24 [.rs 6 (a0.1.map Thing.enc)]), (920, .box 25 [.sl 940]), (940, .row 3 1 (s3.map encI))]⟩) := by
    intro s3 hM
    unfold sort_swapRange_func_at0ls30_L1_a at hM
    have hE : some s3 = some r := hM
    have hE := Option.some.inj hE
    subst hE
    exact pr R 9999 [] [] [900, 920, 940] [] True.intro (by kernel_rfl)
  refine pc R 9999 [.new 0] [.keep [0, 1, 2, 3, 4, 8] [900, 920, 940, 0]] (k' := [.code (.loop (cAt Try.f78 [1, 1, 0, 0])), .blk 0]) (S' := sort_swapRange_func_at0ls30_L1_S a0 a1 a2 a3 (a0.2, 0)) True.intro (by kernel_rfl) ?_
  refine lq (sort_swapRange_func_at0ls30_L1_S a0 a1 a2 a3) (body := sort_swapRange_func_at0ls30_L1 a1 a2 a3) (k := sort_swapRange_func_at0ls30_L1_k) hM fun m1 s c1 hM hK1 => ?_
  obtain ⟨s1, s2⟩ := s
  have hM : sort_swapRange_func_at0ls30_L1_b a1 a2 a3 s1 s2 = some c1 := hM
  unfold sort_swapRange_func_at0ls30_L1_b at hM
  rcases cond_cases hM with ⟨h4, hM⟩ | ⟨h4, hM⟩
  · obtain ⟨v5, h6, hM⟩ := bind_some hM
    obtain ⟨v7, h8, hM⟩ := bind_some hM
    have hE : some (Ctl.next (List.set (List.set s1 (Int.toNat (w64 (a1 + s2))) v7) (Int.toNat (w64 (a2 + s2))) v5, w64 (s2 + 1))) = some c1 := hM
    have hE := Option.some.inj hE
    subst hE
    exact pc R 9999 [.as 11 true, .ix (encI v5), .ix (encI v7), .nm ((List.set (List.set s1 (Int.toNat (w64 (a1 + s2))) v7) (Int.toNat (w64 (a2 + s2))) v5).map encI)] [.keep [0, 1, 2, 3, 4, 8] [900, 920, 940, 0]] (And.intro h4 (And.intro (swap_cond encI sw_ok3 h6 h8) True.intro)) (by kernel_rfl) (li (Sf := sort_swapRange_func_at0ls30_L1_S a0 a1 a2 a3) (M := Mk (sort_swapRange_func_at0ls30_L1 a1 a2 a3) (sort_swapRange_func_at0ls30_L1_k) r) (k := [.blk 0]) (Nat.lt_succ_self m1) hK1)
  · have hE : some (Ctl.brk s1) = some c1 := hM
    have hE := Option.some.inj hE
    subst hE
    exact pc R 5 [.as 11 false] [.keep [0] [900, 920, 940]] (And.intro h4 True.intro) (by kernel_rfl) (K1 s1 hK1)
end Go.Sx
