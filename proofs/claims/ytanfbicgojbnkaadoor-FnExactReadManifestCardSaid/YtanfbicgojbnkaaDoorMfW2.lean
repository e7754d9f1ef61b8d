/- The functions of the program as plain Lean, and that each runs so (printed by wip/gen). -/
import Derived.Test.YtanfbicgojbnkaaDoorMfW1
namespace Go.Sx
open Go.Proofs
set_option linter.unusedVariables false
set_option maxRecDepth 100000

-- loop.example/g03014/impl.Manifest
def impl_Manifest_j1 (self : (List Thing) → Int → Option ByteArray) (a0 : (List Thing)) (s14 : Int) (v19 : Int) (s21 : ByteArray) : Option (Ctl (ByteArray × Int) ByteArray ByteArray) :=
  (self a0 v19).bind fun v22 =>
  (catM s21 v22).bind fun v24 =>
  some (.next (v24, w64 (s14 + 1)))
def impl_Manifest_L1_b (self : (List Thing) → Int → Option ByteArray) (a0 : (List Thing)) (v11 : (List Int)) (s13 : ByteArray) (s14 : Int) : Option (Ctl (ByteArray × Int) ByteArray ByteArray) :=
  bif (decide (s14 < (v11.length : Int))) then
  (gi v11 s14).bind fun v19 =>
  bif (decide (s14 > 0)) then
  (catM s13 (ByteArray.mk #[32])).bind fun v27 =>
  impl_Manifest_j1 self a0 s14 v19 v27
  else
  impl_Manifest_j1 self a0 s14 v19 s13
  else
  some (.brk s13)
def impl_Manifest_L1 (self : (List Thing) → Int → Option ByteArray) (a0 : (List Thing)) (v11 : (List Int)) (s : ByteArray × Int) : Option (Ctl (ByteArray × Int) ByteArray ByteArray) := impl_Manifest_L1_b self a0 v11 s.1 s.2
def impl_Manifest_L1_s (a0 : (List Thing)) (v11 : (List Int)) (s13 : ByteArray) (s14 : Int) : St := ⟨[(0, .o (.c (.rs 6 (a0.map Thing.enc)))), (5, .o (.c (.v (.string s13)))), (23, .o (.c (.sl 0))), (24, .o (.c (.v (.int .i64 (v11.length : Int))))), (25, .o (.c (.v (.int .i64 s14))))], [(0, .row 3 1 (v11.map encI))]⟩
def impl_Manifest_L1_S (a0 : (List Thing)) (v11 : (List Int)) (s : ByteArray × Int) : St := impl_Manifest_L1_s a0 v11 s.1 s.2
def impl_Manifest_L1_a (s15 : ByteArray) : Option ByteArray :=
  (catM s15 (ByteArray.mk #[93])).bind fun v16 =>
  some v16
def impl_Manifest_L1_k (x : (ByteArray) ⊕ (ByteArray)) : Option ByteArray := match x with
  | .inl t => impl_Manifest_L1_a t
  | .inr y => some y
def impl_Manifest_F (self : (List Thing) → Int → Option ByteArray) (a0 : (List Thing)) (a1 : Int) : Option ByteArray :=
  (impl_isThing a0 a1).bind fun v1 =>
  bif (!v1) then
  some (ByteArray.mk #[])
  else
  (impl_FormatInt a1).bind fun v4 =>
  (impl_isBox a0 a1).bind fun v6 =>
  bif (!v6) then
  some v4
  else
  (catM v4 (ByteArray.mk #[91])).bind fun v9 =>
  (impl_InsideOf a0 a1).bind fun v11 =>
  (loopM (impl_Manifest_L1 self a0 v11) big (v9, 0)).bind (impl_Manifest_L1_k)
def impl_Manifest_n : Nat → (List Thing) → Int → Option ByteArray
  | 0, _, _ => none
  | n + 1, a0, a1 => impl_Manifest_F (impl_Manifest_n n) a0 a1
def impl_Manifest (a0 : (List Thing)) (a1 : Int) : Option ByteArray := impl_Manifest_n big a0 a1
theorem impl_Manifest_step (self : (List Thing) → Int → Option ByteArray) (ih : ∀ (a0 : (List Thing)) (a1 : Int) (r : ByteArray), self a0 a1 = some r →
    Con Tryd.prog 8 [.c (.rs 6 (a0.map Thing.enc)), .c (.v (.int .i64 a1))] [] (.o (.c (.v (.string r)))) [] [])
     (a0 : (List Thing)) (a1 : Int) (r : ByteArray) (hM : impl_Manifest_F self a0 a1 = some r) :
    Con Tryd.prog 8 [.c (.rs 6 (a0.map Thing.enc)), .c (.v (.int .i64 a1))] [] (.o (.c (.v (.string r)))) [] [] := by
  unfold impl_Manifest_F at hM
  refine cn (N := 42) (pids := []) Tryd_mixed Tryd.func8 (by kernel_rfl) (by kernel_rfl) (by kernel_rfl) rfl fun ρ g w R => ?_
  obtain ⟨v1, h2, hM⟩ := bind_some hM
  rcases cond_cases hM with ⟨h3, hM⟩ | ⟨h3, hM⟩
  · have hE : some (ByteArray.mk #[]) = some r := hM
    have hE := Option.some.inj hE
    subst hE
    exact pr R 9999 [.call false [] (.o (.c (.v (.bool v1)))) [] [], .as 11 true] [] [] [] (And.intro (impl_isThing_ok a0 a1 v1 h2) (And.intro h3 True.intro)) (by kernel_rfl)
  · obtain ⟨v4, h5, hM⟩ := bind_some hM
    obtain ⟨v6, h7, hM⟩ := bind_some hM
    rcases cond_cases hM with ⟨h8, hM⟩ | ⟨h8, hM⟩
    · have hE : some v4 = some r := hM
      have hE := Option.some.inj hE
      subst hE
      exact pr R 9999 [.call false [] (.o (.c (.v (.bool v1)))) [] [], .as 11 false, .call false [] (.o (.c (.v (.string v4)))) [] [], .call false [] (.o (.c (.v (.bool v6)))) [] [], .as 17 true] [] [] [] (And.intro (impl_isThing_ok a0 a1 v1 h2) (And.intro h3 (And.intro (impl_FormatInt_ok a1 v4 h5) (And.intro (impl_isBox_ok a0 a1 v6 h7) (And.intro h8 True.intro))))) (by kernel_rfl)
    · obtain ⟨v9, h10, hM⟩ := bind_some hM
      obtain ⟨v11, h12, hM⟩ := bind_some hM
      have K1 : ∀ (s15 : ByteArray), impl_Manifest_L1_a s15 = some r → Gr R [.code (cAt Tryd.f8 [1, 1, 1, 1, 1, 1])] (⟨[(5, .o (.c (.v (.string s15))))], []⟩) := by
        intro s15 hM
        unfold impl_Manifest_L1_a at hM
        obtain ⟨v16, h17, hM⟩ := bind_some hM
        have hE : some v16 = some r := hM
        have hE := Option.some.inj hE
        subst hE
        exact pr R 9999 [.run 41 (.string v16)] [] [] [] (And.intro (catM_run (P := Tryd.prog) (t := 9) (x := .tmp 0) (y := .tmp 0) h17) True.intro) (by kernel_rfl)
      refine pc R 9999 [.call false [] (.o (.c (.v (.bool v1)))) [] [], .as 11 false, .call false [] (.o (.c (.v (.string v4)))) [] [], .call false [] (.o (.c (.v (.bool v6)))) [] [], .as 17 false, .run 20 (.string v9), .call false [] (.o (.c (.sl 0))) [] [(0, .row 3 1 (v11.map encI))], .ln (v11.length)] [.keep [0, 5, 23, 24, 25] [0]] (k' := [.code (.loop (cAt Tryd.f8 [1, 1, 1, 1, 1, 0, 1, 0, 0])), .blk 0, .code (cAt Tryd.f8 [1, 1, 1, 1, 1, 1])]) (S' := impl_Manifest_L1_S a0 v11 (v9, 0)) (And.intro (impl_isThing_ok a0 a1 v1 h2) (And.intro h3 (And.intro (impl_FormatInt_ok a1 v4 h5) (And.intro (impl_isBox_ok a0 a1 v6 h7) (And.intro h8 (And.intro (catM_run (P := Tryd.prog) (t := 9) (x := .tmp 0) (y := .tmp 0) h10) (And.intro (And.intro (con_sw 1000 0 (impl_InsideOf_ok a0 a1 v11 h12)) (rfl : ([] : List Nat) = [])) (And.intro (lenm encI v11) True.intro)))))))) (by kernel_rfl) ?_
      refine lq (impl_Manifest_L1_S a0 v11) (body := impl_Manifest_L1 self a0 v11) (k := impl_Manifest_L1_k) hM fun m1 s c1 hM hK1 => ?_
      obtain ⟨s13, s14⟩ := s
      have hM : impl_Manifest_L1_b self a0 v11 s13 s14 = some c1 := hM
      unfold impl_Manifest_L1_b at hM
      rcases cond_cases hM with ⟨h18, hM⟩ | ⟨h18, hM⟩
      · obtain ⟨v19, h20, hM⟩ := bind_some hM
        have J1 : ∀ (s21 : ByteArray), impl_Manifest_j1 self a0 s14 v19 s21 = some c1 → Gr R [.code (cAt Tryd.f8 [1, 1, 1, 1, 1, 0, 1, 0, 0, 1, 1, 0, 0, 1, 1]), .blk 1, .code (cAt Tryd.f8 [1, 1, 1, 1, 1, 0, 1, 0, 0, 1, 1, 1]), .inv (Jr R (impl_Manifest_L1_S a0 v11) (Mk (impl_Manifest_L1 self a0 v11) (impl_Manifest_L1_k) r) (m1 + 1)), .blk 0, .code (cAt Tryd.f8 [1, 1, 1, 1, 1, 1])] (⟨[(0, .o (.c (.rs 6 (a0.map Thing.enc)))), (5, .o (.c (.v (.string s21)))), (7, .o (.c (.v (.int .i64 v19)))), (23, .o (.c (.sl 0))), (24, .o (.c (.v (.int .i64 (v11.length : Int))))), (25, .o (.c (.v (.int .i64 s14))))], [(0, .row 3 1 (v11.map encI))]⟩) := by
          intro s21 hM
          unfold impl_Manifest_j1 at hM
          obtain ⟨v22, h23, hM⟩ := bind_some hM
          obtain ⟨v24, h25, hM⟩ := bind_some hM
          have hE : some (Ctl.next (v24, w64 (s14 + 1))) = some c1 := hM
          have hE := Option.some.inj hE
          subst hE
          exact pc R 9999 [.call false [] (.o (.c (.v (.string v22)))) [] [], .run 38 (.string v24)] [.keep [0, 5, 23, 24, 25] [0]] (And.intro (ih a0 v19 v22 h23) (And.intro (catM_run (P := Tryd.prog) (t := 9) (x := .tmp 0) (y := .tmp 0) h25) True.intro)) (by kernel_rfl) (li (Sf := impl_Manifest_L1_S a0 v11) (M := Mk (impl_Manifest_L1 self a0 v11) (impl_Manifest_L1_k) r) (k := [.blk 0, .code (cAt Tryd.f8 [1, 1, 1, 1, 1, 1])]) (Nat.lt_succ_self m1) hK1)
        rcases cond_cases hM with ⟨h26, hM⟩ | ⟨h26, hM⟩
        · obtain ⟨v27, h28, hM⟩ := bind_some hM
          exact pc R 14 [.as 26 true, .ix (encI v19), .as 31 true, .run 33 (.string v27)] [.keep [0, 5, 7, 23, 24, 25] [0]] (And.intro h18 (And.intro (gi_lt encI h20) (And.intro ((gi_map encI h20).2) (And.intro h26 (And.intro (catM_run (P := Tryd.prog) (t := 9) (x := .tmp 0) (y := .tmp 0) h28) True.intro))))) (by kernel_rfl) (J1 v27 hM)
        · exact pc R 14 [.as 26 true, .ix (encI v19), .as 31 false] [.keep [0, 5, 7, 23, 24, 25] [0]] (And.intro h18 (And.intro (gi_lt encI h20) (And.intro ((gi_map encI h20).2) (And.intro h26 True.intro)))) (by kernel_rfl) (J1 s13 hM)
      · have hE : some (Ctl.brk s13) = some c1 := hM
        have hE := Option.some.inj hE
        subst hE
        exact pc R 5 [.as 26 false] [.keep [5] []] (And.intro h18 True.intro) (by kernel_rfl) (K1 s13 hK1)
theorem impl_Manifest_nok : ∀ (n : Nat) (a0 : (List Thing)) (a1 : Int) (r : ByteArray), impl_Manifest_n n a0 a1 = some r →
    Con Tryd.prog 8 [.c (.rs 6 (a0.map Thing.enc)), .c (.v (.int .i64 a1))] [] (.o (.c (.v (.string r)))) [] []
  | 0, _, _, _, h => by cases h
  | n + 1, a0, a1, r, h => impl_Manifest_step (impl_Manifest_n n) (impl_Manifest_nok n) a0 a1 r h
theorem impl_Manifest_ok (a0 : (List Thing)) (a1 : Int) (r : ByteArray) (h : impl_Manifest a0 a1 = some r) :
    Con Tryd.prog 8 [.c (.rs 6 (a0.map Thing.enc)), .c (.v (.int .i64 a1))] [] (.o (.c (.v (.string r)))) [] [] := impl_Manifest_nok big a0 a1 r h

-- loop.example/g03014/spec.FormatInt
def spec_FormatInt_L1_b (s2 : ByteArray) (s3 : Int) : Option (Ctl (ByteArray × Int) ByteArray ByteArray) :=
  bif (s3 != 0) then
  bif (decide ((Int.tmod s3 10) < 0)) then
  (catM (strOfNums ([IntKind.u8.wrap (w64 (48 + (w64 (0 - (Int.tmod s3 10)))))] : List Int)) s2).bind fun v10 =>
  some (.next (v10, w64 (Int.tdiv s3 10)))
  else
  (catM (strOfNums ([IntKind.u8.wrap (w64 (48 + (Int.tmod s3 10)))] : List Int)) s2).bind fun v12 =>
  some (.next (v12, w64 (Int.tdiv s3 10)))
  else
  some (.brk s2)
def spec_FormatInt_L1 (s : ByteArray × Int) : Option (Ctl (ByteArray × Int) ByteArray ByteArray) := spec_FormatInt_L1_b s.1 s.2
def spec_FormatInt_L1_s (a0 : Int) (s2 : ByteArray) (s3 : Int) : St := ⟨[(0, .o (.c (.v (.int .i64 a0)))), (3, .o (.c (.v (.string s2)))), (4, .o (.c (.v (.int .i64 s3))))], []⟩
def spec_FormatInt_L1_S (a0 : Int) (s : ByteArray × Int) : St := spec_FormatInt_L1_s a0 s.1 s.2
def spec_FormatInt_L1_a (a0 : Int) (s4 : ByteArray) : Option ByteArray :=
  bif (decide (a0 < 0)) then
  (catM (ByteArray.mk #[45]) s4).bind fun v6 =>
  some v6
  else
  some s4
def spec_FormatInt_L1_k (a0 : Int) (x : (ByteArray) ⊕ (ByteArray)) : Option ByteArray := match x with
  | .inl t => spec_FormatInt_L1_a a0 t
  | .inr y => some y
def spec_FormatInt (a0 : Int) : Option ByteArray :=
  bif (a0 == 0) then
  some (ByteArray.mk #[48])
  else
  (loopM (spec_FormatInt_L1) big ((ByteArray.mk #[]), a0)).bind (spec_FormatInt_L1_k a0)
theorem spec_FormatInt_ok (a0 : Int) (r : ByteArray) (hM : spec_FormatInt a0 = some r) :
    Con Tryd.prog 44 [.c (.v (.int .i64 a0))] [] (.o (.c (.v (.string r)))) [] [] := by
  unfold spec_FormatInt at hM
  refine cn (N := 31) (pids := []) Tryd_mixed Tryd.func44 (by kernel_rfl) (by kernel_rfl) (by kernel_rfl) rfl fun ρ g w R => ?_
  rcases cond_cases hM with ⟨h1, hM⟩ | ⟨h1, hM⟩
  · have hE : some (ByteArray.mk #[48]) = some r := hM
    have hE := Option.some.inj hE
    subst hE
    exact pr R 9999 [.as 7 true] [] [] [] (And.intro h1 True.intro) (by kernel_rfl)
  · have K1 : ∀ (s4 : ByteArray), spec_FormatInt_L1_a a0 s4 = some r → Gr R [.code (cAt Tryd.f44 [1, 1, 1, 1])] (⟨[(0, .o (.c (.v (.int .i64 a0)))), (3, .o (.c (.v (.string s4))))], []⟩) := by
      intro s4 hM
      unfold spec_FormatInt_L1_a at hM
      rcases cond_cases hM with ⟨h5, hM⟩ | ⟨h5, hM⟩
      · obtain ⟨v6, h7, hM⟩ := bind_some hM
        have hE : some v6 = some r := hM
        have hE := Option.some.inj hE
        subst hE
        exact pr R 9999 [.as 27 true, .run 29 (.string v6)] [] [] [] (And.intro h5 (And.intro (catM_run (P := Tryd.prog) (t := 9) (x := .tmp 0) (y := .tmp 0) h7) True.intro)) (by kernel_rfl)
      · have hE : some s4 = some r := hM
        have hE := Option.some.inj hE
        subst hE
        exact pr R 9999 [.as 27 false] [] [] [] (And.intro h5 True.intro) (by kernel_rfl)
    refine pc R 9999 [.as 7 false] [.keep [0, 3, 4] []] (k' := [.code (.loop (cAt Tryd.f44 [1, 1, 1, 0, 1, 0, 0])), .blk 0, .code (cAt Tryd.f44 [1, 1, 1, 1])]) (S' := spec_FormatInt_L1_S a0 ((ByteArray.mk #[]), a0)) (And.intro h1 True.intro) (by kernel_rfl) ?_
    refine lq (spec_FormatInt_L1_S a0) (body := spec_FormatInt_L1) (k := spec_FormatInt_L1_k a0) hM fun m1 s c1 hM hK1 => ?_
    obtain ⟨s2, s3⟩ := s
    have hM : spec_FormatInt_L1_b s2 s3 = some c1 := hM
    unfold spec_FormatInt_L1_b at hM
    rcases cond_cases hM with ⟨h8, hM⟩ | ⟨h8, hM⟩
    · rcases cond_cases hM with ⟨h9, hM⟩ | ⟨h9, hM⟩
      · obtain ⟨v10, h11, hM⟩ := bind_some hM
        have hE : some (Ctl.next (v10, w64 (Int.tdiv s3 10))) = some c1 := hM
        have hE := Option.some.inj hE
        subst hE
        exact pc R 9999 [.as 10 true, .as 16 true, .new 0, .ix [.string (strOfNums ([IntKind.u8.wrap (w64 (48 + (w64 (0 - (Int.tmod s3 10)))))] : List Int))], .run 25 (.string v10)] [.keep [0, 3, 4] []] (And.intro h8 (And.intro h9 (And.intro (conv_ok ([IntKind.u8.wrap (w64 (48 + (w64 (0 - (Int.tmod s3 10)))))] : List Int)) (And.intro (catM_run (P := Tryd.prog) (t := 9) (x := .tmp 0) (y := .tmp 0) h11) True.intro)))) (by kernel_rfl) (li (Sf := spec_FormatInt_L1_S a0) (M := Mk (spec_FormatInt_L1) (spec_FormatInt_L1_k a0) r) (k := [.blk 0, .code (cAt Tryd.f44 [1, 1, 1, 1])]) (Nat.lt_succ_self m1) hK1)
      · obtain ⟨v12, h13, hM⟩ := bind_some hM
        have hE : some (Ctl.next (v12, w64 (Int.tdiv s3 10))) = some c1 := hM
        have hE := Option.some.inj hE
        subst hE
        exact pc R 9999 [.as 10 true, .as 16 false, .new 1, .ix [.string (strOfNums ([IntKind.u8.wrap (w64 (48 + (Int.tmod s3 10)))] : List Int))], .run 25 (.string v12)] [.keep [0, 3, 4] []] (And.intro h8 (And.intro h9 (And.intro (conv_ok ([IntKind.u8.wrap (w64 (48 + (Int.tmod s3 10)))] : List Int)) (And.intro (catM_run (P := Tryd.prog) (t := 9) (x := .tmp 0) (y := .tmp 0) h13) True.intro)))) (by kernel_rfl) (li (Sf := spec_FormatInt_L1_S a0) (M := Mk (spec_FormatInt_L1) (spec_FormatInt_L1_k a0) r) (k := [.blk 0, .code (cAt Tryd.f44 [1, 1, 1, 1])]) (Nat.lt_succ_self m1) hK1)
    · have hE : some (Ctl.brk s2) = some c1 := hM
      have hE := Option.some.inj hE
      subst hE
      exact pc R 5 [.as 10 false] [.keep [0, 3] []] (And.intro h8 True.intro) (by kernel_rfl) (K1 s2 hK1)

-- loop.example/g03014/spec.l5Text
def spec_l5Text_j1 (self : (List Thing) → Int → Option ByteArray) (a0 : (List Thing)) (s12 : Int) (s20 : ByteArray) : Option (Ctl (ByteArray × Bool × Int) ByteArray ByteArray) :=
  (gi a0 s12).bind fun v21 =>
  (self a0 v21.Id).bind fun v23 =>
  (catM s20 v23).bind fun v25 =>
  some (.next (v25, false, w64 (s12 + 1)))
def spec_l5Text_L1_b (self : (List Thing) → Int → Option ByteArray) (a0 : (List Thing)) (a1 : Int) (s10 : ByteArray) (s11 : Bool) (s12 : Int) : Option (Ctl (ByteArray × Bool × Int) ByteArray ByteArray) :=
  bif (decide (s12 < (a0.length : Int))) then
  (gi a0 s12).bind fun v17 =>
  bif (v17.In == a1) then
  bif (!s11) then
  (catM s10 (ByteArray.mk #[32])).bind fun v28 =>
  spec_l5Text_j1 self a0 s12 v28
  else
  spec_l5Text_j1 self a0 s12 s10
  else
  some (.next (s10, s11, w64 (s12 + 1)))
  else
  some (.brk s10)
def spec_l5Text_L1 (self : (List Thing) → Int → Option ByteArray) (a0 : (List Thing)) (a1 : Int) (s : ByteArray × Bool × Int) : Option (Ctl (ByteArray × Bool × Int) ByteArray ByteArray) := spec_l5Text_L1_b self a0 a1 s.1 s.2.1 s.2.2
def spec_l5Text_L1_s (a0 : (List Thing)) (a1 : Int) (s10 : ByteArray) (s11 : Bool) (s12 : Int) : St := ⟨[(0, .o (.c (.rs 6 (a0.map Thing.enc)))), (1, .o (.c (.v (.int .i64 a1)))), (5, .o (.c (.v (.string s10)))), (7, .o (.c (.v (.bool s11)))), (8, .o (.c (.v (.int .i64 s12))))], []⟩
def spec_l5Text_L1_S (a0 : (List Thing)) (a1 : Int) (s : ByteArray × Bool × Int) : St := spec_l5Text_L1_s a0 a1 s.1 s.2.1 s.2.2
def spec_l5Text_L1_a (s13 : ByteArray) : Option ByteArray :=
  (catM s13 (ByteArray.mk #[93])).bind fun v14 =>
  some v14
def spec_l5Text_L1_k (x : (ByteArray) ⊕ (ByteArray)) : Option ByteArray := match x with
  | .inl t => spec_l5Text_L1_a t
  | .inr y => some y
def spec_l5Text_F (self : (List Thing) → Int → Option ByteArray) (a0 : (List Thing)) (a1 : Int) : Option ByteArray :=
  (spec_FormatInt a1).bind fun v1 =>
  (spec_FindThing a0 a1).bind fun v3 =>
  (gi a0 v3).bind fun v5 =>
  bif (!v5.Box) then
  some v1
  else
  (catM v1 (ByteArray.mk #[91])).bind fun v8 =>
  (loopM (spec_l5Text_L1 self a0 a1) big (v8, true, 0)).bind (spec_l5Text_L1_k)
def spec_l5Text_n : Nat → (List Thing) → Int → Option ByteArray
  | 0, _, _ => none
  | n + 1, a0, a1 => spec_l5Text_F (spec_l5Text_n n) a0 a1
def spec_l5Text (a0 : (List Thing)) (a1 : Int) : Option ByteArray := spec_l5Text_n big a0 a1
theorem spec_l5Text_step (self : (List Thing) → Int → Option ByteArray) (ih : ∀ (a0 : (List Thing)) (a1 : Int) (r : ByteArray), self a0 a1 = some r →
    Con Tryd.prog 27 [.c (.rs 6 (a0.map Thing.enc)), .c (.v (.int .i64 a1))] [] (.o (.c (.v (.string r)))) [] [])
     (a0 : (List Thing)) (a1 : Int) (r : ByteArray) (hM : spec_l5Text_F self a0 a1 = some r) :
    Con Tryd.prog 27 [.c (.rs 6 (a0.map Thing.enc)), .c (.v (.int .i64 a1))] [] (.o (.c (.v (.string r)))) [] [] := by
  unfold spec_l5Text_F at hM
  refine cn (N := 51) (pids := []) Tryd_mixed Tryd.func27 (by kernel_rfl) (by kernel_rfl) (by kernel_rfl) rfl fun ρ g w R => ?_
  obtain ⟨v1, h2, hM⟩ := bind_some hM
  obtain ⟨v3, h4, hM⟩ := bind_some hM
  obtain ⟨v5, h6, hM⟩ := bind_some hM
  rcases cond_cases hM with ⟨h7, hM⟩ | ⟨h7, hM⟩
  · have hE : some v1 = some r := hM
    have hE := Option.some.inj hE
    subst hE
    exact pr R 9999 [.call false [] (.o (.c (.v (.string v1)))) [] [], .call false [] (.o (.c (.v (.int .i64 v3)))) [] [], .ix (Thing.enc v5), .as 19 true] [] [] [] (And.intro (spec_FormatInt_ok a1 v1 h2) (And.intro (spec_FindThing_ok a0 a1 v3 h4) (And.intro (gi_map Thing.enc h6) (And.intro h7 True.intro)))) (by kernel_rfl)
  · obtain ⟨v8, h9, hM⟩ := bind_some hM
    have K1 : ∀ (s13 : ByteArray), spec_l5Text_L1_a s13 = some r → Gr R [.code (cAt Tryd.f27 [1, 1, 1, 1, 1, 1, 1])] (⟨[(5, .o (.c (.v (.string s13))))], []⟩) := by
      intro s13 hM
      unfold spec_l5Text_L1_a at hM
      obtain ⟨v14, h15, hM⟩ := bind_some hM
      have hE : some v14 = some r := hM
      have hE := Option.some.inj hE
      subst hE
      exact pr R 9999 [.run 50 (.string v14)] [] [] [] (And.intro (catM_run (P := Tryd.prog) (t := 9) (x := .tmp 0) (y := .tmp 0) h15) True.intro) (by kernel_rfl)
    refine pc R 9999 [.call false [] (.o (.c (.v (.string v1)))) [] [], .call false [] (.o (.c (.v (.int .i64 v3)))) [] [], .ix (Thing.enc v5), .as 19 false, .run 22 (.string v8)] [.keep [0, 1, 5, 7, 8] []] (k' := [.code (.loop (cAt Tryd.f27 [1, 1, 1, 1, 1, 1, 0, 1, 0, 0])), .blk 0, .code (cAt Tryd.f27 [1, 1, 1, 1, 1, 1, 1])]) (S' := spec_l5Text_L1_S a0 a1 (v8, true, 0)) (And.intro (spec_FormatInt_ok a1 v1 h2) (And.intro (spec_FindThing_ok a0 a1 v3 h4) (And.intro (gi_map Thing.enc h6) (And.intro h7 (And.intro (catM_run (P := Tryd.prog) (t := 9) (x := .tmp 0) (y := .tmp 0) h9) True.intro))))) (by kernel_rfl) ?_
    refine lq (spec_l5Text_L1_S a0 a1) (body := spec_l5Text_L1 self a0 a1) (k := spec_l5Text_L1_k) hM fun m1 s c1 hM hK1 => ?_
    obtain ⟨s10, s11, s12⟩ := s
    have hM : spec_l5Text_L1_b self a0 a1 s10 s11 s12 = some c1 := hM
    unfold spec_l5Text_L1_b at hM
    rcases cond_cases hM with ⟨h16, hM⟩ | ⟨h16, hM⟩
    · obtain ⟨v17, h18, hM⟩ := bind_some hM
      rcases cond_cases hM with ⟨h19, hM⟩ | ⟨h19, hM⟩
      · have J1 : ∀ (s20 : ByteArray), spec_l5Text_j1 self a0 s12 s20 = some c1 → Gr R [.code (cAt Tryd.f27 [1, 1, 1, 1, 1, 1, 0, 1, 0, 0, 1, 0, 0, 1, 0, 1]), .blk 1, .code (cAt Tryd.f27 [1, 1, 1, 1, 1, 1, 0, 1, 0, 0, 1, 1]), .inv (Jr R (spec_l5Text_L1_S a0 a1) (Mk (spec_l5Text_L1 self a0 a1) (spec_l5Text_L1_k) r) (m1 + 1)), .blk 0, .code (cAt Tryd.f27 [1, 1, 1, 1, 1, 1, 1])] (⟨[(0, .o (.c (.rs 6 (a0.map Thing.enc)))), (1, .o (.c (.v (.int .i64 a1)))), (5, .o (.c (.v (.string s20)))), (8, .o (.c (.v (.int .i64 s12))))], []⟩) := by
          intro s20 hM
          unfold spec_l5Text_j1 at hM
          obtain ⟨v21, h22, hM⟩ := bind_some hM
          obtain ⟨v23, h24, hM⟩ := bind_some hM
          obtain ⟨v25, h26, hM⟩ := bind_some hM
          have hE : some (Ctl.next (v25, false, w64 (s12 + 1))) = some c1 := hM
          have hE := Option.some.inj hE
          subst hE
          exact pc R 9999 [.ix (Thing.enc v21), .call false [] (.o (.c (.v (.string v23)))) [] [], .run 48 (.string v25)] [.keep [0, 1, 5, 7, 8] []] (And.intro (gi_map Thing.enc h22) (And.intro (ih a0 v21.Id v23 h24) (And.intro (catM_run (P := Tryd.prog) (t := 9) (x := .tmp 0) (y := .tmp 0) h26) True.intro))) (by kernel_rfl) (li (Sf := spec_l5Text_L1_S a0 a1) (M := Mk (spec_l5Text_L1 self a0 a1) (spec_l5Text_L1_k) r) (k := [.blk 0, .code (cAt Tryd.f27 [1, 1, 1, 1, 1, 1, 1])]) (Nat.lt_succ_self m1) hK1)
        rcases cond_cases hM with ⟨h27, hM⟩ | ⟨h27, hM⟩
        · obtain ⟨v28, h29, hM⟩ := bind_some hM
          exact pc R 15 [.ln (a0.length), .as 26 true, .ix (Thing.enc v17), .as 35 true, .as 37 true, .run 39 (.string v28)] [.keep [0, 1, 5, 8] []] (And.intro (lenm Thing.enc a0) (And.intro h16 (And.intro (gi_map Thing.enc h18) (And.intro h19 (And.intro h27 (And.intro (catM_run (P := Tryd.prog) (t := 9) (x := .tmp 0) (y := .tmp 0) h29) True.intro)))))) (by kernel_rfl) (J1 v28 hM)
        · exact pc R 15 [.ln (a0.length), .as 26 true, .ix (Thing.enc v17), .as 35 true, .as 37 false] [.keep [0, 1, 5, 8] []] (And.intro (lenm Thing.enc a0) (And.intro h16 (And.intro (gi_map Thing.enc h18) (And.intro h19 (And.intro h27 True.intro))))) (by kernel_rfl) (J1 s10 hM)
      · have hE : some (Ctl.next (s10, s11, w64 (s12 + 1))) = some c1 := hM
        have hE := Option.some.inj hE
        subst hE
        exact pc R 9999 [.ln (a0.length), .as 26 true, .ix (Thing.enc v17), .as 35 false] [.keep [0, 1, 5, 7, 8] []] (And.intro (lenm Thing.enc a0) (And.intro h16 (And.intro (gi_map Thing.enc h18) (And.intro h19 True.intro)))) (by kernel_rfl) (li (Sf := spec_l5Text_L1_S a0 a1) (M := Mk (spec_l5Text_L1 self a0 a1) (spec_l5Text_L1_k) r) (k := [.blk 0, .code (cAt Tryd.f27 [1, 1, 1, 1, 1, 1, 1])]) (Nat.lt_succ_self m1) hK1)
    · have hE : some (Ctl.brk s10) = some c1 := hM
      have hE := Option.some.inj hE
      subst hE
      exact pc R 5 [.ln (a0.length), .as 26 false] [.keep [5] []] (And.intro (lenm Thing.enc a0) (And.intro h16 True.intro)) (by kernel_rfl) (K1 s10 hK1)
theorem spec_l5Text_nok : ∀ (n : Nat) (a0 : (List Thing)) (a1 : Int) (r : ByteArray), spec_l5Text_n n a0 a1 = some r →
    Con Tryd.prog 27 [.c (.rs 6 (a0.map Thing.enc)), .c (.v (.int .i64 a1))] [] (.o (.c (.v (.string r)))) [] []
  | 0, _, _, _, h => by cases h
  | n + 1, a0, a1, r, h => spec_l5Text_step (spec_l5Text_n n) (spec_l5Text_nok n) a0 a1 r h
theorem spec_l5Text_ok (a0 : (List Thing)) (a1 : Int) (r : ByteArray) (h : spec_l5Text a0 a1 = some r) :
    Con Tryd.prog 27 [.c (.rs 6 (a0.map Thing.enc)), .c (.v (.int .i64 a1))] [] (.o (.c (.v (.string r)))) [] [] := spec_l5Text_nok big a0 a1 r h

-- loop.example/g03014/spec.Manifest
def spec_Manifest (a0 : (List Thing)) (a1 : Int) : Option ByteArray :=
  (spec_AreThings a0).bind fun v1 =>
  bif (!v1) then
  some (ByteArray.mk #[])
  else
  (spec_FindThing a0 a1).bind fun v4 =>
  bif (decide (v4 < 0)) then
  some (ByteArray.mk #[])
  else
  (spec_l5Text a0 a1).bind fun v7 =>
  some v7
theorem spec_Manifest_ok (a0 : (List Thing)) (a1 : Int) (r : ByteArray) (hM : spec_Manifest a0 a1 = some r) :
    Con Tryd.prog 9 [.c (.rs 6 (a0.map Thing.enc)), .c (.v (.int .i64 a1))] [] (.o (.c (.v (.string r)))) [] [] := by
  unfold spec_Manifest at hM
  refine cn (N := 17) (pids := []) Tryd_mixed Tryd.func9 (by kernel_rfl) (by kernel_rfl) (by kernel_rfl) rfl fun ρ g w R => ?_
  obtain ⟨v1, h2, hM⟩ := bind_some hM
  rcases cond_cases hM with ⟨h3, hM⟩ | ⟨h3, hM⟩
  · have hE : some (ByteArray.mk #[]) = some r := hM
    have hE := Option.some.inj hE
    subst hE
    exact pr R 9999 [.call false [] (.o (.c (.v (.bool v1)))) [] [], .as 8 true] [] [] [] (And.intro (spec_AreThings_ok a0 v1 h2) (And.intro h3 True.intro)) (by kernel_rfl)
  · obtain ⟨v4, h5, hM⟩ := bind_some hM
    rcases cond_cases hM with ⟨h6, hM⟩ | ⟨h6, hM⟩
    · have hE : some (ByteArray.mk #[]) = some r := hM
      have hE := Option.some.inj hE
      subst hE
      exact pr R 9999 [.call false [] (.o (.c (.v (.bool v1)))) [] [], .as 8 false, .call false [] (.o (.c (.v (.int .i64 v4)))) [] [], .as 13 true] [] [] [] (And.intro (spec_AreThings_ok a0 v1 h2) (And.intro h3 (And.intro (spec_FindThing_ok a0 a1 v4 h5) (And.intro h6 True.intro)))) (by kernel_rfl)
    · obtain ⟨v7, h8, hM⟩ := bind_some hM
      have hE : some v7 = some r := hM
      have hE := Option.some.inj hE
      subst hE
      exact pr R 9999 [.call false [] (.o (.c (.v (.bool v1)))) [] [], .as 8 false, .call false [] (.o (.c (.v (.int .i64 v4)))) [] [], .as 13 false, .call false [] (.o (.c (.v (.string v7)))) [] []] [] [] [] (And.intro (spec_AreThings_ok a0 v1 h2) (And.intro h3 (And.intro (spec_FindThing_ok a0 a1 v4 h5) (And.intro h6 (And.intro (spec_l5Text_ok a0 a1 v7 h8) True.intro))))) (by kernel_rfl)

-- (*loop.example/g03014/impl.manifestReader).one
def impl_manifestReader_one_j1 (self : manifestReader → Int → Option (Bool × manifestReader)) (v5 : (Int × Bool)) (s18 : ByteArray) (s20 : (List Pair)) (s21 : Int) (s30 : Int) : Option (Ctl (ByteArray × Int × (List Pair) × Int) (ByteArray × Int × (List Pair)) (Bool × manifestReader)) :=
  (self (manifestReader.mk s18 s30 s20) v5.1).bind fun v31 =>
  bif (!v31.1) then
  some (.ret (false, v31.2))
  else
  some (.next (v31.2.s, v31.2.at_, v31.2.out, w64 (s21 + 1)))
def impl_manifestReader_one_L2_b (self : manifestReader → Int → Option (Bool × manifestReader)) (v5 : (Int × Bool)) (s18 : ByteArray) (s19 : Int) (s20 : (List Pair)) (s21 : Int) : Option (Ctl (ByteArray × Int × (List Pair) × Int) (ByteArray × Int × (List Pair)) (Bool × manifestReader)) :=
  bif (decide (s19 < (s18.size : Int))) then
  (siM s18 s19).bind fun v27 =>
  bif (v27 != 93) then
  bif (decide (s21 > 0)) then
  (siM s18 s19).bind fun v35 =>
  bif (v35 != 32) then
  some (.ret (false, (manifestReader.mk s18 s19 s20)))
  else
  impl_manifestReader_one_j1 self v5 s18 s20 s21 (w64 (s19 + 1))
  else
  impl_manifestReader_one_j1 self v5 s18 s20 s21 s19
  else
  some (.brk (s18, s19, s20))
  else
  some (.brk (s18, s19, s20))
def impl_manifestReader_one_L2 (self : manifestReader → Int → Option (Bool × manifestReader)) (v5 : (Int × Bool)) (s : ByteArray × Int × (List Pair) × Int) : Option (Ctl (ByteArray × Int × (List Pair) × Int) (ByteArray × Int × (List Pair)) (Bool × manifestReader)) := impl_manifestReader_one_L2_b self v5 s.1 s.2.1 s.2.2.1 s.2.2.2
def impl_manifestReader_one_L2_s (v5 : (Int × Bool)) (s18 : ByteArray) (s19 : Int) (s20 : (List Pair)) (s21 : Int) : St := ⟨[(0, .o (.c (.ptr 900 0))), (6, .o (.c (.v (.int .i64 v5.1)))), (8, .o (.c (.v (.int .i64 s21))))], [(900, .box 51 [.v (.string s18), .v (.int .i64 s19), .sl 1]), (1, .row 34 2 (s20.map Pair.enc))]⟩
def impl_manifestReader_one_L2_S (v5 : (Int × Bool)) (s : ByteArray × Int × (List Pair) × Int) : St := impl_manifestReader_one_L2_s v5 s.1 s.2.1 s.2.2.1 s.2.2.2
def impl_manifestReader_one_L2_a (s22 : ByteArray) (s23 : Int) (s24 : (List Pair)) : Option (Bool × manifestReader) :=
  bif (s23 == (s22.size : Int)) then
  some (false, (manifestReader.mk s22 s23 s24))
  else
  some (true, (manifestReader.mk s22 (w64 (s23 + 1)) s24))
def impl_manifestReader_one_L2_k (x : (ByteArray × Int × (List Pair)) ⊕ (Bool × manifestReader)) : Option (Bool × manifestReader) := match x with
  | .inl t => impl_manifestReader_one_L2_a t.1 t.2.1 t.2.2
  | .inr y => some y
def impl_manifestReader_one_L1_b (a0 : manifestReader) (s1 : Int) : Option (Ctl Int Int (Bool × manifestReader)) :=
  bif (decide (s1 < (a0.s.size : Int))) then
  (siM a0.s s1).bind fun v39 =>
  bif (decide (v39 ≥ 48)) then
  (siM a0.s s1).bind fun v42 =>
  bif (decide (v42 ≤ 57)) then
  some (.next (w64 (s1 + 1)))
  else
  some (.brk s1)
  else
  some (.brk s1)
  else
  some (.brk s1)
def impl_manifestReader_one_L1 (a0 : manifestReader) (s : Int) : Option (Ctl Int Int (Bool × manifestReader)) := impl_manifestReader_one_L1_b a0 s
def impl_manifestReader_one_L1_s (a0 : manifestReader) (a1 : Int) (s1 : Int) : St := ⟨[(0, .o (.c (.ptr 900 0))), (1, .o (.c (.v (.int .i64 a1)))), (5, .o (.c (.v (.int .i64 a0.at_))))], [(900, .box 51 [.v (.string a0.s), .v (.int .i64 s1), .sl 920]), (920, .row 34 2 (a0.out.map Pair.enc))]⟩
def impl_manifestReader_one_L1_S (a0 : manifestReader) (a1 : Int) (s : Int) : St := impl_manifestReader_one_L1_s a0 a1 s
def impl_manifestReader_one_L1_a (self : manifestReader → Int → Option (Bool × manifestReader)) (a0 : manifestReader) (a1 : Int) (s2 : Int) : Option (Bool × manifestReader) :=
  (stM a0.s a0.at_ s2).bind fun v3 =>
  (impl_ParseInt (ByteArray.extract a0.s (Int.toNat a0.at_) (Int.toNat s2))).bind fun v5 =>
  bif (!v5.2) then
  some (false, (manifestReader.mk a0.s s2 a0.out))
  else
  (impl_within v5.1 1 9999).bind fun v8 =>
  bif (!v8) then
  some (false, (manifestReader.mk a0.s s2 a0.out))
  else
  bif ((a0.out.length : Int) == 40) then
  some (false, (manifestReader.mk a0.s s2 a0.out))
  else
  (ap 16 a0.out ([(Pair.mk v5.1 a1)] : List Pair)).bind fun v12 =>
  bif (s2 == (a0.s.size : Int)) then
  some (true, (manifestReader.mk a0.s s2 v12))
  else
  (siM a0.s s2).bind fun v15 =>
  bif (v15 != 91) then
  some (true, (manifestReader.mk a0.s s2 v12))
  else
  (loopM (impl_manifestReader_one_L2 self v5) big (a0.s, w64 (s2 + 1), v12, 0)).bind (impl_manifestReader_one_L2_k)
def impl_manifestReader_one_L1_k (self : manifestReader → Int → Option (Bool × manifestReader)) (a0 : manifestReader) (a1 : Int) (x : (Int) ⊕ (Bool × manifestReader)) : Option (Bool × manifestReader) := match x with
  | .inl t => impl_manifestReader_one_L1_a self a0 a1 t
  | .inr y => some y
def impl_manifestReader_one_F (self : manifestReader → Int → Option (Bool × manifestReader)) (a0 : manifestReader) (a1 : Int) : Option (Bool × manifestReader) :=
  (loopM (impl_manifestReader_one_L1 a0) big a0.at_).bind (impl_manifestReader_one_L1_k self a0 a1)
def impl_manifestReader_one_n : Nat → manifestReader → Int → Option (Bool × manifestReader)
  | 0, _, _ => none
  | n + 1, a0, a1 => impl_manifestReader_one_F (impl_manifestReader_one_n n) a0 a1
def impl_manifestReader_one (a0 : manifestReader) (a1 : Int) : Option (Bool × manifestReader) := impl_manifestReader_one_n big a0 a1
theorem impl_manifestReader_one_step (self : manifestReader → Int → Option (Bool × manifestReader)) (ih : ∀ (a0 : manifestReader) (a1 : Int) (r : Bool × manifestReader), self a0 a1 = some r →
    Con Tryd.prog 28 [.c (.ptr 900 0), .c (.v (.int .i64 a1))] [(900, .box 51 [.v (.string a0.s), .v (.int .i64 a0.at_), .sl 920]), (920, .row 34 2 (a0.out.map Pair.enc))] (.o (.c (.v (.bool r.1)))) [(900, .box 51 [.v (.string r.2.s), .v (.int .i64 r.2.at_), .sl 1000])] [(1000, .row 34 2 (r.2.out.map Pair.enc))])
     (a0 : manifestReader) (a1 : Int) (r : Bool × manifestReader) (hM : impl_manifestReader_one_F self a0 a1 = some r) :
    Con Tryd.prog 28 [.c (.ptr 900 0), .c (.v (.int .i64 a1))] [(900, .box 51 [.v (.string a0.s), .v (.int .i64 a0.at_), .sl 920]), (920, .row 34 2 (a0.out.map Pair.enc))] (.o (.c (.v (.bool r.1)))) [(900, .box 51 [.v (.string r.2.s), .v (.int .i64 r.2.at_), .sl 1000])] [(1000, .row 34 2 (r.2.out.map Pair.enc))] := by
  unfold impl_manifestReader_one_F at hM
  refine cn (N := 188) (pids := [900, 920]) Tryd_mixed Tryd.func28 (by kernel_rfl) (by kernel_rfl) (by kernel_rfl) rfl fun ρ g w R => ?_
  have K1 : ∀ (s2 : Int), impl_manifestReader_one_L1_a self a0 a1 s2 = some r → Gr R [.code (cAt Tryd.f28 [1, 1, 1])] (⟨[(0, .o (.c (.ptr 900 0))), (1, .o (.c (.v (.int .i64 a1)))), (5, .o (.c (.v (.int .i64 a0.at_))))], [(900, .box 51 [.v (.string a0.s), .v (.int .i64 s2), .sl 920]), (920, .row 34 2 (a0.out.map Pair.enc))]⟩) := by
    intro s2 hM
    unfold impl_manifestReader_one_L1_a at hM
    obtain ⟨v3, h4, hM⟩ := bind_some hM
    obtain ⟨v5, h6, hM⟩ := bind_some hM
    rcases cond_cases hM with ⟨h7, hM⟩ | ⟨h7, hM⟩
    · have hE : some (false, (manifestReader.mk a0.s s2 a0.out)) = some r := hM
      have hE := Option.some.inj hE
      subst hE
      exact pr R 9999 [.call false [] (.tup [.c (.v (.int .i64 v5.1)), .c (.v (.bool v5.2))]) [] [], .as 70 true] [.mv 920 1000] [900] [1000] (And.intro (stM_ok h4) (And.intro (impl_ParseInt_ok (ByteArray.extract a0.s (Int.toNat a0.at_) (Int.toNat s2)) v5 h6) (And.intro h7 True.intro))) (by kernel_rfl)
    · obtain ⟨v8, h9, hM⟩ := bind_some hM
      rcases cond_cases hM with ⟨h10, hM⟩ | ⟨h10, hM⟩
      · have hE : some (false, (manifestReader.mk a0.s s2 a0.out)) = some r := hM
        have hE := Option.some.inj hE
        subst hE
        exact pr R 9999 [.call false [] (.tup [.c (.v (.int .i64 v5.1)), .c (.v (.bool v5.2))]) [] [], .as 70 false, .call false [] (.o (.c (.v (.bool v8)))) [] [], .as 75 true] [.mv 920 1000] [900] [1000] (And.intro (stM_ok h4) (And.intro (impl_ParseInt_ok (ByteArray.extract a0.s (Int.toNat a0.at_) (Int.toNat s2)) v5 h6) (And.intro h7 (And.intro (impl_within_ok v5.1 1 9999 v8 h9) (And.intro h10 True.intro))))) (by kernel_rfl)
      · rcases cond_cases hM with ⟨h11, hM⟩ | ⟨h11, hM⟩
        · have hE : some (false, (manifestReader.mk a0.s s2 a0.out)) = some r := hM
          have hE := Option.some.inj hE
          subst hE
          exact pr R 9999 [.call false [] (.tup [.c (.v (.int .i64 v5.1)), .c (.v (.bool v5.2))]) [] [], .as 70 false, .call false [] (.o (.c (.v (.bool v8)))) [] [], .as 75 false, .ln (a0.out.length), .as 82 true] [.mv 920 1000] [900] [1000] (And.intro (stM_ok h4) (And.intro (impl_ParseInt_ok (ByteArray.extract a0.s (Int.toNat a0.at_) (Int.toNat s2)) v5 h6) (And.intro h7 (And.intro (impl_within_ok v5.1 1 9999 v8 h9) (And.intro h10 (And.intro (lenm Pair.enc a0.out) (And.intro h11 True.intro))))))) (by kernel_rfl)
        · obtain ⟨v12, h13, hM⟩ := bind_some hM
          rcases cond_cases hM with ⟨h14, hM⟩ | ⟨h14, hM⟩
          · have hE : some (true, (manifestReader.mk a0.s s2 v12)) = some r := hM
            have hE := Option.some.inj hE
            subst hE
            exact pr R 9999 [.call false [] (.tup [.c (.v (.int .i64 v5.1)), .c (.v (.bool v5.2))]) [] [], .as 70 false, .call false [] (.o (.c (.v (.bool v8)))) [] [], .as 75 false, .ln (a0.out.length), .as 82 false, .new 0, .new 1, .nm (v12.map Pair.enc), .as 105 true] [.sw 1 1000] [900] [1000] (And.intro (stM_ok h4) (And.intro (impl_ParseInt_ok (ByteArray.extract a0.s (Int.toNat a0.at_) (Int.toNat s2)) v5 h6) (And.intro h7 (And.intro (impl_within_ok v5.1 1 9999 v8 h9) (And.intro h10 (And.intro (lenm Pair.enc a0.out) (And.intro h11 (And.intro (ap_ok Pair.enc h13) (And.intro h14 True.intro))))))))) (by kernel_rfl)
          · obtain ⟨v15, h16, hM⟩ := bind_some hM
            rcases cond_cases hM with ⟨h17, hM⟩ | ⟨h17, hM⟩
            · have hE : some (true, (manifestReader.mk a0.s s2 v12)) = some r := hM
              have hE := Option.some.inj hE
              subst hE
              exact pr R 9999 [.call false [] (.tup [.c (.v (.int .i64 v5.1)), .c (.v (.bool v5.2))]) [] [], .as 70 false, .call false [] (.o (.c (.v (.bool v8)))) [] [], .as 75 false, .ln (a0.out.length), .as 82 false, .new 0, .new 1, .nm (v12.map Pair.enc), .as 105 false, .ix [.int .u8 v15], .as 116 true] [.sw 1 1000] [900] [1000] (And.intro (stM_ok h4) (And.intro (impl_ParseInt_ok (ByteArray.extract a0.s (Int.toNat a0.at_) (Int.toNat s2)) v5 h6) (And.intro h7 (And.intro (impl_within_ok v5.1 1 9999 v8 h9) (And.intro h10 (And.intro (lenm Pair.enc a0.out) (And.intro h11 (And.intro (ap_ok Pair.enc h13) (And.intro h14 (And.intro (siM_ok h16) (And.intro h17 True.intro))))))))))) (by kernel_rfl)
            · have K2 : ∀ (s22 : ByteArray) (s23 : Int) (s24 : (List Pair)), impl_manifestReader_one_L2_a s22 s23 s24 = some r → Gr R [.code (cAt Tryd.f28 [1, 1, 1, 1, 1, 1, 1, 1, 1])] (⟨[(0, .o (.c (.ptr 900 0)))], [(900, .box 51 [.v (.string s22), .v (.int .i64 s23), .sl 1]), (1, .row 34 2 (s24.map Pair.enc))]⟩) := by
                intro s22 s23 s24 hM
                unfold impl_manifestReader_one_L2_a at hM
                rcases cond_cases hM with ⟨h25, hM⟩ | ⟨h25, hM⟩
                · have hE : some (false, (manifestReader.mk s22 s23 s24)) = some r := hM
                  have hE := Option.some.inj hE
                  subst hE
                  exact pr R 9999 [.as 180 true] [.sw 1 1000] [900] [1000] (And.intro h25 True.intro) (by kernel_rfl)
                · have hE : some (true, (manifestReader.mk s22 (w64 (s23 + 1)) s24)) = some r := hM
                  have hE := Option.some.inj hE
                  subst hE
                  exact pr R 9999 [.as 180 false] [.sw 1 1000] [900] [1000] (And.intro h25 True.intro) (by kernel_rfl)
              refine pc R 9999 [.call false [] (.tup [.c (.v (.int .i64 v5.1)), .c (.v (.bool v5.2))]) [] [], .as 70 false, .call false [] (.o (.c (.v (.bool v8)))) [] [], .as 75 false, .ln (a0.out.length), .as 82 false, .new 0, .new 1, .nm (v12.map Pair.enc), .as 105 false, .ix [.int .u8 v15], .as 116 false] [.keep [0, 6, 8] [900, 1]] (k' := [.code (.loop (cAt Tryd.f28 [1, 1, 1, 1, 1, 1, 1, 1, 0, 1, 0, 0])), .blk 2, .code (cAt Tryd.f28 [1, 1, 1, 1, 1, 1, 1, 1, 1])]) (S' := impl_manifestReader_one_L2_S v5 (a0.s, w64 (s2 + 1), v12, 0)) (And.intro (stM_ok h4) (And.intro (impl_ParseInt_ok (ByteArray.extract a0.s (Int.toNat a0.at_) (Int.toNat s2)) v5 h6) (And.intro h7 (And.intro (impl_within_ok v5.1 1 9999 v8 h9) (And.intro h10 (And.intro (lenm Pair.enc a0.out) (And.intro h11 (And.intro (ap_ok Pair.enc h13) (And.intro h14 (And.intro (siM_ok h16) (And.intro h17 True.intro))))))))))) (by kernel_rfl) ?_
              refine lq (impl_manifestReader_one_L2_S v5) (body := impl_manifestReader_one_L2 self v5) (k := impl_manifestReader_one_L2_k) hM fun m2 s c2 hM hK2 => ?_
              obtain ⟨s18, s19, s20, s21⟩ := s
              have hM : impl_manifestReader_one_L2_b self v5 s18 s19 s20 s21 = some c2 := hM
              unfold impl_manifestReader_one_L2_b at hM
              rcases cond_cases hM with ⟨h26, hM⟩ | ⟨h26, hM⟩
              · obtain ⟨v27, h28, hM⟩ := bind_some hM
                rcases cond_cases hM with ⟨h29, hM⟩ | ⟨h29, hM⟩
                · have J1 : ∀ (s30 : Int), impl_manifestReader_one_j1 self v5 s18 s20 s21 s30 = some c2 → Gr R [.code (cAt Tryd.f28 [1, 1, 1, 1, 1, 1, 1, 1, 0, 1, 0, 0, 1, 0, 0, 1]), .blk 3, .code (cAt Tryd.f28 [1, 1, 1, 1, 1, 1, 1, 1, 0, 1, 0, 0, 1, 1]), .inv (Jr R (impl_manifestReader_one_L2_S v5) (Mk (impl_manifestReader_one_L2 self v5) (impl_manifestReader_one_L2_k) r) (m2 + 1)), .blk 2, .code (cAt Tryd.f28 [1, 1, 1, 1, 1, 1, 1, 1, 1])] (⟨[(0, .o (.c (.ptr 900 0))), (6, .o (.c (.v (.int .i64 v5.1)))), (8, .o (.c (.v (.int .i64 s21))))], [(900, .box 51 [.v (.string s18), .v (.int .i64 s30), .sl 1]), (1, .row 34 2 (s20.map Pair.enc))]⟩) := by
                    intro s30 hM
                    unfold impl_manifestReader_one_j1 at hM
                    obtain ⟨v31, h32, hM⟩ := bind_some hM
                    rcases cond_cases hM with ⟨h33, hM⟩ | ⟨h33, hM⟩
                    · have hE : some (Ctl.ret (false, v31.2)) = some c2 := hM
                      have hE := Option.some.inj hE
                      subst hE
                      have hE : some (false, v31.2) = some r := hK2
                      have hE := Option.some.inj hE
                      subst hE
                      exact pr R 9999 [.ad (.keep [0, 6, 8, 167, 168] [900, 1]), .call true [900, 1] (.o (.c (.v (.bool v31.1)))) [(900, .box 51 [.v (.string v31.2.s), .v (.int .i64 v31.2.at_), .sl 2])] [(2, .row 34 2 (v31.2.out.map Pair.enc))], .as 170 true] [.sw 2 1000] [900] [1000] (And.intro (And.intro (con_sw 920 1 (con_sw 900 900 (con_sw 1000 2 (ih (manifestReader.mk s18 s30 s20) v5.1 v31 h32)))) (rfl : ([900, 1] : List Nat) = [900, 1])) (And.intro h33 True.intro)) (by kernel_rfl)
                    · have hE : some (Ctl.next (v31.2.s, v31.2.at_, v31.2.out, w64 (s21 + 1))) = some c2 := hM
                      have hE := Option.some.inj hE
                      subst hE
                      exact pc R 9999 [.ad (.keep [0, 6, 8, 167, 168] [900, 1]), .call true [900, 1] (.o (.c (.v (.bool v31.1)))) [(900, .box 51 [.v (.string v31.2.s), .v (.int .i64 v31.2.at_), .sl 2])] [(2, .row 34 2 (v31.2.out.map Pair.enc))], .as 170 false] [.sw 2 1, .keep [0, 6, 8] [900, 1]] (And.intro (And.intro (con_sw 920 1 (con_sw 900 900 (con_sw 1000 2 (ih (manifestReader.mk s18 s30 s20) v5.1 v31 h32)))) (rfl : ([900, 1] : List Nat) = [900, 1])) (And.intro h33 True.intro)) (by kernel_rfl) (li (Sf := impl_manifestReader_one_L2_S v5) (M := Mk (impl_manifestReader_one_L2 self v5) (impl_manifestReader_one_L2_k) r) (k := [.blk 2, .code (cAt Tryd.f28 [1, 1, 1, 1, 1, 1, 1, 1, 1])]) (Nat.lt_succ_self m2) hK2)
                  rcases cond_cases hM with ⟨h34, hM⟩ | ⟨h34, hM⟩
                  · obtain ⟨v35, h36, hM⟩ := bind_some hM
                    rcases cond_cases hM with ⟨h37, hM⟩ | ⟨h37, hM⟩
                    · have hE : some (Ctl.ret (false, (manifestReader.mk s18 s19 s20))) = some c2 := hM
                      have hE := Option.some.inj hE
                      subst hE
                      have hE : some (false, (manifestReader.mk s18 s19 s20)) = some r := hK2
                      have hE := Option.some.inj hE
                      subst hE
                      exact pr R 9999 [.as 134 true, .ix [.int .u8 v27], .as 145 true, .as 149 true, .ix [.int .u8 v35], .as 159 true] [.sw 1 1000] [900] [1000] (And.intro h26 (And.intro (siM_ok h28) (And.intro h29 (And.intro h34 (And.intro (siM_ok h36) (And.intro h37 True.intro)))))) (by kernel_rfl)
                    · exact pc R 17 [.as 134 true, .ix [.int .u8 v27], .as 145 true, .as 149 true, .ix [.int .u8 v35], .as 159 false] [.keep [0, 6, 8] [900, 1]] (And.intro h26 (And.intro (siM_ok h28) (And.intro h29 (And.intro h34 (And.intro (siM_ok h36) (And.intro h37 True.intro)))))) (by kernel_rfl) (J1 (w64 (s19 + 1)) hM)
                  · exact pc R 12 [.as 134 true, .ix [.int .u8 v27], .as 145 true, .as 149 false] [.keep [0, 6, 8] [900, 1]] (And.intro h26 (And.intro (siM_ok h28) (And.intro h29 (And.intro h34 True.intro)))) (by kernel_rfl) (J1 s19 hM)
                · have hE : some (Ctl.brk (s18, s19, s20)) = some c2 := hM
                  have hE := Option.some.inj hE
                  subst hE
                  exact pc R 5 [.as 134 true, .ix [.int .u8 v27], .as 145 false] [.keep [0] [900, 1]] (And.intro h26 (And.intro (siM_ok h28) (And.intro h29 True.intro))) (by kernel_rfl) (K2 s18 s19 s20 hK2)
              · have hE : some (Ctl.brk (s18, s19, s20)) = some c2 := hM
                have hE := Option.some.inj hE
                subst hE
                exact pc R 5 [.as 134 false] [.keep [0] [900, 1]] (And.intro h26 True.intro) (by kernel_rfl) (K2 s18 s19 s20 hK2)
  refine pc R 9999 [] [.keep [0, 1, 5] [900, 920]] (k' := [.code (.loop (cAt Tryd.f28 [1, 1, 0, 0, 0])), .blk 0, .code (cAt Tryd.f28 [1, 1, 1])]) (S' := impl_manifestReader_one_L1_S a0 a1 a0.at_) True.intro (by kernel_rfl) ?_
  refine lq (impl_manifestReader_one_L1_S a0 a1) (body := impl_manifestReader_one_L1 a0) (k := impl_manifestReader_one_L1_k self a0 a1) hM fun m1 s c1 hM hK1 => ?_
  obtain ⟨s1, hs⟩ : ∃ z, z = s := ⟨_, rfl⟩
  subst hs
  have hM : impl_manifestReader_one_L1_b a0 s1 = some c1 := hM
  unfold impl_manifestReader_one_L1_b at hM
  rcases cond_cases hM with ⟨h38, hM⟩ | ⟨h38, hM⟩
  · obtain ⟨v39, h40, hM⟩ := bind_some hM
    rcases cond_cases hM with ⟨h41, hM⟩ | ⟨h41, hM⟩
    · obtain ⟨v42, h43, hM⟩ := bind_some hM
      rcases cond_cases hM with ⟨h44, hM⟩ | ⟨h44, hM⟩
      · have hE : some (Ctl.next (w64 (s1 + 1))) = some c1 := hM
        have hE := Option.some.inj hE
        subst hE
        exact pc R 9999 [.as 23 true, .ix [.int .u8 v39], .as 35 true, .ix [.int .u8 v42], .as 46 true] [.keep [0, 1, 5] [900, 920]] (And.intro h38 (And.intro (siM_ok h40) (And.intro h41 (And.intro (siM_ok h43) (And.intro h44 True.intro))))) (by kernel_rfl) (li (Sf := impl_manifestReader_one_L1_S a0 a1) (M := Mk (impl_manifestReader_one_L1 a0) (impl_manifestReader_one_L1_k self a0 a1) r) (k := [.blk 0, .code (cAt Tryd.f28 [1, 1, 1])]) (Nat.lt_succ_self m1) hK1)
      · have hE : some (Ctl.brk s1) = some c1 := hM
        have hE := Option.some.inj hE
        subst hE
        exact pc R 5 [.as 23 true, .ix [.int .u8 v39], .as 35 true, .ix [.int .u8 v42], .as 46 false] [.keep [0, 1, 5] [900, 920]] (And.intro h38 (And.intro (siM_ok h40) (And.intro h41 (And.intro (siM_ok h43) (And.intro h44 True.intro))))) (by kernel_rfl) (K1 s1 hK1)
    · have hE : some (Ctl.brk s1) = some c1 := hM
      have hE := Option.some.inj hE
      subst hE
      exact pc R 5 [.as 23 true, .ix [.int .u8 v39], .as 35 false] [.keep [0, 1, 5] [900, 920]] (And.intro h38 (And.intro (siM_ok h40) (And.intro h41 True.intro))) (by kernel_rfl) (K1 s1 hK1)
  · have hE : some (Ctl.brk s1) = some c1 := hM
    have hE := Option.some.inj hE
    subst hE
    exact pc R 5 [.as 23 false] [.keep [0, 1, 5] [900, 920]] (And.intro h38 True.intro) (by kernel_rfl) (K1 s1 hK1)
theorem impl_manifestReader_one_nok : ∀ (n : Nat) (a0 : manifestReader) (a1 : Int) (r : Bool × manifestReader), impl_manifestReader_one_n n a0 a1 = some r →
    Con Tryd.prog 28 [.c (.ptr 900 0), .c (.v (.int .i64 a1))] [(900, .box 51 [.v (.string a0.s), .v (.int .i64 a0.at_), .sl 920]), (920, .row 34 2 (a0.out.map Pair.enc))] (.o (.c (.v (.bool r.1)))) [(900, .box 51 [.v (.string r.2.s), .v (.int .i64 r.2.at_), .sl 1000])] [(1000, .row 34 2 (r.2.out.map Pair.enc))]
  | 0, _, _, _, h => by cases h
  | n + 1, a0, a1, r, h => impl_manifestReader_one_step (impl_manifestReader_one_n n) (impl_manifestReader_one_nok n) a0 a1 r h
theorem impl_manifestReader_one_ok (a0 : manifestReader) (a1 : Int) (r : Bool × manifestReader) (h : impl_manifestReader_one a0 a1 = some r) :
    Con Tryd.prog 28 [.c (.ptr 900 0), .c (.v (.int .i64 a1))] [(900, .box 51 [.v (.string a0.s), .v (.int .i64 a0.at_), .sl 920]), (920, .row 34 2 (a0.out.map Pair.enc))] (.o (.c (.v (.bool r.1)))) [(900, .box 51 [.v (.string r.2.s), .v (.int .i64 r.2.at_), .sl 1000])] [(1000, .row 34 2 (r.2.out.map Pair.enc))] := impl_manifestReader_one_nok big a0 a1 r h

-- loop.example/g03014/impl.ReadManifest
def impl_ReadManifest (a0 : ByteArray) : Option ((List Pair) × Bool) :=
  (impl_manifestReader_one (manifestReader.mk a0 0 ([])) 0).bind fun v1 =>
  bif (!v1.1) then
  some (([] : List Pair), false)
  else
  bif (v1.2.at_ != (a0.size : Int)) then
  some (([] : List Pair), false)
  else
  some (v1.2.out, true)
theorem impl_ReadManifest_ok (a0 : ByteArray) (r : (List Pair) × Bool) (hM : impl_ReadManifest a0 = some r) :
    Con Tryd.prog 10 [.c (.v (.string a0))] [] (.tup [.c (.sl 1000), .c (.v (.bool r.2))]) [] [(1000, .row 34 2 (r.1.map Pair.enc))] := by
  unfold impl_ReadManifest at hM
  refine cn (N := 24) (pids := []) Tryd_mixed Tryd.func10 (by kernel_rfl) (by kernel_rfl) (by kernel_rfl) rfl fun ρ g w R => ?_
  obtain ⟨v1, h2, hM⟩ := bind_some hM
  rcases cond_cases hM with ⟨h3, hM⟩ | ⟨h3, hM⟩
  · have hE : some (([] : List Pair), false) = some r := hM
    have hE := Option.some.inj hE
    subst hE
    exact pr R 9999 [.new 0, .ad (.nb 0 2 2 34 2), .ad (.keep [0, 2, 3, 4, 5, 6, 7, 8] [0, 2]), .call true [0, 2] (.o (.c (.v (.bool v1.1)))) [(0, .box 51 [.v (.string v1.2.s), .v (.int .i64 v1.2.at_), .sl 1])] [(1, .row 34 2 (v1.2.out.map Pair.enc))], .as 11 true] [.nl 2 1000 34 2] [] [1000] (And.intro (And.intro (con_sw 920 2 (con_sw 900 0 (con_sw 1000 1 (impl_manifestReader_one_ok (manifestReader.mk a0 0 ([])) 0 v1 h2)))) (rfl : ([0, 2] : List Nat) = [0, 2])) (And.intro h3 True.intro)) (by kernel_rfl)
  · rcases cond_cases hM with ⟨h4, hM⟩ | ⟨h4, hM⟩
    · have hE : some (([] : List Pair), false) = some r := hM
      have hE := Option.some.inj hE
      subst hE
      exact pr R 9999 [.new 0, .ad (.nb 0 2 2 34 2), .ad (.keep [0, 2, 3, 4, 5, 6, 7, 8] [0, 2]), .call true [0, 2] (.o (.c (.v (.bool v1.1)))) [(0, .box 51 [.v (.string v1.2.s), .v (.int .i64 v1.2.at_), .sl 1])] [(1, .row 34 2 (v1.2.out.map Pair.enc))], .as 11 false, .as 19 true] [.nl 2 1000 34 2] [] [1000] (And.intro (And.intro (con_sw 920 2 (con_sw 900 0 (con_sw 1000 1 (impl_manifestReader_one_ok (manifestReader.mk a0 0 ([])) 0 v1 h2)))) (rfl : ([0, 2] : List Nat) = [0, 2])) (And.intro h3 (And.intro h4 True.intro))) (by kernel_rfl)
    · have hE : some (v1.2.out, true) = some r := hM
      have hE := Option.some.inj hE
      subst hE
      exact pr R 9999 [.new 0, .ad (.nb 0 2 2 34 2), .ad (.keep [0, 2, 3, 4, 5, 6, 7, 8] [0, 2]), .call true [0, 2] (.o (.c (.v (.bool v1.1)))) [(0, .box 51 [.v (.string v1.2.s), .v (.int .i64 v1.2.at_), .sl 1])] [(1, .row 34 2 (v1.2.out.map Pair.enc))], .as 11 false, .as 19 false] [.sw 1 1000] [] [1000] (And.intro (And.intro (con_sw 920 2 (con_sw 900 0 (con_sw 1000 1 (impl_manifestReader_one_ok (manifestReader.mk a0 0 ([])) 0 v1 h2)))) (rfl : ([0, 2] : List Nat) = [0, 2])) (And.intro h3 (And.intro h4 True.intro))) (by kernel_rfl)

-- loop.example/g03014/impl.hasInt
def impl_hasInt_L1_b (a0 : (List Int)) (a1 : Int) (s1 : Int) : Option (Ctl Int Unit Bool) :=
  bif (decide (s1 < (a0.length : Int))) then
  (gi a0 s1).bind fun v3 =>
  bif (v3 == a1) then
  some (.ret true)
  else
  some (.next (w64 (s1 + 1)))
  else
  some (.brk ())
def impl_hasInt_L1 (a0 : (List Int)) (a1 : Int) (s : Int) : Option (Ctl Int Unit Bool) := impl_hasInt_L1_b a0 a1 s
def impl_hasInt_L1_s (a0 : (List Int)) (a1 : Int) (s1 : Int) : St := ⟨[(1, .o (.c (.v (.int .i64 a1)))), (7, .o (.c (.rs 1 (a0.map encI)))), (8, .o (.c (.v (.int .i64 (a0.length : Int))))), (9, .o (.c (.v (.int .i64 s1))))], []⟩
def impl_hasInt_L1_S (a0 : (List Int)) (a1 : Int) (s : Int) : St := impl_hasInt_L1_s a0 a1 s
def impl_hasInt_L1_a : Option Bool :=
  some false
def impl_hasInt_L1_k (x : (Unit) ⊕ (Bool)) : Option Bool := match x with
  | .inl t => impl_hasInt_L1_a
  | .inr y => some y
def impl_hasInt (a0 : (List Int)) (a1 : Int) : Option Bool :=
  (loopM (impl_hasInt_L1 a0 a1) big 0).bind (impl_hasInt_L1_k)
theorem impl_hasInt_ok (a0 : (List Int)) (a1 : Int) (r : Bool) (hM : impl_hasInt a0 a1 = some r) :
    Con Tryd.prog 29 [.c (.rs 1 (a0.map encI)), .c (.v (.int .i64 a1))] [] (.o (.c (.v (.bool r)))) [] [] := by
  unfold impl_hasInt at hM
  refine cn (N := 17) (pids := []) Tryd_mixed Tryd.func29 (by kernel_rfl) (by kernel_rfl) (by kernel_rfl) rfl fun ρ g w R => ?_
  have K1 : ∀ (_ : Unit), impl_hasInt_L1_a = some r → Gr R [.code (cAt Tryd.f29 [1, 1])] (⟨[], []⟩) := by
    intro _ hM
    unfold impl_hasInt_L1_a at hM
    have hE : some false = some r := hM
    have hE := Option.some.inj hE
    subst hE
    exact pr R 9999 [] [] [] [] True.intro (by kernel_rfl)
  refine pc R 9999 [.ln (a0.length)] [.keep [1, 7, 8, 9] []] (k' := [.code (.loop (cAt Tryd.f29 [1, 0, 1, 0, 0])), .blk 0, .code (cAt Tryd.f29 [1, 1])]) (S' := impl_hasInt_L1_S a0 a1 0) (And.intro (lenm encI a0) True.intro) (by kernel_rfl) ?_
  refine lq (impl_hasInt_L1_S a0 a1) (body := impl_hasInt_L1 a0 a1) (k := impl_hasInt_L1_k) hM fun m1 s c1 hM hK1 => ?_
  obtain ⟨s1, hs⟩ : ∃ z, z = s := ⟨_, rfl⟩
  subst hs
  have hM : impl_hasInt_L1_b a0 a1 s1 = some c1 := hM
  unfold impl_hasInt_L1_b at hM
  rcases cond_cases hM with ⟨h2, hM⟩ | ⟨h2, hM⟩
  · obtain ⟨v3, h4, hM⟩ := bind_some hM
    rcases cond_cases hM with ⟨h5, hM⟩ | ⟨h5, hM⟩
    · have hE : some (Ctl.ret true) = some c1 := hM
      have hE := Option.some.inj hE
      subst hE
      have hE : some true = some r := hK1
      have hE := Option.some.inj hE
      subst hE
      exact pr R 9999 [.as 10 true, .ix (encI v3), .as 15 true] [] [] [] (And.intro h2 (And.intro (gi_map encI h4) (And.intro h5 True.intro))) (by kernel_rfl)
    · have hE : some (Ctl.next (w64 (s1 + 1))) = some c1 := hM
      have hE := Option.some.inj hE
      subst hE
      exact pc R 9999 [.as 10 true, .ix (encI v3), .as 15 false] [.keep [1, 7, 8, 9] []] (And.intro h2 (And.intro (gi_map encI h4) (And.intro h5 True.intro))) (by kernel_rfl) (li (Sf := impl_hasInt_L1_S a0 a1) (M := Mk (impl_hasInt_L1 a0 a1) (impl_hasInt_L1_k) r) (k := [.blk 0, .code (cAt Tryd.f29 [1, 1])]) (Nat.lt_succ_self m1) hK1)
  · have hE : some (Ctl.brk ()) = some c1 := hM
    have hE := Option.some.inj hE
    subst hE
    exact pc R 5 [.as 10 false] [.keep [] []] (And.intro h2 True.intro) (by kernel_rfl) (K1 () hK1)

-- loop.example/g03014/impl.AllInside
def impl_AllInside_L1_b (a0 : (List Thing)) (a1 : Int) (s4 : (List Int)) (s5 : Int) : Option (Ctl ((List Int) × Int) (List Int) (List Int)) :=
  bif (decide (s5 < (a0.length : Int))) then
  (gi a0 s5).bind fun v8 =>
  (impl_around a0 v8.Id).bind fun v10 =>
  (impl_hasInt v10 a1).bind fun v12 =>
  bif v12 then
  (ap 8 s4 ([v8.Id] : List Int)).bind fun v15 =>
  some (.next (v15, w64 (s5 + 1)))
  else
  some (.next (s4, w64 (s5 + 1)))
  else
  some (.brk s4)
def impl_AllInside_L1 (a0 : (List Thing)) (a1 : Int) (s : (List Int) × Int) : Option (Ctl ((List Int) × Int) (List Int) (List Int)) := impl_AllInside_L1_b a0 a1 s.1 s.2
def impl_AllInside_L1_s (a0 : (List Thing)) (a1 : Int) (s4 : (List Int)) (s5 : Int) : St := ⟨[(0, .o (.c (.rs 6 (a0.map Thing.enc)))), (1, .o (.c (.v (.int .i64 a1)))), (5, .o (.c (.sl 0))), (14, .o (.c (.rs 6 (a0.map Thing.enc)))), (15, .o (.c (.v (.int .i64 (a0.length : Int))))), (16, .o (.c (.v (.int .i64 s5))))], [(0, .row 3 1 (s4.map encI))]⟩
def impl_AllInside_L1_S (a0 : (List Thing)) (a1 : Int) (s : (List Int) × Int) : St := impl_AllInside_L1_s a0 a1 s.1 s.2
def impl_AllInside_L1_a (s6 : (List Int)) : Option (List Int) :=
  some s6
def impl_AllInside_L1_k (x : ((List Int)) ⊕ ((List Int))) : Option (List Int) := match x with
  | .inl t => impl_AllInside_L1_a t
  | .inr y => some y
def impl_AllInside (a0 : (List Thing)) (a1 : Int) : Option (List Int) :=
  (impl_isThing a0 a1).bind fun v1 =>
  bif (!v1) then
  some ([] : List Int)
  else
  (loopM (impl_AllInside_L1 a0 a1) big (([] : List Int), 0)).bind (impl_AllInside_L1_k)
theorem impl_AllInside_ok (a0 : (List Thing)) (a1 : Int) (r : (List Int)) (hM : impl_AllInside a0 a1 = some r) :
    Con Tryd.prog 11 [.c (.rs 6 (a0.map Thing.enc)), .c (.v (.int .i64 a1))] [] (.o (.c (.sl 1000))) [] [(1000, .row 3 1 (r.map encI))] := by
  unfold impl_AllInside at hM
  refine cn (N := 33) (pids := []) Tryd_mixed Tryd.func11 (by kernel_rfl) (by kernel_rfl) (by kernel_rfl) rfl fun ρ g w R => ?_
  obtain ⟨v1, h2, hM⟩ := bind_some hM
  rcases cond_cases hM with ⟨h3, hM⟩ | ⟨h3, hM⟩
  · have hE : some ([] : List Int) = some r := hM
    have hE := Option.some.inj hE
    subst hE
    exact pr R 9999 [.new 0, .call false [] (.o (.c (.v (.bool v1)))) [] [], .as 12 true] [.sw 0 1000] [] [1000] (And.intro (impl_isThing_ok a0 a1 v1 h2) (And.intro h3 True.intro)) (by kernel_rfl)
  · have K1 : ∀ (s6 : (List Int)), impl_AllInside_L1_a s6 = some r → Gr R [.code (cAt Tryd.f11 [1, 1, 1, 1])] (⟨[(5, .o (.c (.sl 0)))], [(0, .row 3 1 (s6.map encI))]⟩) := by
      intro s6 hM
      unfold impl_AllInside_L1_a at hM
      have hE : some s6 = some r := hM
      have hE := Option.some.inj hE
      subst hE
      exact pr R 9999 [] [.sw 0 1000] [] [1000] True.intro (by kernel_rfl)
    refine pc R 9999 [.new 0, .call false [] (.o (.c (.v (.bool v1)))) [] [], .as 12 false, .ln (a0.length)] [.keep [0, 1, 5, 14, 15, 16] [0]] (k' := [.code (.loop (cAt Tryd.f11 [1, 1, 1, 0, 1, 0, 0])), .blk 0, .code (cAt Tryd.f11 [1, 1, 1, 1])]) (S' := impl_AllInside_L1_S a0 a1 (([] : List Int), 0)) (And.intro (impl_isThing_ok a0 a1 v1 h2) (And.intro h3 (And.intro (lenm Thing.enc a0) True.intro))) (by kernel_rfl) ?_
    refine lq (impl_AllInside_L1_S a0 a1) (body := impl_AllInside_L1 a0 a1) (k := impl_AllInside_L1_k) hM fun m1 s c1 hM hK1 => ?_
    obtain ⟨s4, s5⟩ := s
    have hM : impl_AllInside_L1_b a0 a1 s4 s5 = some c1 := hM
    unfold impl_AllInside_L1_b at hM
    rcases cond_cases hM with ⟨h7, hM⟩ | ⟨h7, hM⟩
    · obtain ⟨v8, h9, hM⟩ := bind_some hM
      obtain ⟨v10, h11, hM⟩ := bind_some hM
      obtain ⟨v12, h13, hM⟩ := bind_some hM
      rcases cond_cases hM with ⟨h14, hM⟩ | ⟨h14, hM⟩
      · obtain ⟨v15, h16, hM⟩ := bind_some hM
        have hE : some (Ctl.next (v15, w64 (s5 + 1))) = some c1 := hM
        have hE := Option.some.inj hE
        subst hE
        exact pc R 9999 [.as 17 true, .ix (Thing.enc v8), .new 1, .call false [] (.o (.c (.sl 2))) [] [(2, .row 3 1 (v10.map encI))], .call false [] (.o (.c (.v (.bool v12)))) [] [], .as 25 true, .new 3, .new 4, .nm (v15.map encI)] [.sw 4 0, .keep [0, 1, 5, 14, 15, 16] [0]] (And.intro h7 (And.intro (gi_map Thing.enc h9) (And.intro (And.intro (con_sw 1000 2 (impl_around_ok a0 v8.Id v10 h11)) (rfl : ([] : List Nat) = [])) (And.intro (impl_hasInt_ok v10 a1 v12 h13) (And.intro h14 (And.intro (ap_ok encI h16) True.intro)))))) (by kernel_rfl) (li (Sf := impl_AllInside_L1_S a0 a1) (M := Mk (impl_AllInside_L1 a0 a1) (impl_AllInside_L1_k) r) (k := [.blk 0, .code (cAt Tryd.f11 [1, 1, 1, 1])]) (Nat.lt_succ_self m1) hK1)
      · have hE : some (Ctl.next (s4, w64 (s5 + 1))) = some c1 := hM
        have hE := Option.some.inj hE
        subst hE
        exact pc R 9999 [.as 17 true, .ix (Thing.enc v8), .new 1, .call false [] (.o (.c (.sl 2))) [] [(2, .row 3 1 (v10.map encI))], .call false [] (.o (.c (.v (.bool v12)))) [] [], .as 25 false] [.keep [0, 1, 5, 14, 15, 16] [0]] (And.intro h7 (And.intro (gi_map Thing.enc h9) (And.intro (And.intro (con_sw 1000 2 (impl_around_ok a0 v8.Id v10 h11)) (rfl : ([] : List Nat) = [])) (And.intro (impl_hasInt_ok v10 a1 v12 h13) (And.intro h14 True.intro))))) (by kernel_rfl) (li (Sf := impl_AllInside_L1_S a0 a1) (M := Mk (impl_AllInside_L1 a0 a1) (impl_AllInside_L1_k) r) (k := [.blk 0, .code (cAt Tryd.f11 [1, 1, 1, 1])]) (Nat.lt_succ_self m1) hK1)
    · have hE : some (Ctl.brk s4) = some c1 := hM
      have hE := Option.some.inj hE
      subst hE
      exact pc R 5 [.as 17 false] [.keep [5] [0]] (And.intro h7 True.intro) (by kernel_rfl) (K1 s4 hK1)

-- loop.example/g03014/laws.FnManifest
def laws_FnManifest_L1_b (v4 : ((List Thing) × Int)) (v11 : ((List Pair) × Bool)) (s24 : Int) : Option (Ctl Int Unit Bool) :=
  bif (decide (s24 < (v11.1.length : Int))) then
  (gi v11.1 s24).bind fun v26 =>
  (impl_FindThing v4.1 v26.Id).bind fun v28 =>
  bif (decide (v28 < 0)) then
  some (.ret false)
  else
  (gi v4.1 v28).bind fun v31 =>
  (gi v11.1 s24).bind fun v33 =>
  bif (v31.In != v33.In) then
  some (.ret false)
  else
  some (.next (w64 (s24 + 1)))
  else
  some (.brk ())
def laws_FnManifest_L1 (v4 : ((List Thing) × Int)) (v11 : ((List Pair) × Bool)) (s : Int) : Option (Ctl Int Unit Bool) := laws_FnManifest_L1_b v4 v11 s
def laws_FnManifest_L1_s (v4 : ((List Thing) × Int)) (v11 : ((List Pair) × Bool)) (s24 : Int) : St := ⟨[(3, .o (.c (.sl 0))), (6, .o (.c (.sl 1))), (8, .o (.c (.v (.int .i64 s24))))], [(0, .row 37 6 (v4.1.map Thing.enc)), (1, .row 34 2 (v11.1.map Pair.enc))]⟩
def laws_FnManifest_L1_S (v4 : ((List Thing) × Int)) (v11 : ((List Pair) × Bool)) (s : Int) : St := laws_FnManifest_L1_s v4 v11 s
def laws_FnManifest_L1_a : Option Bool :=
  some true
def laws_FnManifest_L1_k (x : (Unit) ⊕ (Bool)) : Option Bool := match x with
  | .inl t => laws_FnManifest_L1_a
  | .inr y => some y
def laws_FnManifest (a0 : (List Int)) : Option Bool :=
  (laws_big a0).bind fun v1 =>
  bif v1 then
  some true
  else
  (spec_DrawManifest a0).bind fun v4 =>
  (impl_Manifest v4.1 v4.2).bind fun v6 =>
  (spec_Manifest v4.1 v4.2).bind fun v8 =>
  bif (!(v6.toList == v8.toList)) then
  some false
  else
  (impl_ReadManifest v6).bind fun v11 =>
  bif (v6.toList == (ByteArray.mk #[]).toList) then
  some (!v11.2)
  else
  bif (!v11.2) then
  some false
  else
  (impl_AllInside v4.1 v4.2).bind fun v15 =>
  bif ((v11.1.length : Int) != (w64 (1 + (v15.length : Int)))) then
  some false
  else
  (gi v11.1 0).bind fun v18 =>
  bif (v18.Id != v4.2) then
  some false
  else
  (gi v11.1 0).bind fun v21 =>
  bif (v21.In != 0) then
  some false
  else
  (loopM (laws_FnManifest_L1 v4 v11) big 1).bind (laws_FnManifest_L1_k)
theorem laws_FnManifest_ok (a0 : (List Int)) (r : Bool) (hM : laws_FnManifest a0 = some r) :
    Con Tryd.prog 3 [.c (.rs 1 (a0.map encU8))] [] (.o (.c (.v (.bool r)))) [] [] := by
  unfold laws_FnManifest at hM
  refine cn (N := 89) (pids := []) Tryd_mixed Tryd.func3 (by kernel_rfl) (by kernel_rfl) (by kernel_rfl) rfl fun ρ g w R => ?_
  obtain ⟨v1, h2, hM⟩ := bind_some hM
  rcases cond_cases hM with ⟨h3, hM⟩ | ⟨h3, hM⟩
  · have hE : some true = some r := hM
    have hE := Option.some.inj hE
    subst hE
    exact pr R 9999 [.call false [] (.o (.c (.v (.bool v1)))) [] [], .as 11 true] [] [] [] (And.intro (laws_big_ok a0 v1 h2) (And.intro h3 True.intro)) (by kernel_rfl)
  · obtain ⟨v4, h5, hM⟩ := bind_some hM
    obtain ⟨v6, h7, hM⟩ := bind_some hM
    obtain ⟨v8, h9, hM⟩ := bind_some hM
    rcases cond_cases hM with ⟨h10, hM⟩ | ⟨h10, hM⟩
    · have hE : some false = some r := hM
      have hE := Option.some.inj hE
      subst hE
      exact pr R 9999 [.call false [] (.o (.c (.v (.bool v1)))) [] [], .as 11 false, .call false [] (.tup [.c (.sl 0), .c (.v (.int .i64 v4.2))]) [] [(0, .row 37 6 (v4.1.map Thing.enc))], .call false [] (.o (.c (.v (.string v6)))) [] [], .call false [] (.o (.c (.v (.string v8)))) [] [], .as 24 true] [] [] [] (And.intro (laws_big_ok a0 v1 h2) (And.intro h3 (And.intro (And.intro (con_sw 1000 0 (spec_DrawManifest_ok a0 v4 h5)) (rfl : ([] : List Nat) = [])) (And.intro (impl_Manifest_ok v4.1 v4.2 v6 h7) (And.intro (spec_Manifest_ok v4.1 v4.2 v8 h9) (And.intro h10 True.intro)))))) (by kernel_rfl)
    · obtain ⟨v11, h12, hM⟩ := bind_some hM
      rcases cond_cases hM with ⟨h13, hM⟩ | ⟨h13, hM⟩
      · have hE : some (!v11.2) = some r := hM
        have hE := Option.some.inj hE
        subst hE
        exact pr R 9999 [.call false [] (.o (.c (.v (.bool v1)))) [] [], .as 11 false, .call false [] (.tup [.c (.sl 0), .c (.v (.int .i64 v4.2))]) [] [(0, .row 37 6 (v4.1.map Thing.enc))], .call false [] (.o (.c (.v (.string v6)))) [] [], .call false [] (.o (.c (.v (.string v8)))) [] [], .as 24 false, .call false [] (.tup [.c (.sl 1), .c (.v (.bool v11.2))]) [] [(1, .row 34 2 (v11.1.map Pair.enc))], .as 31 true] [] [] [] (And.intro (laws_big_ok a0 v1 h2) (And.intro h3 (And.intro (And.intro (con_sw 1000 0 (spec_DrawManifest_ok a0 v4 h5)) (rfl : ([] : List Nat) = [])) (And.intro (impl_Manifest_ok v4.1 v4.2 v6 h7) (And.intro (spec_Manifest_ok v4.1 v4.2 v8 h9) (And.intro h10 (And.intro (And.intro (con_sw 1000 1 (impl_ReadManifest_ok v6 v11 h12)) (rfl : ([] : List Nat) = [])) (And.intro h13 True.intro)))))))) (by kernel_rfl)
      · rcases cond_cases hM with ⟨h14, hM⟩ | ⟨h14, hM⟩
        · have hE : some false = some r := hM
          have hE := Option.some.inj hE
          subst hE
          exact pr R 9999 [.call false [] (.o (.c (.v (.bool v1)))) [] [], .as 11 false, .call false [] (.tup [.c (.sl 0), .c (.v (.int .i64 v4.2))]) [] [(0, .row 37 6 (v4.1.map Thing.enc))], .call false [] (.o (.c (.v (.string v6)))) [] [], .call false [] (.o (.c (.v (.string v8)))) [] [], .as 24 false, .call false [] (.tup [.c (.sl 1), .c (.v (.bool v11.2))]) [] [(1, .row 34 2 (v11.1.map Pair.enc))], .as 31 false, .as 36 true] [] [] [] (And.intro (laws_big_ok a0 v1 h2) (And.intro h3 (And.intro (And.intro (con_sw 1000 0 (spec_DrawManifest_ok a0 v4 h5)) (rfl : ([] : List Nat) = [])) (And.intro (impl_Manifest_ok v4.1 v4.2 v6 h7) (And.intro (spec_Manifest_ok v4.1 v4.2 v8 h9) (And.intro h10 (And.intro (And.intro (con_sw 1000 1 (impl_ReadManifest_ok v6 v11 h12)) (rfl : ([] : List Nat) = [])) (And.intro h13 (And.intro h14 True.intro))))))))) (by kernel_rfl)
        · obtain ⟨v15, h16, hM⟩ := bind_some hM
          rcases cond_cases hM with ⟨h17, hM⟩ | ⟨h17, hM⟩
          · have hE : some false = some r := hM
            have hE := Option.some.inj hE
            subst hE
            exact pr R 9999 [.call false [] (.o (.c (.v (.bool v1)))) [] [], .as 11 false, .call false [] (.tup [.c (.sl 0), .c (.v (.int .i64 v4.2))]) [] [(0, .row 37 6 (v4.1.map Thing.enc))], .call false [] (.o (.c (.v (.string v6)))) [] [], .call false [] (.o (.c (.v (.string v8)))) [] [], .as 24 false, .call false [] (.tup [.c (.sl 1), .c (.v (.bool v11.2))]) [] [(1, .row 34 2 (v11.1.map Pair.enc))], .as 31 false, .as 36 false, .ln (v11.1.length), .call false [] (.o (.c (.sl 2))) [] [(2, .row 3 1 (v15.map encI))], .ln (v15.length), .as 46 true] [] [] [] (And.intro (laws_big_ok a0 v1 h2) (And.intro h3 (And.intro (And.intro (con_sw 1000 0 (spec_DrawManifest_ok a0 v4 h5)) (rfl : ([] : List Nat) = [])) (And.intro (impl_Manifest_ok v4.1 v4.2 v6 h7) (And.intro (spec_Manifest_ok v4.1 v4.2 v8 h9) (And.intro h10 (And.intro (And.intro (con_sw 1000 1 (impl_ReadManifest_ok v6 v11 h12)) (rfl : ([] : List Nat) = [])) (And.intro h13 (And.intro h14 (And.intro (lenm Pair.enc v11.1) (And.intro (And.intro (con_sw 1000 2 (impl_AllInside_ok v4.1 v4.2 v15 h16)) (rfl : ([] : List Nat) = [])) (And.intro (lenm encI v15) (And.intro h17 True.intro))))))))))))) (by kernel_rfl)
          · obtain ⟨v18, h19, hM⟩ := bind_some hM
            rcases cond_cases hM with ⟨h20, hM⟩ | ⟨h20, hM⟩
            · have hE : some false = some r := hM
              have hE := Option.some.inj hE
              subst hE
              exact pr R 9999 [.call false [] (.o (.c (.v (.bool v1)))) [] [], .as 11 false, .call false [] (.tup [.c (.sl 0), .c (.v (.int .i64 v4.2))]) [] [(0, .row 37 6 (v4.1.map Thing.enc))], .call false [] (.o (.c (.v (.string v6)))) [] [], .call false [] (.o (.c (.v (.string v8)))) [] [], .as 24 false, .call false [] (.tup [.c (.sl 1), .c (.v (.bool v11.2))]) [] [(1, .row 34 2 (v11.1.map Pair.enc))], .as 31 false, .as 36 false, .ln (v11.1.length), .call false [] (.o (.c (.sl 2))) [] [(2, .row 3 1 (v15.map encI))], .ln (v15.length), .as 46 false, .ix (Pair.enc v18), .as 54 true] [] [] [] (And.intro (laws_big_ok a0 v1 h2) (And.intro h3 (And.intro (And.intro (con_sw 1000 0 (spec_DrawManifest_ok a0 v4 h5)) (rfl : ([] : List Nat) = [])) (And.intro (impl_Manifest_ok v4.1 v4.2 v6 h7) (And.intro (spec_Manifest_ok v4.1 v4.2 v8 h9) (And.intro h10 (And.intro (And.intro (con_sw 1000 1 (impl_ReadManifest_ok v6 v11 h12)) (rfl : ([] : List Nat) = [])) (And.intro h13 (And.intro h14 (And.intro (lenm Pair.enc v11.1) (And.intro (And.intro (con_sw 1000 2 (impl_AllInside_ok v4.1 v4.2 v15 h16)) (rfl : ([] : List Nat) = [])) (And.intro (lenm encI v15) (And.intro h17 (And.intro (gi_lt Pair.enc h19) (And.intro ((gi_map Pair.enc h19).2) (And.intro h20 True.intro)))))))))))))))) (by kernel_rfl)
            · obtain ⟨v21, h22, hM⟩ := bind_some hM
              rcases cond_cases hM with ⟨h23, hM⟩ | ⟨h23, hM⟩
              · have hE : some false = some r := hM
                have hE := Option.some.inj hE
                subst hE
                exact pr R 9999 [.call false [] (.o (.c (.v (.bool v1)))) [] [], .as 11 false, .call false [] (.tup [.c (.sl 0), .c (.v (.int .i64 v4.2))]) [] [(0, .row 37 6 (v4.1.map Thing.enc))], .call false [] (.o (.c (.v (.string v6)))) [] [], .call false [] (.o (.c (.v (.string v8)))) [] [], .as 24 false, .call false [] (.tup [.c (.sl 1), .c (.v (.bool v11.2))]) [] [(1, .row 34 2 (v11.1.map Pair.enc))], .as 31 false, .as 36 false, .ln (v11.1.length), .call false [] (.o (.c (.sl 2))) [] [(2, .row 3 1 (v15.map encI))], .ln (v15.length), .as 46 false, .ix (Pair.enc v18), .as 54 false, .ix (Pair.enc v21), .as 60 true] [] [] [] (And.intro (laws_big_ok a0 v1 h2) (And.intro h3 (And.intro (And.intro (con_sw 1000 0 (spec_DrawManifest_ok a0 v4 h5)) (rfl : ([] : List Nat) = [])) (And.intro (impl_Manifest_ok v4.1 v4.2 v6 h7) (And.intro (spec_Manifest_ok v4.1 v4.2 v8 h9) (And.intro h10 (And.intro (And.intro (con_sw 1000 1 (impl_ReadManifest_ok v6 v11 h12)) (rfl : ([] : List Nat) = [])) (And.intro h13 (And.intro h14 (And.intro (lenm Pair.enc v11.1) (And.intro (And.intro (con_sw 1000 2 (impl_AllInside_ok v4.1 v4.2 v15 h16)) (rfl : ([] : List Nat) = [])) (And.intro (lenm encI v15) (And.intro h17 (And.intro (gi_lt Pair.enc h19) (And.intro ((gi_map Pair.enc h19).2) (And.intro h20 (And.intro (gi_lt Pair.enc h22) (And.intro ((gi_map Pair.enc h22).2) (And.intro h23 True.intro))))))))))))))))))) (by kernel_rfl)
              · have K1 : ∀ (_ : Unit), laws_FnManifest_L1_a = some r → Gr R [.code (cAt Tryd.f3 [1, 1, 1, 1, 1, 1, 1, 1, 1])] (⟨[], []⟩) := by
                  intro _ hM
                  unfold laws_FnManifest_L1_a at hM
                  have hE : some true = some r := hM
                  have hE := Option.some.inj hE
                  subst hE
                  exact pr R 9999 [] [] [] [] True.intro (by kernel_rfl)
                refine pc R 9999 [.call false [] (.o (.c (.v (.bool v1)))) [] [], .as 11 false, .call false [] (.tup [.c (.sl 0), .c (.v (.int .i64 v4.2))]) [] [(0, .row 37 6 (v4.1.map Thing.enc))], .call false [] (.o (.c (.v (.string v6)))) [] [], .call false [] (.o (.c (.v (.string v8)))) [] [], .as 24 false, .call false [] (.tup [.c (.sl 1), .c (.v (.bool v11.2))]) [] [(1, .row 34 2 (v11.1.map Pair.enc))], .as 31 false, .as 36 false, .ln (v11.1.length), .call false [] (.o (.c (.sl 2))) [] [(2, .row 3 1 (v15.map encI))], .ln (v15.length), .as 46 false, .ix (Pair.enc v18), .as 54 false, .ix (Pair.enc v21), .as 60 false] [.keep [3, 6, 8] [0, 1]] (k' := [.code (.loop (cAt Tryd.f3 [1, 1, 1, 1, 1, 1, 1, 1, 0, 1, 0, 0])), .blk 0, .code (cAt Tryd.f3 [1, 1, 1, 1, 1, 1, 1, 1, 1])]) (S' := laws_FnManifest_L1_S v4 v11 1) (And.intro (laws_big_ok a0 v1 h2) (And.intro h3 (And.intro (And.intro (con_sw 1000 0 (spec_DrawManifest_ok a0 v4 h5)) (rfl : ([] : List Nat) = [])) (And.intro (impl_Manifest_ok v4.1 v4.2 v6 h7) (And.intro (spec_Manifest_ok v4.1 v4.2 v8 h9) (And.intro h10 (And.intro (And.intro (con_sw 1000 1 (impl_ReadManifest_ok v6 v11 h12)) (rfl : ([] : List Nat) = [])) (And.intro h13 (And.intro h14 (And.intro (lenm Pair.enc v11.1) (And.intro (And.intro (con_sw 1000 2 (impl_AllInside_ok v4.1 v4.2 v15 h16)) (rfl : ([] : List Nat) = [])) (And.intro (lenm encI v15) (And.intro h17 (And.intro (gi_lt Pair.enc h19) (And.intro ((gi_map Pair.enc h19).2) (And.intro h20 (And.intro (gi_lt Pair.enc h22) (And.intro ((gi_map Pair.enc h22).2) (And.intro h23 True.intro))))))))))))))))))) (by kernel_rfl) ?_
                refine lq (laws_FnManifest_L1_S v4 v11) (body := laws_FnManifest_L1 v4 v11) (k := laws_FnManifest_L1_k) hM fun m1 s c1 hM hK1 => ?_
                obtain ⟨s24, hs⟩ : ∃ z, z = s := ⟨_, rfl⟩
                subst hs
                have hM : laws_FnManifest_L1_b v4 v11 s24 = some c1 := hM
                unfold laws_FnManifest_L1_b at hM
                rcases cond_cases hM with ⟨h25, hM⟩ | ⟨h25, hM⟩
                · obtain ⟨v26, h27, hM⟩ := bind_some hM
                  obtain ⟨v28, h29, hM⟩ := bind_some hM
                  rcases cond_cases hM with ⟨h30, hM⟩ | ⟨h30, hM⟩
                  · have hE : some (Ctl.ret false) = some c1 := hM
                    have hE := Option.some.inj hE
                    subst hE
                    have hE : some false = some r := hK1
                    have hE := Option.some.inj hE
                    subst hE
                    exact pr R 9999 [.ln (v11.1.length), .as 64 true, .ix (Pair.enc v26), .call false [] (.o (.c (.v (.int .i64 v28)))) [] [], .as 76 true] [] [] [] (And.intro (lenm Pair.enc v11.1) (And.intro h25 (And.intro (gi_lt Pair.enc h27) (And.intro ((gi_map Pair.enc h27).2) (And.intro (impl_FindThing_ok v4.1 v26.Id v28 h29) (And.intro h30 True.intro)))))) (by kernel_rfl)
                  · obtain ⟨v31, h32, hM⟩ := bind_some hM
                    obtain ⟨v33, h34, hM⟩ := bind_some hM
                    rcases cond_cases hM with ⟨h35, hM⟩ | ⟨h35, hM⟩
                    · have hE : some (Ctl.ret false) = some c1 := hM
                      have hE := Option.some.inj hE
                      subst hE
                      have hE : some false = some r := hK1
                      have hE := Option.some.inj hE
                      subst hE
                      exact pr R 9999 [.ln (v11.1.length), .as 64 true, .ix (Pair.enc v26), .call false [] (.o (.c (.v (.int .i64 v28)))) [] [], .as 76 false, .ix (Thing.enc v31), .ix (Pair.enc v33), .as 88 true] [] [] [] (And.intro (lenm Pair.enc v11.1) (And.intro h25 (And.intro (gi_lt Pair.enc h27) (And.intro ((gi_map Pair.enc h27).2) (And.intro (impl_FindThing_ok v4.1 v26.Id v28 h29) (And.intro h30 (And.intro (gi_lt Thing.enc h32) (And.intro ((gi_map Thing.enc h32).2) (And.intro (gi_lt Pair.enc h34) (And.intro ((gi_map Pair.enc h34).2) (And.intro h35 True.intro))))))))))) (by kernel_rfl)
                    · have hE : some (Ctl.next (w64 (s24 + 1))) = some c1 := hM
                      have hE := Option.some.inj hE
                      subst hE
                      exact pc R 9999 [.ln (v11.1.length), .as 64 true, .ix (Pair.enc v26), .call false [] (.o (.c (.v (.int .i64 v28)))) [] [], .as 76 false, .ix (Thing.enc v31), .ix (Pair.enc v33), .as 88 false] [.keep [3, 6, 8] [0, 1]] (And.intro (lenm Pair.enc v11.1) (And.intro h25 (And.intro (gi_lt Pair.enc h27) (And.intro ((gi_map Pair.enc h27).2) (And.intro (impl_FindThing_ok v4.1 v26.Id v28 h29) (And.intro h30 (And.intro (gi_lt Thing.enc h32) (And.intro ((gi_map Thing.enc h32).2) (And.intro (gi_lt Pair.enc h34) (And.intro ((gi_map Pair.enc h34).2) (And.intro h35 True.intro))))))))))) (by kernel_rfl) (li (Sf := laws_FnManifest_L1_S v4 v11) (M := Mk (laws_FnManifest_L1 v4 v11) (laws_FnManifest_L1_k) r) (k := [.blk 0, .code (cAt Tryd.f3 [1, 1, 1, 1, 1, 1, 1, 1, 1])]) (Nat.lt_succ_self m1) hK1)
                · have hE : some (Ctl.brk ()) = some c1 := hM
                  have hE := Option.some.inj hE
                  subst hE
                  exact pc R 5 [.ln (v11.1.length), .as 64 false] [.keep [] []] (And.intro (lenm Pair.enc v11.1) (And.intro h25 True.intro)) (by kernel_rfl) (K1 () hK1)

-- loop.example/g03014/spec.ParseInt
def spec_ParseInt_L1_b (a0 : ByteArray) (s1 : Int) (s2 : Int) : Option (Ctl (Int × Int) Int (Int × Bool)) :=
  bif (decide (s2 < (a0.size : Int))) then
  bif (decide (s2 < 11)) then
  (siM a0 s2).bind fun v10 =>
  (spec_l1In (w64 v10) 48 57).bind fun v12 =>
  bif (!v12) then
  some (.ret (0, false))
  else
  (siM a0 s2).bind fun v15 =>
  some (.next (w64 ((w64 (10 * s1)) + (w64 (IntKind.u8.wrap (v15 - 48)))), w64 (s2 + 1)))
  else
  some (.brk s1)
  else
  some (.brk s1)
def spec_ParseInt_L1 (a0 : ByteArray) (s : Int × Int) : Option (Ctl (Int × Int) Int (Int × Bool)) := spec_ParseInt_L1_b a0 s.1 s.2
def spec_ParseInt_L1_s (a0 : ByteArray) (s1 : Int) (s2 : Int) : St := ⟨[(0, .o (.c (.v (.string a0)))), (4, .o (.c (.v (.int .i64 s1)))), (5, .o (.c (.v (.int .i64 s2))))], []⟩
def spec_ParseInt_L1_S (a0 : ByteArray) (s : Int × Int) : St := spec_ParseInt_L1_s a0 s.1 s.2
def spec_ParseInt_L1_a (a0 : ByteArray) (s3 : Int) : Option (Int × Bool) :=
  bif (decide (s3 > 1000000000)) then
  some (0, false)
  else
  (spec_FormatInt s3).bind fun v5 =>
  bif (!(v5.toList == a0.toList)) then
  some (0, false)
  else
  some (s3, true)
def spec_ParseInt_L1_k (a0 : ByteArray) (x : (Int) ⊕ (Int × Bool)) : Option (Int × Bool) := match x with
  | .inl t => spec_ParseInt_L1_a a0 t
  | .inr y => some y
def spec_ParseInt (a0 : ByteArray) : Option (Int × Bool) :=
  (loopM (spec_ParseInt_L1 a0) big (0, 0)).bind (spec_ParseInt_L1_k a0)
theorem spec_ParseInt_ok (a0 : ByteArray) (r : Int × Bool) (hM : spec_ParseInt a0 = some r) :
    Con Tryd.prog 34 [.c (.v (.string a0))] [] (.tup [.c (.v (.int .i64 r.1)), .c (.v (.bool r.2))]) [] [] := by
  unfold spec_ParseInt at hM
  refine cn (N := 39) (pids := []) Tryd_mixed Tryd.func34 (by kernel_rfl) (by kernel_rfl) (by kernel_rfl) rfl fun ρ g w R => ?_
  have K1 : ∀ (s3 : Int), spec_ParseInt_L1_a a0 s3 = some r → Gr R [.code (cAt Tryd.f34 [1, 1, 1])] (⟨[(0, .o (.c (.v (.string a0)))), (4, .o (.c (.v (.int .i64 s3))))], []⟩) := by
    intro s3 hM
    unfold spec_ParseInt_L1_a at hM
    rcases cond_cases hM with ⟨h4, hM⟩ | ⟨h4, hM⟩
    · have hE : some (0, false) = some r := hM
      have hE := Option.some.inj hE
      subst hE
      exact pr R 9999 [.as 32 true] [] [] [] (And.intro h4 True.intro) (by kernel_rfl)
    · obtain ⟨v5, h6, hM⟩ := bind_some hM
      rcases cond_cases hM with ⟨h7, hM⟩ | ⟨h7, hM⟩
      · have hE : some (0, false) = some r := hM
        have hE := Option.some.inj hE
        subst hE
        exact pr R 9999 [.as 32 false, .call false [] (.o (.c (.v (.string v5)))) [] [], .as 37 true] [] [] [] (And.intro h4 (And.intro (spec_FormatInt_ok s3 v5 h6) (And.intro h7 True.intro))) (by kernel_rfl)
      · have hE : some (s3, true) = some r := hM
        have hE := Option.some.inj hE
        subst hE
        exact pr R 9999 [.as 32 false, .call false [] (.o (.c (.v (.string v5)))) [] [], .as 37 false] [] [] [] (And.intro h4 (And.intro (spec_FormatInt_ok s3 v5 h6) (And.intro h7 True.intro))) (by kernel_rfl)
  refine pc R 9999 [] [.keep [0, 4, 5] []] (k' := [.code (.loop (cAt Tryd.f34 [1, 1, 0, 1, 0, 0])), .blk 0, .code (cAt Tryd.f34 [1, 1, 1])]) (S' := spec_ParseInt_L1_S a0 (0, 0)) True.intro (by kernel_rfl) ?_
  refine lq (spec_ParseInt_L1_S a0) (body := spec_ParseInt_L1 a0) (k := spec_ParseInt_L1_k a0) hM fun m1 s c1 hM hK1 => ?_
  obtain ⟨s1, s2⟩ := s
  have hM : spec_ParseInt_L1_b a0 s1 s2 = some c1 := hM
  unfold spec_ParseInt_L1_b at hM
  rcases cond_cases hM with ⟨h8, hM⟩ | ⟨h8, hM⟩
  · rcases cond_cases hM with ⟨h9, hM⟩ | ⟨h9, hM⟩
    · obtain ⟨v10, h11, hM⟩ := bind_some hM
      obtain ⟨v12, h13, hM⟩ := bind_some hM
      rcases cond_cases hM with ⟨h14, hM⟩ | ⟨h14, hM⟩
      · have hE : some (Ctl.ret (0, false)) = some c1 := hM
        have hE := Option.some.inj hE
        subst hE
        have hE : some (0, false) = some r := hK1
        have hE := Option.some.inj hE
        subst hE
        exact pr R 9999 [.as 10 true, .as 13 true, .ix [.int .u8 v10], .call false [] (.o (.c (.v (.bool v12)))) [] [], .as 21 true] [] [] [] (And.intro h8 (And.intro h9 (And.intro (siM_ok h11) (And.intro (spec_l1In_ok (w64 v10) 48 57 v12 h13) (And.intro h14 True.intro))))) (by kernel_rfl)
      · obtain ⟨v15, h16, hM⟩ := bind_some hM
        have hE : some (Ctl.next (w64 ((w64 (10 * s1)) + (w64 (IntKind.u8.wrap (v15 - 48)))), w64 (s2 + 1))) = some c1 := hM
        have hE := Option.some.inj hE
        subst hE
        exact pc R 9999 [.as 10 true, .as 13 true, .ix [.int .u8 v10], .call false [] (.o (.c (.v (.bool v12)))) [] [], .as 21 false, .ix [.int .u8 v15]] [.keep [0, 4, 5] []] (And.intro h8 (And.intro h9 (And.intro (siM_ok h11) (And.intro (spec_l1In_ok (w64 v10) 48 57 v12 h13) (And.intro h14 (And.intro (siM_ok h16) True.intro)))))) (by kernel_rfl) (li (Sf := spec_ParseInt_L1_S a0) (M := Mk (spec_ParseInt_L1 a0) (spec_ParseInt_L1_k a0) r) (k := [.blk 0, .code (cAt Tryd.f34 [1, 1, 1])]) (Nat.lt_succ_self m1) hK1)
    · have hE : some (Ctl.brk s1) = some c1 := hM
      have hE := Option.some.inj hE
      subst hE
      exact pc R 5 [.as 10 true, .as 13 false] [.keep [0, 4] []] (And.intro h8 (And.intro h9 True.intro)) (by kernel_rfl) (K1 s1 hK1)
  · have hE : some (Ctl.brk s1) = some c1 := hM
    have hE := Option.some.inj hE
    subst hE
    exact pc R 5 [.as 10 false] [.keep [0, 4] []] (And.intro h8 True.intro) (by kernel_rfl) (K1 s1 hK1)

-- loop.example/g03014/spec.ReadManifest
def spec_ReadManifest_j1 (a0 : ByteArray) (s1 : (List Pair)) (s2 : (List Int)) (s17 : Int) (v20 : (Int × Bool)) (s27 : Int) : Option (Ctl ((List Pair) × (List Int) × Bool × Int) ((List Pair) × (List Int)) ((List Pair) × Bool)) :=
  (ap 16 s1 ([(Pair.mk ((Pair.mk v20.1 0).Id) s27)] : List Pair)).bind fun v28 =>
  bif (decide (s17 < (a0.size : Int))) then
  (siM a0 s17).bind fun v31 =>
  bif (v31 == 91) then
  (ap 8 s2 ([v20.1] : List Int)).bind fun v34 =>
  some (.next (v28, v34, true, w64 (s17 + 1)))
  else
  some (.next (v28, s2, false, s17))
  else
  some (.next (v28, s2, false, s17))
def spec_ReadManifest_j2 (a0 : ByteArray) (s1 : (List Pair)) (s2 : (List Int)) (s17 : Int) (v20 : (Int × Bool)) (s39 : Int) : Option (Ctl ((List Pair) × (List Int) × Bool × Int) ((List Pair) × (List Int)) ((List Pair) × Bool)) :=
  (ap 16 s1 ([(Pair.mk ((Pair.mk v20.1 0).Id) s39)] : List Pair)).bind fun v40 =>
  bif (decide (s17 < (a0.size : Int))) then
  (siM a0 s17).bind fun v43 =>
  bif (v43 == 91) then
  (ap 8 s2 ([v20.1] : List Int)).bind fun v46 =>
  some (.next (v40, v46, true, w64 (s17 + 1)))
  else
  some (.next (v40, s2, false, s17))
  else
  some (.next (v40, s2, false, s17))
def spec_ReadManifest_L2_b (a0 : ByteArray) (s16 : Int) : Option (Ctl Int Int ((List Pair) × Bool)) :=
  bif (decide (s16 < (a0.size : Int))) then
  (siM a0 s16).bind fun v52 =>
  (spec_l1In (w64 v52) 48 57).bind fun v54 =>
  bif v54 then
  some (.next (w64 (s16 + 1)))
  else
  some (.brk s16)
  else
  some (.brk s16)
def spec_ReadManifest_L2 (a0 : ByteArray) (s : Int) : Option (Ctl Int Int ((List Pair) × Bool)) := spec_ReadManifest_L2_b a0 s
def spec_ReadManifest_L2_s (a0 : ByteArray) (s1 : (List Pair)) (s2 : (List Int)) (s4 : Int) (s16 : Int) : St := ⟨[(0, .o (.c (.v (.string a0)))), (4, .o (.c (.sl 0))), (5, .o (.c (.sl 1))), (7, .o (.c (.v (.int .i64 s4)))), (9, .o (.c (.v (.int .i64 s16))))], [(0, .row 34 2 (s1.map Pair.enc)), (1, .row 3 1 (s2.map encI))]⟩
def spec_ReadManifest_L2_S (a0 : ByteArray) (s1 : (List Pair)) (s2 : (List Int)) (s4 : Int) (s : Int) : St := spec_ReadManifest_L2_s a0 s1 s2 s4 s
def spec_ReadManifest_L2_a (a0 : ByteArray) (s1 : (List Pair)) (s2 : (List Int)) (s4 : Int) (s17 : Int) : Option (Ctl ((List Pair) × (List Int) × Bool × Int) ((List Pair) × (List Int)) ((List Pair) × Bool)) :=
  (stM a0 s4 s17).bind fun v18 =>
  (spec_ParseInt (ByteArray.extract a0 (Int.toNat s4) (Int.toNat s17))).bind fun v20 =>
  bif (!v20.2) then
  some (.ret (([] : List Pair), false))
  else
  bif (decide (v20.1 > 9999)) then
  some (.ret (([] : List Pair), false))
  else
  bif (decide ((s1.length : Int) ≥ 40)) then
  some (.ret (([] : List Pair), false))
  else
  bif ((s2.length : Int) == 0) then
  bif (decide ((s1.length : Int) > 0)) then
  some (.ret (([] : List Pair), false))
  else
  bif (decide ((s2.length : Int) > 0)) then
  (gi s2 (w64 ((s2.length : Int) - 1))).bind fun v37 =>
  spec_ReadManifest_j1 a0 s1 s2 s17 v20 v37
  else
  spec_ReadManifest_j1 a0 s1 s2 s17 v20 ((Pair.mk v20.1 0).In)
  else
  bif (decide ((s2.length : Int) > 0)) then
  (gi s2 (w64 ((s2.length : Int) - 1))).bind fun v49 =>
  spec_ReadManifest_j2 a0 s1 s2 s17 v20 v49
  else
  spec_ReadManifest_j2 a0 s1 s2 s17 v20 ((Pair.mk v20.1 0).In)
def spec_ReadManifest_L2_k (a0 : ByteArray) (s1 : (List Pair)) (s2 : (List Int)) (s4 : Int) (x : (Int) ⊕ ((List Pair) × Bool)) : Option (Ctl ((List Pair) × (List Int) × Bool × Int) ((List Pair) × (List Int)) ((List Pair) × Bool)) := match x with
  | .inl t => spec_ReadManifest_L2_a a0 s1 s2 s4 t
  | .inr y => some (.ret y)
def spec_ReadManifest_L1_b (a0 : ByteArray) (s1 : (List Pair)) (s2 : (List Int)) (s3 : Bool) (s4 : Int) : Option (Ctl ((List Pair) × (List Int) × Bool × Int) ((List Pair) × (List Int)) ((List Pair) × Bool)) :=
  bif (decide (s4 < (a0.size : Int))) then
  (siM a0 s4).bind fun v10 =>
  (spec_l1In (w64 v10) 49 57).bind fun v12 =>
  bif v12 then
  bif s3 then
  (loopM (spec_ReadManifest_L2 a0) big s4).bind (spec_ReadManifest_L2_k a0 s1 s2 s4)
  else
  bif (v10 == 93) then
  bif (decide ((s2.length : Int) > 0)) then
  bif (!s3) then
  (slM s2 0 (w64 ((s2.length : Int) - 1))).bind fun v60 =>
  some (.next (s1, v60, false, w64 (s4 + 1)))
  else
  (siM a0 (w64 (s4 - 1))).bind fun v62 =>
  bif (v62 == 91) then
  (slM s2 0 (w64 ((s2.length : Int) - 1))).bind fun v65 =>
  some (.next (s1, v65, false, w64 (s4 + 1)))
  else
  bif (v10 == 32) then
  bif (decide ((s2.length : Int) > 0)) then
  bif (!s3) then
  some (.next (s1, s2, true, w64 (s4 + 1)))
  else
  some (.ret (([] : List Pair), false))
  else
  some (.ret (([] : List Pair), false))
  else
  some (.ret (([] : List Pair), false))
  else
  bif (v10 == 32) then
  bif (decide ((s2.length : Int) > 0)) then
  bif (!s3) then
  some (.next (s1, s2, true, w64 (s4 + 1)))
  else
  some (.ret (([] : List Pair), false))
  else
  some (.ret (([] : List Pair), false))
  else
  some (.ret (([] : List Pair), false))
  else
  bif (v10 == 32) then
  bif (decide ((s2.length : Int) > 0)) then
  bif (!s3) then
  some (.next (s1, s2, true, w64 (s4 + 1)))
  else
  some (.ret (([] : List Pair), false))
  else
  some (.ret (([] : List Pair), false))
  else
  some (.ret (([] : List Pair), false))
  else
  bif (v10 == 93) then
  bif (decide ((s2.length : Int) > 0)) then
  bif (!s3) then
  (slM s2 0 (w64 ((s2.length : Int) - 1))).bind fun v79 =>
  some (.next (s1, v79, false, w64 (s4 + 1)))
  else
  (siM a0 (w64 (s4 - 1))).bind fun v81 =>
  bif (v81 == 91) then
  (slM s2 0 (w64 ((s2.length : Int) - 1))).bind fun v84 =>
  some (.next (s1, v84, false, w64 (s4 + 1)))
  else
  bif (v10 == 32) then
  bif (decide ((s2.length : Int) > 0)) then
  bif (!s3) then
  some (.next (s1, s2, true, w64 (s4 + 1)))
  else
  some (.ret (([] : List Pair), false))
  else
  some (.ret (([] : List Pair), false))
  else
  some (.ret (([] : List Pair), false))
  else
  bif (v10 == 32) then
  bif (decide ((s2.length : Int) > 0)) then
  bif (!s3) then
  some (.next (s1, s2, true, w64 (s4 + 1)))
  else
  some (.ret (([] : List Pair), false))
  else
  some (.ret (([] : List Pair), false))
  else
  some (.ret (([] : List Pair), false))
  else
  bif (v10 == 32) then
  bif (decide ((s2.length : Int) > 0)) then
  bif (!s3) then
  some (.next (s1, s2, true, w64 (s4 + 1)))
  else
  some (.ret (([] : List Pair), false))
  else
  some (.ret (([] : List Pair), false))
  else
  some (.ret (([] : List Pair), false))
  else
  some (.brk (s1, s2))
def spec_ReadManifest_L1 (a0 : ByteArray) (s : (List Pair) × (List Int) × Bool × Int) : Option (Ctl ((List Pair) × (List Int) × Bool × Int) ((List Pair) × (List Int)) ((List Pair) × Bool)) := spec_ReadManifest_L1_b a0 s.1 s.2.1 s.2.2.1 s.2.2.2
def spec_ReadManifest_L1_s (a0 : ByteArray) (s1 : (List Pair)) (s2 : (List Int)) (s3 : Bool) (s4 : Int) : St := ⟨[(0, .o (.c (.v (.string a0)))), (4, .o (.c (.sl 0))), (5, .o (.c (.sl 1))), (6, .o (.c (.v (.bool s3)))), (7, .o (.c (.v (.int .i64 s4))))], [(0, .row 34 2 (s1.map Pair.enc)), (1, .row 3 1 (s2.map encI))]⟩
def spec_ReadManifest_L1_S (a0 : ByteArray) (s : (List Pair) × (List Int) × Bool × Int) : St := spec_ReadManifest_L1_s a0 s.1 s.2.1 s.2.2.1 s.2.2.2
def spec_ReadManifest_L1_a (s5 : (List Pair)) (s6 : (List Int)) : Option ((List Pair) × Bool) :=
  bif (decide ((s6.length : Int) > 0)) then
  some (([] : List Pair), false)
  else
  bif ((s5.length : Int) == 0) then
  some (([] : List Pair), false)
  else
  some (s5, true)
def spec_ReadManifest_L1_k (x : ((List Pair) × (List Int)) ⊕ ((List Pair) × Bool)) : Option ((List Pair) × Bool) := match x with
  | .inl t => spec_ReadManifest_L1_a t.1 t.2
  | .inr y => some y
def spec_ReadManifest (a0 : ByteArray) : Option ((List Pair) × Bool) :=
  (loopM (spec_ReadManifest_L1 a0) big (([] : List Pair), ([] : List Int), true, 0)).bind (spec_ReadManifest_L1_k)
theorem spec_ReadManifest_ok (a0 : ByteArray) (r : (List Pair) × Bool) (hM : spec_ReadManifest a0 = some r) :
    Con Tryd.prog 16 [.c (.v (.string a0))] [] (.tup [.c (.sl 1000), .c (.v (.bool r.2))]) [] [(1000, .row 34 2 (r.1.map Pair.enc))] := by
  unfold spec_ReadManifest at hM
  refine cn (N := 157) (pids := []) Tryd_mixed Tryd.func16 (by kernel_rfl) (by kernel_rfl) (by kernel_rfl) rfl fun ρ g w R => ?_
  have K1 : ∀ (s5 : (List Pair)) (s6 : (List Int)), spec_ReadManifest_L1_a s5 s6 = some r → Gr R [.code (cAt Tryd.f16 [1, 1, 1, 1, 1])] (⟨[(4, .o (.c (.sl 0))), (5, .o (.c (.sl 1)))], [(0, .row 34 2 (s5.map Pair.enc)), (1, .row 3 1 (s6.map encI))]⟩) := by
    intro s5 s6 hM
    unfold spec_ReadManifest_L1_a at hM
    rcases cond_cases hM with ⟨h7, hM⟩ | ⟨h7, hM⟩
    · have hE : some (([] : List Pair), false) = some r := hM
      have hE := Option.some.inj hE
      subst hE
      exact pr R 9999 [.ln (s6.length), .as 150 true, .new 2] [.sw 2 1000] [] [1000] (And.intro (lenm encI s6) (And.intro h7 True.intro)) (by kernel_rfl)
    · rcases cond_cases hM with ⟨h8, hM⟩ | ⟨h8, hM⟩
      · have hE : some (([] : List Pair), false) = some r := hM
        have hE := Option.some.inj hE
        subst hE
        exact pr R 9999 [.ln (s6.length), .as 150 false, .ln (s5.length), .as 154 true, .new 3] [.sw 3 1000] [] [1000] (And.intro (lenm encI s6) (And.intro h7 (And.intro (lenm Pair.enc s5) (And.intro h8 True.intro)))) (by kernel_rfl)
      · have hE : some (s5, true) = some r := hM
        have hE := Option.some.inj hE
        subst hE
        exact pr R 9999 [.ln (s6.length), .as 150 false, .ln (s5.length), .as 154 false] [.sw 0 1000] [] [1000] (And.intro (lenm encI s6) (And.intro h7 (And.intro (lenm Pair.enc s5) (And.intro h8 True.intro)))) (by kernel_rfl)
  refine pc R 9999 [.new 0, .new 1] [.keep [0, 4, 5, 6, 7] [0, 1]] (k' := [.code (.loop (cAt Tryd.f16 [1, 1, 1, 1, 0, 1, 0, 0])), .blk 0, .code (cAt Tryd.f16 [1, 1, 1, 1, 1])]) (S' := spec_ReadManifest_L1_S a0 (([] : List Pair), ([] : List Int), true, 0)) True.intro (by kernel_rfl) ?_
  refine lq (spec_ReadManifest_L1_S a0) (body := spec_ReadManifest_L1 a0) (k := spec_ReadManifest_L1_k) hM fun m1 s c1 hM hK1 => ?_
  obtain ⟨s1, s2, s3, s4⟩ := s
  have hM : spec_ReadManifest_L1_b a0 s1 s2 s3 s4 = some c1 := hM
  unfold spec_ReadManifest_L1_b at hM
  rcases cond_cases hM with ⟨h9, hM⟩ | ⟨h9, hM⟩
  · obtain ⟨v10, h11, hM⟩ := bind_some hM
    obtain ⟨v12, h13, hM⟩ := bind_some hM
    rcases cond_cases hM with ⟨h14, hM⟩ | ⟨h14, hM⟩
    · rcases cond_cases hM with ⟨h15, hM⟩ | ⟨h15, hM⟩
      · have K2 : ∀ (s17 : Int), spec_ReadManifest_L2_a a0 s1 s2 s4 s17 = some c1 → Gr R [.code (cAt Tryd.f16 [1, 1, 1, 1, 0, 1, 0, 0, 1, 0, 1, 0, 1, 0, 1, 1]), .blk 2, .blk 1, .inv (Jr R (spec_ReadManifest_L1_S a0) (Mk (spec_ReadManifest_L1 a0) (spec_ReadManifest_L1_k) r) (m1 + 1)), .blk 0, .code (cAt Tryd.f16 [1, 1, 1, 1, 1])] (⟨[(0, .o (.c (.v (.string a0)))), (4, .o (.c (.sl 0))), (5, .o (.c (.sl 1))), (7, .o (.c (.v (.int .i64 s4)))), (9, .o (.c (.v (.int .i64 s17))))], [(0, .row 34 2 (s1.map Pair.enc)), (1, .row 3 1 (s2.map encI))]⟩) := by
          intro s17 hM
          unfold spec_ReadManifest_L2_a at hM
          obtain ⟨v18, h19, hM⟩ := bind_some hM
          obtain ⟨v20, h21, hM⟩ := bind_some hM
          rcases cond_cases hM with ⟨h22, hM⟩ | ⟨h22, hM⟩
          · have hE : some (Ctl.ret (([] : List Pair), false)) = some c1 := hM
            have hE := Option.some.inj hE
            subst hE
            have hE : some (([] : List Pair), false) = some r := hK1
            have hE := Option.some.inj hE
            subst hE
            exact pr R 9999 [.call false [] (.tup [.c (.v (.int .i64 v20.1)), .c (.v (.bool v20.2))]) [] [], .as 54 true, .new 4] [.sw 4 1000] [] [1000] (And.intro (stM_ok h19) (And.intro (spec_ParseInt_ok (ByteArray.extract a0 (Int.toNat s4) (Int.toNat s17)) v20 h21) (And.intro h22 True.intro))) (by kernel_rfl)
          · rcases cond_cases hM with ⟨h23, hM⟩ | ⟨h23, hM⟩
            · have hE : some (Ctl.ret (([] : List Pair), false)) = some c1 := hM
              have hE := Option.some.inj hE
              subst hE
              have hE : some (([] : List Pair), false) = some r := hK1
              have hE := Option.some.inj hE
              subst hE
              exact pr R 9999 [.call false [] (.tup [.c (.v (.int .i64 v20.1)), .c (.v (.bool v20.2))]) [] [], .as 54 false, .as 58 true, .new 5] [.sw 5 1000] [] [1000] (And.intro (stM_ok h19) (And.intro (spec_ParseInt_ok (ByteArray.extract a0 (Int.toNat s4) (Int.toNat s17)) v20 h21) (And.intro h22 (And.intro h23 True.intro)))) (by kernel_rfl)
            · rcases cond_cases hM with ⟨h24, hM⟩ | ⟨h24, hM⟩
              · have hE : some (Ctl.ret (([] : List Pair), false)) = some c1 := hM
                have hE := Option.some.inj hE
                subst hE
                have hE : some (([] : List Pair), false) = some r := hK1
                have hE := Option.some.inj hE
                subst hE
                exact pr R 9999 [.call false [] (.tup [.c (.v (.int .i64 v20.1)), .c (.v (.bool v20.2))]) [] [], .as 54 false, .as 58 false, .ln (s1.length), .as 63 true, .new 6] [.sw 6 1000] [] [1000] (And.intro (stM_ok h19) (And.intro (spec_ParseInt_ok (ByteArray.extract a0 (Int.toNat s4) (Int.toNat s17)) v20 h21) (And.intro h22 (And.intro h23 (And.intro (lenm Pair.enc s1) (And.intro h24 True.intro)))))) (by kernel_rfl)
              · rcases cond_cases hM with ⟨h25, hM⟩ | ⟨h25, hM⟩
                · rcases cond_cases hM with ⟨h26, hM⟩ | ⟨h26, hM⟩
                  · have hE : some (Ctl.ret (([] : List Pair), false)) = some c1 := hM
                    have hE := Option.some.inj hE
                    subst hE
                    have hE : some (([] : List Pair), false) = some r := hK1
                    have hE := Option.some.inj hE
                    subst hE
                    exact pr R 9999 [.call false [] (.tup [.c (.v (.int .i64 v20.1)), .c (.v (.bool v20.2))]) [] [], .as 54 false, .as 58 false, .ln (s1.length), .as 63 false, .ln (s2.length), .as 67 true, .ln (s1.length), .as 72 true, .new 7] [.sw 7 1000] [] [1000] (And.intro (stM_ok h19) (And.intro (spec_ParseInt_ok (ByteArray.extract a0 (Int.toNat s4) (Int.toNat s17)) v20 h21) (And.intro h22 (And.intro h23 (And.intro (lenm Pair.enc s1) (And.intro h24 (And.intro (lenm encI s2) (And.intro h25 (And.intro (lenm Pair.enc s1) (And.intro h26 True.intro)))))))))) (by kernel_rfl)
                  · have J1 : ∀ (s27 : Int), spec_ReadManifest_j1 a0 s1 s2 s17 v20 s27 = some c1 → Gr R [.code (cAt Tryd.f16 [1, 1, 1, 1, 0, 1, 0, 0, 1, 0, 1, 0, 1, 0, 1, 1, 1, 1, 1, 1]), .blk 2, .blk 1, .inv (Jr R (spec_ReadManifest_L1_S a0) (Mk (spec_ReadManifest_L1 a0) (spec_ReadManifest_L1_k) r) (m1 + 1)), .blk 0, .code (cAt Tryd.f16 [1, 1, 1, 1, 1])] (⟨[(0, .o (.c (.v (.string a0)))), (4, .o (.c (.sl 0))), (5, .o (.c (.sl 1))), (9, .o (.c (.v (.int .i64 s17)))), (10, .o (.c (.v (.int .i64 v20.1)))), (12, .o (.c (.ptr 8 0)))], [(0, .row 34 2 (s1.map Pair.enc)), (1, .row 3 1 (s2.map encI)), (8, .box 34 [.v (.int .i64 ((Pair.mk v20.1 0).Id)), .v (.int .i64 s27)])]⟩) := by
                      intro s27 hM
                      unfold spec_ReadManifest_j1 at hM
                      obtain ⟨v28, h29, hM⟩ := bind_some hM
                      rcases cond_cases hM with ⟨h30, hM⟩ | ⟨h30, hM⟩
                      · obtain ⟨v31, h32, hM⟩ := bind_some hM
                        rcases cond_cases hM with ⟨h33, hM⟩ | ⟨h33, hM⟩
                        · obtain ⟨v34, h35, hM⟩ := bind_some hM
                          have hE : some (Ctl.next (v28, v34, true, w64 (s17 + 1))) = some c1 := hM
                          have hE := Option.some.inj hE
                          subst hE
                          exact pc R 9999 [.new 9, .new 10, .nm (v28.map Pair.enc), .as 95 true, .ix [.int .u8 v31], .as 100 true, .new 11, .new 12, .nm (v34.map encI)] [.sw 10 0, .sw 12 1, .keep [0, 4, 5, 6, 7] [0, 1]] (And.intro (ap_ok Pair.enc h29) (And.intro h30 (And.intro (siM_ok h32) (And.intro h33 (And.intro (ap_ok encI h35) True.intro))))) (by kernel_rfl) (li (Sf := spec_ReadManifest_L1_S a0) (M := Mk (spec_ReadManifest_L1 a0) (spec_ReadManifest_L1_k) r) (k := [.blk 0, .code (cAt Tryd.f16 [1, 1, 1, 1, 1])]) (Nat.lt_succ_self m1) hK1)
                        · have hE : some (Ctl.next (v28, s2, false, s17)) = some c1 := hM
                          have hE := Option.some.inj hE
                          subst hE
                          exact pc R 9999 [.new 9, .new 10, .nm (v28.map Pair.enc), .as 95 true, .ix [.int .u8 v31], .as 100 false] [.sw 10 0, .keep [0, 4, 5, 6, 7] [0, 1]] (And.intro (ap_ok Pair.enc h29) (And.intro h30 (And.intro (siM_ok h32) (And.intro h33 True.intro)))) (by kernel_rfl) (li (Sf := spec_ReadManifest_L1_S a0) (M := Mk (spec_ReadManifest_L1 a0) (spec_ReadManifest_L1_k) r) (k := [.blk 0, .code (cAt Tryd.f16 [1, 1, 1, 1, 1])]) (Nat.lt_succ_self m1) hK1)
                      · have hE : some (Ctl.next (v28, s2, false, s17)) = some c1 := hM
                        have hE := Option.some.inj hE
                        subst hE
                        exact pc R 9999 [.new 9, .new 10, .nm (v28.map Pair.enc), .as 95 false] [.sw 10 0, .keep [0, 4, 5, 6, 7] [0, 1]] (And.intro (ap_ok Pair.enc h29) (And.intro h30 True.intro)) (by kernel_rfl) (li (Sf := spec_ReadManifest_L1_S a0) (M := Mk (spec_ReadManifest_L1 a0) (spec_ReadManifest_L1_k) r) (k := [.blk 0, .code (cAt Tryd.f16 [1, 1, 1, 1, 1])]) (Nat.lt_succ_self m1) hK1)
                    rcases cond_cases hM with ⟨h36, hM⟩ | ⟨h36, hM⟩
                    · obtain ⟨v37, h38, hM⟩ := bind_some hM
                      exact pc R 14 [.call false [] (.tup [.c (.v (.int .i64 v20.1)), .c (.v (.bool v20.2))]) [] [], .as 54 false, .as 58 false, .ln (s1.length), .as 63 false, .ln (s2.length), .as 67 true, .ln (s1.length), .as 72 false, .new 8, .ln (s2.length), .as 78 true, .ln (s2.length), .ix (encI v37)] [.keep [0, 4, 5, 9, 10, 12] [0, 1, 8]] (And.intro (stM_ok h19) (And.intro (spec_ParseInt_ok (ByteArray.extract a0 (Int.toNat s4) (Int.toNat s17)) v20 h21) (And.intro h22 (And.intro h23 (And.intro (lenm Pair.enc s1) (And.intro h24 (And.intro (lenm encI s2) (And.intro h25 (And.intro (lenm Pair.enc s1) (And.intro h26 (And.intro (lenm encI s2) (And.intro h36 (And.intro (lenm encI s2) (And.intro (gi_lt encI h38) (And.intro ((gi_map encI h38).2) True.intro))))))))))))))) (by kernel_rfl) (J1 v37 hM)
                    · exact pc R 14 [.call false [] (.tup [.c (.v (.int .i64 v20.1)), .c (.v (.bool v20.2))]) [] [], .as 54 false, .as 58 false, .ln (s1.length), .as 63 false, .ln (s2.length), .as 67 true, .ln (s1.length), .as 72 false, .new 8, .ln (s2.length), .as 78 false] [.keep [0, 4, 5, 9, 10, 12] [0, 1, 8]] (And.intro (stM_ok h19) (And.intro (spec_ParseInt_ok (ByteArray.extract a0 (Int.toNat s4) (Int.toNat s17)) v20 h21) (And.intro h22 (And.intro h23 (And.intro (lenm Pair.enc s1) (And.intro h24 (And.intro (lenm encI s2) (And.intro h25 (And.intro (lenm Pair.enc s1) (And.intro h26 (And.intro (lenm encI s2) (And.intro h36 True.intro)))))))))))) (by kernel_rfl) (J1 ((Pair.mk v20.1 0).In) hM)
                · have J2 : ∀ (s39 : Int), spec_ReadManifest_j2 a0 s1 s2 s17 v20 s39 = some c1 → Gr R [.code (cAt Tryd.f16 [1, 1, 1, 1, 0, 1, 0, 0, 1, 0, 1, 0, 1, 0, 1, 1, 1, 1, 1, 1]), .blk 2, .blk 1, .inv (Jr R (spec_ReadManifest_L1_S a0) (Mk (spec_ReadManifest_L1 a0) (spec_ReadManifest_L1_k) r) (m1 + 1)), .blk 0, .code (cAt Tryd.f16 [1, 1, 1, 1, 1])] (⟨[(0, .o (.c (.v (.string a0)))), (4, .o (.c (.sl 0))), (5, .o (.c (.sl 1))), (9, .o (.c (.v (.int .i64 s17)))), (10, .o (.c (.v (.int .i64 v20.1)))), (12, .o (.c (.ptr 13 0)))], [(0, .row 34 2 (s1.map Pair.enc)), (1, .row 3 1 (s2.map encI)), (13, .box 34 [.v (.int .i64 ((Pair.mk v20.1 0).Id)), .v (.int .i64 s39)])]⟩) := by
                    intro s39 hM
                    unfold spec_ReadManifest_j2 at hM
                    obtain ⟨v40, h41, hM⟩ := bind_some hM
                    rcases cond_cases hM with ⟨h42, hM⟩ | ⟨h42, hM⟩
                    · obtain ⟨v43, h44, hM⟩ := bind_some hM
                      rcases cond_cases hM with ⟨h45, hM⟩ | ⟨h45, hM⟩
                      · obtain ⟨v46, h47, hM⟩ := bind_some hM
                        have hE : some (Ctl.next (v40, v46, true, w64 (s17 + 1))) = some c1 := hM
                        have hE := Option.some.inj hE
                        subst hE
                        exact pc R 9999 [.new 14, .new 15, .nm (v40.map Pair.enc), .as 95 true, .ix [.int .u8 v43], .as 100 true, .new 16, .new 17, .nm (v46.map encI)] [.sw 15 0, .sw 17 1, .keep [0, 4, 5, 6, 7] [0, 1]] (And.intro (ap_ok Pair.enc h41) (And.intro h42 (And.intro (siM_ok h44) (And.intro h45 (And.intro (ap_ok encI h47) True.intro))))) (by kernel_rfl) (li (Sf := spec_ReadManifest_L1_S a0) (M := Mk (spec_ReadManifest_L1 a0) (spec_ReadManifest_L1_k) r) (k := [.blk 0, .code (cAt Tryd.f16 [1, 1, 1, 1, 1])]) (Nat.lt_succ_self m1) hK1)
                      · have hE : some (Ctl.next (v40, s2, false, s17)) = some c1 := hM
                        have hE := Option.some.inj hE
                        subst hE
                        exact pc R 9999 [.new 14, .new 15, .nm (v40.map Pair.enc), .as 95 true, .ix [.int .u8 v43], .as 100 false] [.sw 15 0, .keep [0, 4, 5, 6, 7] [0, 1]] (And.intro (ap_ok Pair.enc h41) (And.intro h42 (And.intro (siM_ok h44) (And.intro h45 True.intro)))) (by kernel_rfl) (li (Sf := spec_ReadManifest_L1_S a0) (M := Mk (spec_ReadManifest_L1 a0) (spec_ReadManifest_L1_k) r) (k := [.blk 0, .code (cAt Tryd.f16 [1, 1, 1, 1, 1])]) (Nat.lt_succ_self m1) hK1)
                    · have hE : some (Ctl.next (v40, s2, false, s17)) = some c1 := hM
                      have hE := Option.some.inj hE
                      subst hE
                      exact pc R 9999 [.new 14, .new 15, .nm (v40.map Pair.enc), .as 95 false] [.sw 15 0, .keep [0, 4, 5, 6, 7] [0, 1]] (And.intro (ap_ok Pair.enc h41) (And.intro h42 True.intro)) (by kernel_rfl) (li (Sf := spec_ReadManifest_L1_S a0) (M := Mk (spec_ReadManifest_L1 a0) (spec_ReadManifest_L1_k) r) (k := [.blk 0, .code (cAt Tryd.f16 [1, 1, 1, 1, 1])]) (Nat.lt_succ_self m1) hK1)
                  rcases cond_cases hM with ⟨h48, hM⟩ | ⟨h48, hM⟩
                  · obtain ⟨v49, h50, hM⟩ := bind_some hM
                    exact pc R 14 [.call false [] (.tup [.c (.v (.int .i64 v20.1)), .c (.v (.bool v20.2))]) [] [], .as 54 false, .as 58 false, .ln (s1.length), .as 63 false, .ln (s2.length), .as 67 false, .new 13, .ln (s2.length), .as 78 true, .ln (s2.length), .ix (encI v49)] [.keep [0, 4, 5, 9, 10, 12] [0, 1, 13]] (And.intro (stM_ok h19) (And.intro (spec_ParseInt_ok (ByteArray.extract a0 (Int.toNat s4) (Int.toNat s17)) v20 h21) (And.intro h22 (And.intro h23 (And.intro (lenm Pair.enc s1) (And.intro h24 (And.intro (lenm encI s2) (And.intro h25 (And.intro (lenm encI s2) (And.intro h48 (And.intro (lenm encI s2) (And.intro (gi_lt encI h50) (And.intro ((gi_map encI h50).2) True.intro))))))))))))) (by kernel_rfl) (J2 v49 hM)
                  · exact pc R 14 [.call false [] (.tup [.c (.v (.int .i64 v20.1)), .c (.v (.bool v20.2))]) [] [], .as 54 false, .as 58 false, .ln (s1.length), .as 63 false, .ln (s2.length), .as 67 false, .new 13, .ln (s2.length), .as 78 false] [.keep [0, 4, 5, 9, 10, 12] [0, 1, 13]] (And.intro (stM_ok h19) (And.intro (spec_ParseInt_ok (ByteArray.extract a0 (Int.toNat s4) (Int.toNat s17)) v20 h21) (And.intro h22 (And.intro h23 (And.intro (lenm Pair.enc s1) (And.intro h24 (And.intro (lenm encI s2) (And.intro h25 (And.intro (lenm encI s2) (And.intro h48 True.intro)))))))))) (by kernel_rfl) (J2 ((Pair.mk v20.1 0).In) hM)
        refine pc R 9999 [.as 18 true, .ix [.int .u8 v10], .call false [] (.o (.c (.v (.bool v12)))) [] [], .as 27 true, .as 23 true] [.keep [0, 4, 5, 7, 9] [0, 1]] (k' := [.code (.loop (cAt Tryd.f16 [1, 1, 1, 1, 0, 1, 0, 0, 1, 0, 1, 0, 1, 0, 1, 0, 0, 0])), .blk 3, .code (cAt Tryd.f16 [1, 1, 1, 1, 0, 1, 0, 0, 1, 0, 1, 0, 1, 0, 1, 1]), .blk 2, .blk 1, .inv (Jr R (spec_ReadManifest_L1_S a0) (Mk (spec_ReadManifest_L1 a0) (spec_ReadManifest_L1_k) r) (m1 + 1)), .blk 0, .code (cAt Tryd.f16 [1, 1, 1, 1, 1])]) (S' := spec_ReadManifest_L2_S a0 s1 s2 s4 s4) (And.intro h9 (And.intro (siM_ok h11) (And.intro (spec_l1In_ok (w64 v10) 49 57 v12 h13) (And.intro h14 (And.intro h15 True.intro))))) (by kernel_rfl) ?_
        refine lq (spec_ReadManifest_L2_S a0 s1 s2 s4) (body := spec_ReadManifest_L2 a0) (k := spec_ReadManifest_L2_k a0 s1 s2 s4) hM fun m2 s c2 hM hK2 => ?_
        obtain ⟨s16, hs⟩ : ∃ z, z = s := ⟨_, rfl⟩
        subst hs
        have hM : spec_ReadManifest_L2_b a0 s16 = some c2 := hM
        unfold spec_ReadManifest_L2_b at hM
        rcases cond_cases hM with ⟨h51, hM⟩ | ⟨h51, hM⟩
        · obtain ⟨v52, h53, hM⟩ := bind_some hM
          obtain ⟨v54, h55, hM⟩ := bind_some hM
          rcases cond_cases hM with ⟨h56, hM⟩ | ⟨h56, hM⟩
          · have hE : some (Ctl.next (w64 (s16 + 1))) = some c2 := hM
            have hE := Option.some.inj hE
            subst hE
            exact pc R 9999 [.as 35 true, .ix [.int .u8 v52], .call false [] (.o (.c (.v (.bool v54)))) [] [], .as 41 true] [.keep [0, 4, 5, 7, 9] [0, 1]] (And.intro h51 (And.intro (siM_ok h53) (And.intro (spec_l1In_ok (w64 v52) 48 57 v54 h55) (And.intro h56 True.intro)))) (by kernel_rfl) (li (Sf := spec_ReadManifest_L2_S a0 s1 s2 s4) (M := Mk (spec_ReadManifest_L2 a0) (spec_ReadManifest_L2_k a0 s1 s2 s4) c1) (k := [.blk 3, .code (cAt Tryd.f16 [1, 1, 1, 1, 0, 1, 0, 0, 1, 0, 1, 0, 1, 0, 1, 1]), .blk 2, .blk 1, .inv (Jr R (spec_ReadManifest_L1_S a0) (Mk (spec_ReadManifest_L1 a0) (spec_ReadManifest_L1_k) r) (m1 + 1)), .blk 0, .code (cAt Tryd.f16 [1, 1, 1, 1, 1])]) (Nat.lt_succ_self m2) hK2)
          · have hE : some (Ctl.brk s16) = some c2 := hM
            have hE := Option.some.inj hE
            subst hE
            exact pc R 5 [.as 35 true, .ix [.int .u8 v52], .call false [] (.o (.c (.v (.bool v54)))) [] [], .as 41 false] [.keep [0, 4, 5, 7, 9] [0, 1]] (And.intro h51 (And.intro (siM_ok h53) (And.intro (spec_l1In_ok (w64 v52) 48 57 v54 h55) (And.intro h56 True.intro)))) (by kernel_rfl) (K2 s16 hK2)
        · have hE : some (Ctl.brk s16) = some c2 := hM
          have hE := Option.some.inj hE
          subst hE
          exact pc R 5 [.as 35 false] [.keep [0, 4, 5, 7, 9] [0, 1]] (And.intro h51 True.intro) (by kernel_rfl) (K2 s16 hK2)
      · rcases cond_cases hM with ⟨h57, hM⟩ | ⟨h57, hM⟩
        · rcases cond_cases hM with ⟨h58, hM⟩ | ⟨h58, hM⟩
          · rcases cond_cases hM with ⟨h59, hM⟩ | ⟨h59, hM⟩
            · obtain ⟨v60, h61, hM⟩ := bind_some hM
              have hE : some (Ctl.next (s1, v60, false, w64 (s4 + 1))) = some c1 := hM
              have hE := Option.some.inj hE
              subst hE
              exact pc R 9999 [.as 18 true, .ix [.int .u8 v10], .call false [] (.o (.c (.v (.bool v12)))) [] [], .as 27 true, .as 23 false, .as 110 true, .ln (s2.length), .as 115 true, .as 118 true, .ln (s2.length), .new 18, .nm (v60.map encI)] [.sw 18 1, .keep [0, 4, 5, 6, 7] [0, 1]] (And.intro h9 (And.intro (siM_ok h11) (And.intro (spec_l1In_ok (w64 v10) 49 57 v12 h13) (And.intro h14 (And.intro h15 (And.intro h57 (And.intro (lenm encI s2) (And.intro h58 (And.intro h59 (And.intro (lenm encI s2) (And.intro (slM_tr encI h61) True.intro))))))))))) (by kernel_rfl) (li (Sf := spec_ReadManifest_L1_S a0) (M := Mk (spec_ReadManifest_L1 a0) (spec_ReadManifest_L1_k) r) (k := [.blk 0, .code (cAt Tryd.f16 [1, 1, 1, 1, 1])]) (Nat.lt_succ_self m1) hK1)
            · obtain ⟨v62, h63, hM⟩ := bind_some hM
              rcases cond_cases hM with ⟨h64, hM⟩ | ⟨h64, hM⟩
              · obtain ⟨v65, h66, hM⟩ := bind_some hM
                have hE : some (Ctl.next (s1, v65, false, w64 (s4 + 1))) = some c1 := hM
                have hE := Option.some.inj hE
                subst hE
                exact pc R 9999 [.as 18 true, .ix [.int .u8 v10], .call false [] (.o (.c (.v (.bool v12)))) [] [], .as 27 true, .as 23 false, .as 110 true, .ln (s2.length), .as 115 true, .as 118 false, .ix [.int .u8 v62], .as 107 true, .ln (s2.length), .new 19, .nm (v65.map encI)] [.sw 19 1, .keep [0, 4, 5, 6, 7] [0, 1]] (And.intro h9 (And.intro (siM_ok h11) (And.intro (spec_l1In_ok (w64 v10) 49 57 v12 h13) (And.intro h14 (And.intro h15 (And.intro h57 (And.intro (lenm encI s2) (And.intro h58 (And.intro h59 (And.intro (siM_ok h63) (And.intro h64 (And.intro (lenm encI s2) (And.intro (slM_tr encI h66) True.intro))))))))))))) (by kernel_rfl) (li (Sf := spec_ReadManifest_L1_S a0) (M := Mk (spec_ReadManifest_L1 a0) (spec_ReadManifest_L1_k) r) (k := [.blk 0, .code (cAt Tryd.f16 [1, 1, 1, 1, 1])]) (Nat.lt_succ_self m1) hK1)
              · rcases cond_cases hM with ⟨h67, hM⟩ | ⟨h67, hM⟩
                · rcases cond_cases hM with ⟨h68, hM⟩ | ⟨h68, hM⟩
                  · rcases cond_cases hM with ⟨h69, hM⟩ | ⟨h69, hM⟩
                    · have hE : some (Ctl.next (s1, s2, true, w64 (s4 + 1))) = some c1 := hM
                      have hE := Option.some.inj hE
                      subst hE
                      exact pc R 9999 [.as 18 true, .ix [.int .u8 v10], .call false [] (.o (.c (.v (.bool v12)))) [] [], .as 27 true, .as 23 false, .as 110 true, .ln (s2.length), .as 115 true, .as 118 false, .ix [.int .u8 v62], .as 107 false, .as 136 true, .ln (s2.length), .as 141 true, .as 133 true] [.keep [0, 4, 5, 6, 7] [0, 1]] (And.intro h9 (And.intro (siM_ok h11) (And.intro (spec_l1In_ok (w64 v10) 49 57 v12 h13) (And.intro h14 (And.intro h15 (And.intro h57 (And.intro (lenm encI s2) (And.intro h58 (And.intro h59 (And.intro (siM_ok h63) (And.intro h64 (And.intro h67 (And.intro (lenm encI s2) (And.intro h68 (And.intro h69 True.intro))))))))))))))) (by kernel_rfl) (li (Sf := spec_ReadManifest_L1_S a0) (M := Mk (spec_ReadManifest_L1 a0) (spec_ReadManifest_L1_k) r) (k := [.blk 0, .code (cAt Tryd.f16 [1, 1, 1, 1, 1])]) (Nat.lt_succ_self m1) hK1)
                    · have hE : some (Ctl.ret (([] : List Pair), false)) = some c1 := hM
                      have hE := Option.some.inj hE
                      subst hE
                      have hE : some (([] : List Pair), false) = some r := hK1
                      have hE := Option.some.inj hE
                      subst hE
                      exact pr R 9999 [.as 18 true, .ix [.int .u8 v10], .call false [] (.o (.c (.v (.bool v12)))) [] [], .as 27 true, .as 23 false, .as 110 true, .ln (s2.length), .as 115 true, .as 118 false, .ix [.int .u8 v62], .as 107 false, .as 136 true, .ln (s2.length), .as 141 true, .as 133 false, .new 20] [.sw 20 1000] [] [1000] (And.intro h9 (And.intro (siM_ok h11) (And.intro (spec_l1In_ok (w64 v10) 49 57 v12 h13) (And.intro h14 (And.intro h15 (And.intro h57 (And.intro (lenm encI s2) (And.intro h58 (And.intro h59 (And.intro (siM_ok h63) (And.intro h64 (And.intro h67 (And.intro (lenm encI s2) (And.intro h68 (And.intro h69 True.intro))))))))))))))) (by kernel_rfl)
                  · have hE : some (Ctl.ret (([] : List Pair), false)) = some c1 := hM
                    have hE := Option.some.inj hE
                    subst hE
                    have hE : some (([] : List Pair), false) = some r := hK1
                    have hE := Option.some.inj hE
                    subst hE
                    exact pr R 9999 [.as 18 true, .ix [.int .u8 v10], .call false [] (.o (.c (.v (.bool v12)))) [] [], .as 27 true, .as 23 false, .as 110 true, .ln (s2.length), .as 115 true, .as 118 false, .ix [.int .u8 v62], .as 107 false, .as 136 true, .ln (s2.length), .as 141 false, .new 21] [.sw 21 1000] [] [1000] (And.intro h9 (And.intro (siM_ok h11) (And.intro (spec_l1In_ok (w64 v10) 49 57 v12 h13) (And.intro h14 (And.intro h15 (And.intro h57 (And.intro (lenm encI s2) (And.intro h58 (And.intro h59 (And.intro (siM_ok h63) (And.intro h64 (And.intro h67 (And.intro (lenm encI s2) (And.intro h68 True.intro)))))))))))))) (by kernel_rfl)
                · have hE : some (Ctl.ret (([] : List Pair), false)) = some c1 := hM
                  have hE := Option.some.inj hE
                  subst hE
                  have hE : some (([] : List Pair), false) = some r := hK1
                  have hE := Option.some.inj hE
                  subst hE
                  exact pr R 9999 [.as 18 true, .ix [.int .u8 v10], .call false [] (.o (.c (.v (.bool v12)))) [] [], .as 27 true, .as 23 false, .as 110 true, .ln (s2.length), .as 115 true, .as 118 false, .ix [.int .u8 v62], .as 107 false, .as 136 false, .new 22] [.sw 22 1000] [] [1000] (And.intro h9 (And.intro (siM_ok h11) (And.intro (spec_l1In_ok (w64 v10) 49 57 v12 h13) (And.intro h14 (And.intro h15 (And.intro h57 (And.intro (lenm encI s2) (And.intro h58 (And.intro h59 (And.intro (siM_ok h63) (And.intro h64 (And.intro h67 True.intro)))))))))))) (by kernel_rfl)
          · rcases cond_cases hM with ⟨h70, hM⟩ | ⟨h70, hM⟩
            · rcases cond_cases hM with ⟨h71, hM⟩ | ⟨h71, hM⟩
              · rcases cond_cases hM with ⟨h72, hM⟩ | ⟨h72, hM⟩
                · have hE : some (Ctl.next (s1, s2, true, w64 (s4 + 1))) = some c1 := hM
                  have hE := Option.some.inj hE
                  subst hE
                  exact pc R 9999 [.as 18 true, .ix [.int .u8 v10], .call false [] (.o (.c (.v (.bool v12)))) [] [], .as 27 true, .as 23 false, .as 110 true, .ln (s2.length), .as 115 false, .as 136 true, .ln (s2.length), .as 141 true, .as 133 true] [.keep [0, 4, 5, 6, 7] [0, 1]] (And.intro h9 (And.intro (siM_ok h11) (And.intro (spec_l1In_ok (w64 v10) 49 57 v12 h13) (And.intro h14 (And.intro h15 (And.intro h57 (And.intro (lenm encI s2) (And.intro h58 (And.intro h70 (And.intro (lenm encI s2) (And.intro h71 (And.intro h72 True.intro)))))))))))) (by kernel_rfl) (li (Sf := spec_ReadManifest_L1_S a0) (M := Mk (spec_ReadManifest_L1 a0) (spec_ReadManifest_L1_k) r) (k := [.blk 0, .code (cAt Tryd.f16 [1, 1, 1, 1, 1])]) (Nat.lt_succ_self m1) hK1)
                · have hE : some (Ctl.ret (([] : List Pair), false)) = some c1 := hM
                  have hE := Option.some.inj hE
                  subst hE
                  have hE : some (([] : List Pair), false) = some r := hK1
                  have hE := Option.some.inj hE
                  subst hE
                  exact pr R 9999 [.as 18 true, .ix [.int .u8 v10], .call false [] (.o (.c (.v (.bool v12)))) [] [], .as 27 true, .as 23 false, .as 110 true, .ln (s2.length), .as 115 false, .as 136 true, .ln (s2.length), .as 141 true, .as 133 false, .new 23] [.sw 23 1000] [] [1000] (And.intro h9 (And.intro (siM_ok h11) (And.intro (spec_l1In_ok (w64 v10) 49 57 v12 h13) (And.intro h14 (And.intro h15 (And.intro h57 (And.intro (lenm encI s2) (And.intro h58 (And.intro h70 (And.intro (lenm encI s2) (And.intro h71 (And.intro h72 True.intro)))))))))))) (by kernel_rfl)
              · have hE : some (Ctl.ret (([] : List Pair), false)) = some c1 := hM
                have hE := Option.some.inj hE
                subst hE
                have hE : some (([] : List Pair), false) = some r := hK1
                have hE := Option.some.inj hE
                subst hE
                exact pr R 9999 [.as 18 true, .ix [.int .u8 v10], .call false [] (.o (.c (.v (.bool v12)))) [] [], .as 27 true, .as 23 false, .as 110 true, .ln (s2.length), .as 115 false, .as 136 true, .ln (s2.length), .as 141 false, .new 24] [.sw 24 1000] [] [1000] (And.intro h9 (And.intro (siM_ok h11) (And.intro (spec_l1In_ok (w64 v10) 49 57 v12 h13) (And.intro h14 (And.intro h15 (And.intro h57 (And.intro (lenm encI s2) (And.intro h58 (And.intro h70 (And.intro (lenm encI s2) (And.intro h71 True.intro))))))))))) (by kernel_rfl)
            · have hE : some (Ctl.ret (([] : List Pair), false)) = some c1 := hM
              have hE := Option.some.inj hE
              subst hE
              have hE : some (([] : List Pair), false) = some r := hK1
              have hE := Option.some.inj hE
              subst hE
              exact pr R 9999 [.as 18 true, .ix [.int .u8 v10], .call false [] (.o (.c (.v (.bool v12)))) [] [], .as 27 true, .as 23 false, .as 110 true, .ln (s2.length), .as 115 false, .as 136 false, .new 25] [.sw 25 1000] [] [1000] (And.intro h9 (And.intro (siM_ok h11) (And.intro (spec_l1In_ok (w64 v10) 49 57 v12 h13) (And.intro h14 (And.intro h15 (And.intro h57 (And.intro (lenm encI s2) (And.intro h58 (And.intro h70 True.intro))))))))) (by kernel_rfl)
        · rcases cond_cases hM with ⟨h73, hM⟩ | ⟨h73, hM⟩
          · rcases cond_cases hM with ⟨h74, hM⟩ | ⟨h74, hM⟩
            · rcases cond_cases hM with ⟨h75, hM⟩ | ⟨h75, hM⟩
              · have hE : some (Ctl.next (s1, s2, true, w64 (s4 + 1))) = some c1 := hM
                have hE := Option.some.inj hE
                subst hE
                exact pc R 9999 [.as 18 true, .ix [.int .u8 v10], .call false [] (.o (.c (.v (.bool v12)))) [] [], .as 27 true, .as 23 false, .as 110 false, .as 136 true, .ln (s2.length), .as 141 true, .as 133 true] [.keep [0, 4, 5, 6, 7] [0, 1]] (And.intro h9 (And.intro (siM_ok h11) (And.intro (spec_l1In_ok (w64 v10) 49 57 v12 h13) (And.intro h14 (And.intro h15 (And.intro h57 (And.intro h73 (And.intro (lenm encI s2) (And.intro h74 (And.intro h75 True.intro)))))))))) (by kernel_rfl) (li (Sf := spec_ReadManifest_L1_S a0) (M := Mk (spec_ReadManifest_L1 a0) (spec_ReadManifest_L1_k) r) (k := [.blk 0, .code (cAt Tryd.f16 [1, 1, 1, 1, 1])]) (Nat.lt_succ_self m1) hK1)
              · have hE : some (Ctl.ret (([] : List Pair), false)) = some c1 := hM
                have hE := Option.some.inj hE
                subst hE
                have hE : some (([] : List Pair), false) = some r := hK1
                have hE := Option.some.inj hE
                subst hE
                exact pr R 9999 [.as 18 true, .ix [.int .u8 v10], .call false [] (.o (.c (.v (.bool v12)))) [] [], .as 27 true, .as 23 false, .as 110 false, .as 136 true, .ln (s2.length), .as 141 true, .as 133 false, .new 26] [.sw 26 1000] [] [1000] (And.intro h9 (And.intro (siM_ok h11) (And.intro (spec_l1In_ok (w64 v10) 49 57 v12 h13) (And.intro h14 (And.intro h15 (And.intro h57 (And.intro h73 (And.intro (lenm encI s2) (And.intro h74 (And.intro h75 True.intro)))))))))) (by kernel_rfl)
            · have hE : some (Ctl.ret (([] : List Pair), false)) = some c1 := hM
              have hE := Option.some.inj hE
              subst hE
              have hE : some (([] : List Pair), false) = some r := hK1
              have hE := Option.some.inj hE
              subst hE
              exact pr R 9999 [.as 18 true, .ix [.int .u8 v10], .call false [] (.o (.c (.v (.bool v12)))) [] [], .as 27 true, .as 23 false, .as 110 false, .as 136 true, .ln (s2.length), .as 141 false, .new 27] [.sw 27 1000] [] [1000] (And.intro h9 (And.intro (siM_ok h11) (And.intro (spec_l1In_ok (w64 v10) 49 57 v12 h13) (And.intro h14 (And.intro h15 (And.intro h57 (And.intro h73 (And.intro (lenm encI s2) (And.intro h74 True.intro))))))))) (by kernel_rfl)
          · have hE : some (Ctl.ret (([] : List Pair), false)) = some c1 := hM
            have hE := Option.some.inj hE
            subst hE
            have hE : some (([] : List Pair), false) = some r := hK1
            have hE := Option.some.inj hE
            subst hE
            exact pr R 9999 [.as 18 true, .ix [.int .u8 v10], .call false [] (.o (.c (.v (.bool v12)))) [] [], .as 27 true, .as 23 false, .as 110 false, .as 136 false, .new 28] [.sw 28 1000] [] [1000] (And.intro h9 (And.intro (siM_ok h11) (And.intro (spec_l1In_ok (w64 v10) 49 57 v12 h13) (And.intro h14 (And.intro h15 (And.intro h57 (And.intro h73 True.intro))))))) (by kernel_rfl)
    · rcases cond_cases hM with ⟨h76, hM⟩ | ⟨h76, hM⟩
      · rcases cond_cases hM with ⟨h77, hM⟩ | ⟨h77, hM⟩
        · rcases cond_cases hM with ⟨h78, hM⟩ | ⟨h78, hM⟩
          · obtain ⟨v79, h80, hM⟩ := bind_some hM
            have hE : some (Ctl.next (s1, v79, false, w64 (s4 + 1))) = some c1 := hM
            have hE := Option.some.inj hE
            subst hE
            exact pc R 9999 [.as 18 true, .ix [.int .u8 v10], .call false [] (.o (.c (.v (.bool v12)))) [] [], .as 27 false, .as 110 true, .ln (s2.length), .as 115 true, .as 118 true, .ln (s2.length), .new 29, .nm (v79.map encI)] [.sw 29 1, .keep [0, 4, 5, 6, 7] [0, 1]] (And.intro h9 (And.intro (siM_ok h11) (And.intro (spec_l1In_ok (w64 v10) 49 57 v12 h13) (And.intro h14 (And.intro h76 (And.intro (lenm encI s2) (And.intro h77 (And.intro h78 (And.intro (lenm encI s2) (And.intro (slM_tr encI h80) True.intro)))))))))) (by kernel_rfl) (li (Sf := spec_ReadManifest_L1_S a0) (M := Mk (spec_ReadManifest_L1 a0) (spec_ReadManifest_L1_k) r) (k := [.blk 0, .code (cAt Tryd.f16 [1, 1, 1, 1, 1])]) (Nat.lt_succ_self m1) hK1)
          · obtain ⟨v81, h82, hM⟩ := bind_some hM
            rcases cond_cases hM with ⟨h83, hM⟩ | ⟨h83, hM⟩
            · obtain ⟨v84, h85, hM⟩ := bind_some hM
              have hE : some (Ctl.next (s1, v84, false, w64 (s4 + 1))) = some c1 := hM
              have hE := Option.some.inj hE
              subst hE
              exact pc R 9999 [.as 18 true, .ix [.int .u8 v10], .call false [] (.o (.c (.v (.bool v12)))) [] [], .as 27 false, .as 110 true, .ln (s2.length), .as 115 true, .as 118 false, .ix [.int .u8 v81], .as 107 true, .ln (s2.length), .new 30, .nm (v84.map encI)] [.sw 30 1, .keep [0, 4, 5, 6, 7] [0, 1]] (And.intro h9 (And.intro (siM_ok h11) (And.intro (spec_l1In_ok (w64 v10) 49 57 v12 h13) (And.intro h14 (And.intro h76 (And.intro (lenm encI s2) (And.intro h77 (And.intro h78 (And.intro (siM_ok h82) (And.intro h83 (And.intro (lenm encI s2) (And.intro (slM_tr encI h85) True.intro)))))))))))) (by kernel_rfl) (li (Sf := spec_ReadManifest_L1_S a0) (M := Mk (spec_ReadManifest_L1 a0) (spec_ReadManifest_L1_k) r) (k := [.blk 0, .code (cAt Tryd.f16 [1, 1, 1, 1, 1])]) (Nat.lt_succ_self m1) hK1)
            · rcases cond_cases hM with ⟨h86, hM⟩ | ⟨h86, hM⟩
              · rcases cond_cases hM with ⟨h87, hM⟩ | ⟨h87, hM⟩
                · rcases cond_cases hM with ⟨h88, hM⟩ | ⟨h88, hM⟩
                  · have hE : some (Ctl.next (s1, s2, true, w64 (s4 + 1))) = some c1 := hM
                    have hE := Option.some.inj hE
                    subst hE
                    exact pc R 9999 [.as 18 true, .ix [.int .u8 v10], .call false [] (.o (.c (.v (.bool v12)))) [] [], .as 27 false, .as 110 true, .ln (s2.length), .as 115 true, .as 118 false, .ix [.int .u8 v81], .as 107 false, .as 136 true, .ln (s2.length), .as 141 true, .as 133 true] [.keep [0, 4, 5, 6, 7] [0, 1]] (And.intro h9 (And.intro (siM_ok h11) (And.intro (spec_l1In_ok (w64 v10) 49 57 v12 h13) (And.intro h14 (And.intro h76 (And.intro (lenm encI s2) (And.intro h77 (And.intro h78 (And.intro (siM_ok h82) (And.intro h83 (And.intro h86 (And.intro (lenm encI s2) (And.intro h87 (And.intro h88 True.intro)))))))))))))) (by kernel_rfl) (li (Sf := spec_ReadManifest_L1_S a0) (M := Mk (spec_ReadManifest_L1 a0) (spec_ReadManifest_L1_k) r) (k := [.blk 0, .code (cAt Tryd.f16 [1, 1, 1, 1, 1])]) (Nat.lt_succ_self m1) hK1)
                  · have hE : some (Ctl.ret (([] : List Pair), false)) = some c1 := hM
                    have hE := Option.some.inj hE
                    subst hE
                    have hE : some (([] : List Pair), false) = some r := hK1
                    have hE := Option.some.inj hE
                    subst hE
                    exact pr R 9999 [.as 18 true, .ix [.int .u8 v10], .call false [] (.o (.c (.v (.bool v12)))) [] [], .as 27 false, .as 110 true, .ln (s2.length), .as 115 true, .as 118 false, .ix [.int .u8 v81], .as 107 false, .as 136 true, .ln (s2.length), .as 141 true, .as 133 false, .new 31] [.sw 31 1000] [] [1000] (And.intro h9 (And.intro (siM_ok h11) (And.intro (spec_l1In_ok (w64 v10) 49 57 v12 h13) (And.intro h14 (And.intro h76 (And.intro (lenm encI s2) (And.intro h77 (And.intro h78 (And.intro (siM_ok h82) (And.intro h83 (And.intro h86 (And.intro (lenm encI s2) (And.intro h87 (And.intro h88 True.intro)))))))))))))) (by kernel_rfl)
                · have hE : some (Ctl.ret (([] : List Pair), false)) = some c1 := hM
                  have hE := Option.some.inj hE
                  subst hE
                  have hE : some (([] : List Pair), false) = some r := hK1
                  have hE := Option.some.inj hE
                  subst hE
                  exact pr R 9999 [.as 18 true, .ix [.int .u8 v10], .call false [] (.o (.c (.v (.bool v12)))) [] [], .as 27 false, .as 110 true, .ln (s2.length), .as 115 true, .as 118 false, .ix [.int .u8 v81], .as 107 false, .as 136 true, .ln (s2.length), .as 141 false, .new 32] [.sw 32 1000] [] [1000] (And.intro h9 (And.intro (siM_ok h11) (And.intro (spec_l1In_ok (w64 v10) 49 57 v12 h13) (And.intro h14 (And.intro h76 (And.intro (lenm encI s2) (And.intro h77 (And.intro h78 (And.intro (siM_ok h82) (And.intro h83 (And.intro h86 (And.intro (lenm encI s2) (And.intro h87 True.intro))))))))))))) (by kernel_rfl)
              · have hE : some (Ctl.ret (([] : List Pair), false)) = some c1 := hM
                have hE := Option.some.inj hE
                subst hE
                have hE : some (([] : List Pair), false) = some r := hK1
                have hE := Option.some.inj hE
                subst hE
                exact pr R 9999 [.as 18 true, .ix [.int .u8 v10], .call false [] (.o (.c (.v (.bool v12)))) [] [], .as 27 false, .as 110 true, .ln (s2.length), .as 115 true, .as 118 false, .ix [.int .u8 v81], .as 107 false, .as 136 false, .new 33] [.sw 33 1000] [] [1000] (And.intro h9 (And.intro (siM_ok h11) (And.intro (spec_l1In_ok (w64 v10) 49 57 v12 h13) (And.intro h14 (And.intro h76 (And.intro (lenm encI s2) (And.intro h77 (And.intro h78 (And.intro (siM_ok h82) (And.intro h83 (And.intro h86 True.intro))))))))))) (by kernel_rfl)
        · rcases cond_cases hM with ⟨h89, hM⟩ | ⟨h89, hM⟩
          · rcases cond_cases hM with ⟨h90, hM⟩ | ⟨h90, hM⟩
            · rcases cond_cases hM with ⟨h91, hM⟩ | ⟨h91, hM⟩
              · have hE : some (Ctl.next (s1, s2, true, w64 (s4 + 1))) = some c1 := hM
                have hE := Option.some.inj hE
                subst hE
                exact pc R 9999 [.as 18 true, .ix [.int .u8 v10], .call false [] (.o (.c (.v (.bool v12)))) [] [], .as 27 false, .as 110 true, .ln (s2.length), .as 115 false, .as 136 true, .ln (s2.length), .as 141 true, .as 133 true] [.keep [0, 4, 5, 6, 7] [0, 1]] (And.intro h9 (And.intro (siM_ok h11) (And.intro (spec_l1In_ok (w64 v10) 49 57 v12 h13) (And.intro h14 (And.intro h76 (And.intro (lenm encI s2) (And.intro h77 (And.intro h89 (And.intro (lenm encI s2) (And.intro h90 (And.intro h91 True.intro))))))))))) (by kernel_rfl) (li (Sf := spec_ReadManifest_L1_S a0) (M := Mk (spec_ReadManifest_L1 a0) (spec_ReadManifest_L1_k) r) (k := [.blk 0, .code (cAt Tryd.f16 [1, 1, 1, 1, 1])]) (Nat.lt_succ_self m1) hK1)
              · have hE : some (Ctl.ret (([] : List Pair), false)) = some c1 := hM
                have hE := Option.some.inj hE
                subst hE
                have hE : some (([] : List Pair), false) = some r := hK1
                have hE := Option.some.inj hE
                subst hE
                exact pr R 9999 [.as 18 true, .ix [.int .u8 v10], .call false [] (.o (.c (.v (.bool v12)))) [] [], .as 27 false, .as 110 true, .ln (s2.length), .as 115 false, .as 136 true, .ln (s2.length), .as 141 true, .as 133 false, .new 34] [.sw 34 1000] [] [1000] (And.intro h9 (And.intro (siM_ok h11) (And.intro (spec_l1In_ok (w64 v10) 49 57 v12 h13) (And.intro h14 (And.intro h76 (And.intro (lenm encI s2) (And.intro h77 (And.intro h89 (And.intro (lenm encI s2) (And.intro h90 (And.intro h91 True.intro))))))))))) (by kernel_rfl)
            · have hE : some (Ctl.ret (([] : List Pair), false)) = some c1 := hM
              have hE := Option.some.inj hE
              subst hE
              have hE : some (([] : List Pair), false) = some r := hK1
              have hE := Option.some.inj hE
              subst hE
              exact pr R 9999 [.as 18 true, .ix [.int .u8 v10], .call false [] (.o (.c (.v (.bool v12)))) [] [], .as 27 false, .as 110 true, .ln (s2.length), .as 115 false, .as 136 true, .ln (s2.length), .as 141 false, .new 35] [.sw 35 1000] [] [1000] (And.intro h9 (And.intro (siM_ok h11) (And.intro (spec_l1In_ok (w64 v10) 49 57 v12 h13) (And.intro h14 (And.intro h76 (And.intro (lenm encI s2) (And.intro h77 (And.intro h89 (And.intro (lenm encI s2) (And.intro h90 True.intro)))))))))) (by kernel_rfl)
          · have hE : some (Ctl.ret (([] : List Pair), false)) = some c1 := hM
            have hE := Option.some.inj hE
            subst hE
            have hE : some (([] : List Pair), false) = some r := hK1
            have hE := Option.some.inj hE
            subst hE
            exact pr R 9999 [.as 18 true, .ix [.int .u8 v10], .call false [] (.o (.c (.v (.bool v12)))) [] [], .as 27 false, .as 110 true, .ln (s2.length), .as 115 false, .as 136 false, .new 36] [.sw 36 1000] [] [1000] (And.intro h9 (And.intro (siM_ok h11) (And.intro (spec_l1In_ok (w64 v10) 49 57 v12 h13) (And.intro h14 (And.intro h76 (And.intro (lenm encI s2) (And.intro h77 (And.intro h89 True.intro)))))))) (by kernel_rfl)
      · rcases cond_cases hM with ⟨h92, hM⟩ | ⟨h92, hM⟩
        · rcases cond_cases hM with ⟨h93, hM⟩ | ⟨h93, hM⟩
          · rcases cond_cases hM with ⟨h94, hM⟩ | ⟨h94, hM⟩
            · have hE : some (Ctl.next (s1, s2, true, w64 (s4 + 1))) = some c1 := hM
              have hE := Option.some.inj hE
              subst hE
              exact pc R 9999 [.as 18 true, .ix [.int .u8 v10], .call false [] (.o (.c (.v (.bool v12)))) [] [], .as 27 false, .as 110 false, .as 136 true, .ln (s2.length), .as 141 true, .as 133 true] [.keep [0, 4, 5, 6, 7] [0, 1]] (And.intro h9 (And.intro (siM_ok h11) (And.intro (spec_l1In_ok (w64 v10) 49 57 v12 h13) (And.intro h14 (And.intro h76 (And.intro h92 (And.intro (lenm encI s2) (And.intro h93 (And.intro h94 True.intro))))))))) (by kernel_rfl) (li (Sf := spec_ReadManifest_L1_S a0) (M := Mk (spec_ReadManifest_L1 a0) (spec_ReadManifest_L1_k) r) (k := [.blk 0, .code (cAt Tryd.f16 [1, 1, 1, 1, 1])]) (Nat.lt_succ_self m1) hK1)
            · have hE : some (Ctl.ret (([] : List Pair), false)) = some c1 := hM
              have hE := Option.some.inj hE
              subst hE
              have hE : some (([] : List Pair), false) = some r := hK1
              have hE := Option.some.inj hE
              subst hE
              exact pr R 9999 [.as 18 true, .ix [.int .u8 v10], .call false [] (.o (.c (.v (.bool v12)))) [] [], .as 27 false, .as 110 false, .as 136 true, .ln (s2.length), .as 141 true, .as 133 false, .new 37] [.sw 37 1000] [] [1000] (And.intro h9 (And.intro (siM_ok h11) (And.intro (spec_l1In_ok (w64 v10) 49 57 v12 h13) (And.intro h14 (And.intro h76 (And.intro h92 (And.intro (lenm encI s2) (And.intro h93 (And.intro h94 True.intro))))))))) (by kernel_rfl)
          · have hE : some (Ctl.ret (([] : List Pair), false)) = some c1 := hM
            have hE := Option.some.inj hE
            subst hE
            have hE : some (([] : List Pair), false) = some r := hK1
            have hE := Option.some.inj hE
            subst hE
            exact pr R 9999 [.as 18 true, .ix [.int .u8 v10], .call false [] (.o (.c (.v (.bool v12)))) [] [], .as 27 false, .as 110 false, .as 136 true, .ln (s2.length), .as 141 false, .new 38] [.sw 38 1000] [] [1000] (And.intro h9 (And.intro (siM_ok h11) (And.intro (spec_l1In_ok (w64 v10) 49 57 v12 h13) (And.intro h14 (And.intro h76 (And.intro h92 (And.intro (lenm encI s2) (And.intro h93 True.intro)))))))) (by kernel_rfl)
        · have hE : some (Ctl.ret (([] : List Pair), false)) = some c1 := hM
          have hE := Option.some.inj hE
          subst hE
          have hE : some (([] : List Pair), false) = some r := hK1
          have hE := Option.some.inj hE
          subst hE
          exact pr R 9999 [.as 18 true, .ix [.int .u8 v10], .call false [] (.o (.c (.v (.bool v12)))) [] [], .as 27 false, .as 110 false, .as 136 false, .new 39] [.sw 39 1000] [] [1000] (And.intro h9 (And.intro (siM_ok h11) (And.intro (spec_l1In_ok (w64 v10) 49 57 v12 h13) (And.intro h14 (And.intro h76 (And.intro h92 True.intro)))))) (by kernel_rfl)
  · have hE : some (Ctl.brk (s1, s2)) = some c1 := hM
    have hE := Option.some.inj hE
    subst hE
    exact pc R 5 [.as 18 false] [.keep [4, 5] [0, 1]] (And.intro h9 True.intro) (by kernel_rfl) (K1 s1 s2 hK1)

-- loop.example/g03014/laws.eqPair
def laws_eqPair (a0 : Pair) (a1 : Pair) : Option Bool :=
  bif (a0.Id != a1.Id) then
  some false
  else
  bif (a0.In != a1.In) then
  some false
  else
  some true
theorem laws_eqPair_ok (a0 : Pair) (a1 : Pair) (r : Bool) (hM : laws_eqPair a0 a1 = some r) :
    Con Tryd.prog 35 [.c (.v (.agg (Pair.enc a0).toArray)), .c (.v (.agg (Pair.enc a1).toArray))] [] (.o (.c (.v (.bool r)))) [] [] := by
  unfold laws_eqPair at hM
  refine cn (N := 15) (pids := []) Tryd_mixed Tryd.func35 (by kernel_rfl) (by kernel_rfl) (by kernel_rfl) rfl fun ρ g w R => ?_
  rcases cond_cases hM with ⟨h1, hM⟩ | ⟨h1, hM⟩
  · have hE : some false = some r := hM
    have hE := Option.some.inj hE
    subst hE
    exact pr R 9999 [.new 0, .new 1, .as 9 true] [] [] [] (And.intro h1 True.intro) (by kernel_rfl)
  · rcases cond_cases hM with ⟨h2, hM⟩ | ⟨h2, hM⟩
    · have hE : some false = some r := hM
      have hE := Option.some.inj hE
      subst hE
      exact pr R 9999 [.new 0, .new 1, .as 9 false, .as 14 true] [] [] [] (And.intro h1 (And.intro h2 True.intro)) (by kernel_rfl)
    · have hE : some true = some r := hM
      have hE := Option.some.inj hE
      subst hE
      exact pr R 9999 [.new 0, .new 1, .as 9 false, .as 14 false] [] [] [] (And.intro h1 (And.intro h2 True.intro)) (by kernel_rfl)

-- loop.example/g03014/laws.eqPairS
def laws_eqPairS_L1_b (a0 : (List Pair)) (a1 : (List Pair)) (s2 : Int) : Option (Ctl Int Unit Bool) :=
  bif (decide (s2 < (a0.length : Int))) then
  (gi a0 s2).bind fun v4 =>
  (gi a1 s2).bind fun v6 =>
  (laws_eqPair v4 v6).bind fun v8 =>
  bif (!v8) then
  some (.ret false)
  else
  some (.next (w64 (s2 + 1)))
  else
  some (.brk ())
def laws_eqPairS_L1 (a0 : (List Pair)) (a1 : (List Pair)) (s : Int) : Option (Ctl Int Unit Bool) := laws_eqPairS_L1_b a0 a1 s
def laws_eqPairS_L1_s (a0 : (List Pair)) (a1 : (List Pair)) (s2 : Int) : St := ⟨[(0, .o (.c (.rs 2 (a0.map Pair.enc)))), (1, .o (.c (.rs 2 (a1.map Pair.enc)))), (5, .o (.c (.v (.int .i64 s2))))], []⟩
def laws_eqPairS_L1_S (a0 : (List Pair)) (a1 : (List Pair)) (s : Int) : St := laws_eqPairS_L1_s a0 a1 s
def laws_eqPairS_L1_a : Option Bool :=
  some true
def laws_eqPairS_L1_k (x : (Unit) ⊕ (Bool)) : Option Bool := match x with
  | .inl t => laws_eqPairS_L1_a
  | .inr y => some y
def laws_eqPairS (a0 : (List Pair)) (a1 : (List Pair)) : Option Bool :=
  bif ((a0.length : Int) != (a1.length : Int)) then
  some false
  else
  (loopM (laws_eqPairS_L1 a0 a1) big 0).bind (laws_eqPairS_L1_k)
theorem laws_eqPairS_ok (a0 : (List Pair)) (a1 : (List Pair)) (r : Bool) (hM : laws_eqPairS a0 a1 = some r) :
    Con Tryd.prog 17 [.c (.rs 2 (a0.map Pair.enc)), .c (.rs 2 (a1.map Pair.enc))] [] (.o (.c (.v (.bool r)))) [] [] := by
  unfold laws_eqPairS at hM
  refine cn (N := 27) (pids := []) Tryd_mixed Tryd.func17 (by kernel_rfl) (by kernel_rfl) (by kernel_rfl) rfl fun ρ g w R => ?_
  rcases cond_cases hM with ⟨h1, hM⟩ | ⟨h1, hM⟩
  · have hE : some false = some r := hM
    have hE := Option.some.inj hE
    subst hE
    exact pr R 9999 [.ln (a0.length), .ln (a1.length), .as 10 true] [] [] [] (And.intro (lenm Pair.enc a0) (And.intro (lenm Pair.enc a1) (And.intro h1 True.intro))) (by kernel_rfl)
  · have K1 : ∀ (_ : Unit), laws_eqPairS_L1_a = some r → Gr R [.code (cAt Tryd.f17 [1, 1, 1])] (⟨[], []⟩) := by
      intro _ hM
      unfold laws_eqPairS_L1_a at hM
      have hE : some true = some r := hM
      have hE := Option.some.inj hE
      subst hE
      exact pr R 9999 [] [] [] [] True.intro (by kernel_rfl)
    refine pc R 9999 [.ln (a0.length), .ln (a1.length), .as 10 false] [.keep [0, 1, 5] []] (k' := [.code (.loop (cAt Tryd.f17 [1, 1, 0, 1, 0, 0])), .blk 0, .code (cAt Tryd.f17 [1, 1, 1])]) (S' := laws_eqPairS_L1_S a0 a1 0) (And.intro (lenm Pair.enc a0) (And.intro (lenm Pair.enc a1) (And.intro h1 True.intro))) (by kernel_rfl) ?_
    refine lq (laws_eqPairS_L1_S a0 a1) (body := laws_eqPairS_L1 a0 a1) (k := laws_eqPairS_L1_k) hM fun m1 s c1 hM hK1 => ?_
    obtain ⟨s2, hs⟩ : ∃ z, z = s := ⟨_, rfl⟩
    subst hs
    have hM : laws_eqPairS_L1_b a0 a1 s2 = some c1 := hM
    unfold laws_eqPairS_L1_b at hM
    rcases cond_cases hM with ⟨h3, hM⟩ | ⟨h3, hM⟩
    · obtain ⟨v4, h5, hM⟩ := bind_some hM
      obtain ⟨v6, h7, hM⟩ := bind_some hM
      obtain ⟨v8, h9, hM⟩ := bind_some hM
      rcases cond_cases hM with ⟨h10, hM⟩ | ⟨h10, hM⟩
      · have hE : some (Ctl.ret false) = some c1 := hM
        have hE := Option.some.inj hE
        subst hE
        have hE : some false = some r := hK1
        have hE := Option.some.inj hE
        subst hE
        exact pr R 9999 [.ln (a0.length), .as 14 true, .ix (Pair.enc v4), .ix (Pair.enc v6), .call false [] (.o (.c (.v (.bool v8)))) [] [], .as 26 true] [] [] [] (And.intro (lenm Pair.enc a0) (And.intro h3 (And.intro (gi_map Pair.enc h5) (And.intro (gi_map Pair.enc h7) (And.intro (laws_eqPair_ok v4 v6 v8 h9) (And.intro h10 True.intro)))))) (by kernel_rfl)
      · have hE : some (Ctl.next (w64 (s2 + 1))) = some c1 := hM
        have hE := Option.some.inj hE
        subst hE
        exact pc R 9999 [.ln (a0.length), .as 14 true, .ix (Pair.enc v4), .ix (Pair.enc v6), .call false [] (.o (.c (.v (.bool v8)))) [] [], .as 26 false] [.keep [0, 1, 5] []] (And.intro (lenm Pair.enc a0) (And.intro h3 (And.intro (gi_map Pair.enc h5) (And.intro (gi_map Pair.enc h7) (And.intro (laws_eqPair_ok v4 v6 v8 h9) (And.intro h10 True.intro)))))) (by kernel_rfl) (li (Sf := laws_eqPairS_L1_S a0 a1) (M := Mk (laws_eqPairS_L1 a0 a1) (laws_eqPairS_L1_k) r) (k := [.blk 0, .code (cAt Tryd.f17 [1, 1, 1])]) (Nat.lt_succ_self m1) hK1)
    · have hE : some (Ctl.brk ()) = some c1 := hM
      have hE := Option.some.inj hE
      subst hE
      exact pc R 5 [.ln (a0.length), .as 14 false] [.keep [] []] (And.intro (lenm Pair.enc a0) (And.intro h3 True.intro)) (by kernel_rfl) (K1 () hK1)

-- loop.example/g03014/laws.markPairS
def laws_markPairS_L1_b (s1 : (List Pair)) (s2 : Int) (s3 : Int) : Option (Ctl ((List Pair) × Int × Int) ((List Pair) × Int) (Int × (List Pair))) :=
  bif (decide (s3 < (s1.length : Int))) then
  (gi s1 s3).bind fun v7 =>
  (gi (List.set s1 (Int.toNat s3) (Pair.mk s2 v7.In)) s3).bind fun v9 =>
  some (.next (List.set (List.set s1 (Int.toNat s3) (Pair.mk s2 v7.In)) (Int.toNat s3) (Pair.mk v9.Id (w64 (s2 + 1))), w64 ((w64 (s2 + 1)) + 1), w64 (s3 + 1)))
  else
  some (.brk (s1, s2))
def laws_markPairS_L1 (s : (List Pair) × Int × Int) : Option (Ctl ((List Pair) × Int × Int) ((List Pair) × Int) (Int × (List Pair))) := laws_markPairS_L1_b s.1 s.2.1 s.2.2
def laws_markPairS_L1_s (s1 : (List Pair)) (s2 : Int) (s3 : Int) : St := ⟨[(0, .o (.c (.sl 900))), (1, .o (.c (.v (.int .i64 s2)))), (5, .o (.c (.v (.int .i64 s3))))], [(900, .row 34 2 (s1.map Pair.enc))]⟩
def laws_markPairS_L1_S (s : (List Pair) × Int × Int) : St := laws_markPairS_L1_s s.1 s.2.1 s.2.2
def laws_markPairS_L1_a (s4 : (List Pair)) (s5 : Int) : Option (Int × (List Pair)) :=
  some (s5, s4)
def laws_markPairS_L1_k (x : ((List Pair) × Int) ⊕ (Int × (List Pair))) : Option (Int × (List Pair)) := match x with
  | .inl t => laws_markPairS_L1_a t.1 t.2
  | .inr y => some y
def laws_markPairS (a0 : (List Pair)) (a1 : Int) : Option (Int × (List Pair)) :=
  (loopM (laws_markPairS_L1) big (a0, a1, 0)).bind (laws_markPairS_L1_k)
theorem laws_markPairS_ok (a0 : (List Pair)) (a1 : Int) (r : Int × (List Pair)) (hM : laws_markPairS a0 a1 = some r) :
    Con Tryd.prog 18 [.c (.sl 900), .c (.v (.int .i64 a1))] [(900, .row 34 2 (a0.map Pair.enc))] (.o (.c (.v (.int .i64 r.1)))) [(900, .row 34 2 (r.2.map Pair.enc))] [] := by
  unfold laws_markPairS at hM
  refine cn (N := 27) (pids := [900]) Tryd_mixed Tryd.func18 (by kernel_rfl) (by kernel_rfl) (by kernel_rfl) rfl fun ρ g w R => ?_
  have K1 : ∀ (s4 : (List Pair)) (s5 : Int), laws_markPairS_L1_a s4 s5 = some r → Gr R [.code (cAt Tryd.f18 [1, 1])] (⟨[(0, .o (.c (.sl 900))), (1, .o (.c (.v (.int .i64 s5))))], [(900, .row 34 2 (s4.map Pair.enc))]⟩) := by
    intro s4 s5 hM
    unfold laws_markPairS_L1_a at hM
    have hE : some (s5, s4) = some r := hM
    have hE := Option.some.inj hE
    subst hE
    exact pr R 9999 [] [] [900] [] True.intro (by kernel_rfl)
  refine pc R 9999 [] [.keep [0, 1, 5] [900]] (k' := [.code (.loop (cAt Tryd.f18 [1, 0, 1, 0, 0])), .blk 0, .code (cAt Tryd.f18 [1, 1])]) (S' := laws_markPairS_L1_S (a0, a1, 0)) True.intro (by kernel_rfl) ?_
  refine lq (laws_markPairS_L1_S) (body := laws_markPairS_L1) (k := laws_markPairS_L1_k) hM fun m1 s c1 hM hK1 => ?_
  obtain ⟨s1, s2, s3⟩ := s
  have hM : laws_markPairS_L1_b s1 s2 s3 = some c1 := hM
  unfold laws_markPairS_L1_b at hM
  rcases cond_cases hM with ⟨h6, hM⟩ | ⟨h6, hM⟩
  · obtain ⟨v7, h8, hM⟩ := bind_some hM
    obtain ⟨v9, h10, hM⟩ := bind_some hM
    have hE : some (Ctl.next (List.set (List.set s1 (Int.toNat s3) (Pair.mk s2 v7.In)) (Int.toNat s3) (Pair.mk v9.Id (w64 (s2 + 1))), w64 ((w64 (s2 + 1)) + 1), w64 (s3 + 1))) = some c1 := hM
    have hE := Option.some.inj hE
    subst hE
    exact pc R 9999 [.ln (s1.length), .as 9 true, .ix (Pair.enc v7), .nm ((List.set s1 (Int.toNat s3) (Pair.mk s2 v7.In)).map Pair.enc), .ix (Pair.enc v9), .nm ((List.set (List.set s1 (Int.toNat s3) (Pair.mk s2 v7.In)) (Int.toNat s3) (Pair.mk v9.Id (w64 (s2 + 1)))).map Pair.enc)] [.keep [0, 1, 5] [900]] (And.intro (lenm Pair.enc s1) (And.intro h6 (And.intro (gi_lt Pair.enc h8) (And.intro (And.intro (gi_map Pair.enc h8).2 (set_map Pair.enc s1 (Int.toNat s3) (Pair.mk s2 v7.In))) (And.intro (gi_lt Pair.enc h10) (And.intro (And.intro (gi_map Pair.enc h10).2 (set_map Pair.enc (List.set s1 (Int.toNat s3) (Pair.mk s2 v7.In)) (Int.toNat s3) (Pair.mk v9.Id (w64 (s2 + 1))))) True.intro)))))) (by kernel_rfl) (li (Sf := laws_markPairS_L1_S) (M := Mk (laws_markPairS_L1) (laws_markPairS_L1_k) r) (k := [.blk 0, .code (cAt Tryd.f18 [1, 1])]) (Nat.lt_succ_self m1) hK1)
  · have hE : some (Ctl.brk (s1, s2)) = some c1 := hM
    have hE := Option.some.inj hE
    subst hE
    exact pc R 5 [.ln (s1.length), .as 9 false] [.keep [0, 1] [900]] (And.intro (lenm Pair.enc s1) (And.intro h6 True.intro)) (by kernel_rfl) (K1 s1 s2 hK1)

-- loop.example/g03014/laws.heldPairS
def laws_heldPairS_L1_b (a0 : (List Pair)) (s1 : Int) (s2 : Int) : Option (Ctl (Int × Int) Int Int) :=
  bif (decide (s2 < (a0.length : Int))) then
  (gi a0 s2).bind fun v5 =>
  bif (v5.Id != s1) then
  some (.ret (-1))
  else
  (gi a0 s2).bind fun v8 =>
  bif (v8.In != (w64 (s1 + 1))) then
  some (.ret (-1))
  else
  some (.next (w64 ((w64 (s1 + 1)) + 1), w64 (s2 + 1)))
  else
  some (.brk s1)
def laws_heldPairS_L1 (a0 : (List Pair)) (s : Int × Int) : Option (Ctl (Int × Int) Int Int) := laws_heldPairS_L1_b a0 s.1 s.2
def laws_heldPairS_L1_s (a0 : (List Pair)) (s1 : Int) (s2 : Int) : St := ⟨[(0, .o (.c (.rs 2 (a0.map Pair.enc)))), (1, .o (.c (.v (.int .i64 s1)))), (5, .o (.c (.v (.int .i64 s2))))], []⟩
def laws_heldPairS_L1_S (a0 : (List Pair)) (s : Int × Int) : St := laws_heldPairS_L1_s a0 s.1 s.2
def laws_heldPairS_L1_a (s3 : Int) : Option Int :=
  some s3
def laws_heldPairS_L1_k (x : (Int) ⊕ (Int)) : Option Int := match x with
  | .inl t => laws_heldPairS_L1_a t
  | .inr y => some y
def laws_heldPairS (a0 : (List Pair)) (a1 : Int) : Option Int :=
  (loopM (laws_heldPairS_L1 a0) big (a1, 0)).bind (laws_heldPairS_L1_k)
theorem laws_heldPairS_ok (a0 : (List Pair)) (a1 : Int) (r : Int) (hM : laws_heldPairS a0 a1 = some r) :
    Con Tryd.prog 19 [.c (.rs 2 (a0.map Pair.enc)), .c (.v (.int .i64 a1))] [] (.o (.c (.v (.int .i64 r)))) [] [] := by
  unfold laws_heldPairS at hM
  refine cn (N := 31) (pids := []) Tryd_mixed Tryd.func19 (by kernel_rfl) (by kernel_rfl) (by kernel_rfl) rfl fun ρ g w R => ?_
  have K1 : ∀ (s3 : Int), laws_heldPairS_L1_a s3 = some r → Gr R [.code (cAt Tryd.f19 [1, 1])] (⟨[(1, .o (.c (.v (.int .i64 s3))))], []⟩) := by
    intro s3 hM
    unfold laws_heldPairS_L1_a at hM
    have hE : some s3 = some r := hM
    have hE := Option.some.inj hE
    subst hE
    exact pr R 9999 [] [] [] [] True.intro (by kernel_rfl)
  refine pc R 9999 [] [.keep [0, 1, 5] []] (k' := [.code (.loop (cAt Tryd.f19 [1, 0, 1, 0, 0])), .blk 0, .code (cAt Tryd.f19 [1, 1])]) (S' := laws_heldPairS_L1_S a0 (a1, 0)) True.intro (by kernel_rfl) ?_
  refine lq (laws_heldPairS_L1_S a0) (body := laws_heldPairS_L1 a0) (k := laws_heldPairS_L1_k) hM fun m1 s c1 hM hK1 => ?_
  obtain ⟨s1, s2⟩ := s
  have hM : laws_heldPairS_L1_b a0 s1 s2 = some c1 := hM
  unfold laws_heldPairS_L1_b at hM
  rcases cond_cases hM with ⟨h4, hM⟩ | ⟨h4, hM⟩
  · obtain ⟨v5, h6, hM⟩ := bind_some hM
    rcases cond_cases hM with ⟨h7, hM⟩ | ⟨h7, hM⟩
    · have hE : some (Ctl.ret (-1)) = some c1 := hM
      have hE := Option.some.inj hE
      subst hE
      have hE : some (-1) = some r := hK1
      have hE := Option.some.inj hE
      subst hE
      exact pr R 9999 [.ln (a0.length), .as 9 true, .ix (Pair.enc v5), .as 18 true] [] [] [] (And.intro (lenm Pair.enc a0) (And.intro h4 (And.intro (gi_map Pair.enc h6) (And.intro h7 True.intro)))) (by kernel_rfl)
    · obtain ⟨v8, h9, hM⟩ := bind_some hM
      rcases cond_cases hM with ⟨h10, hM⟩ | ⟨h10, hM⟩
      · have hE : some (Ctl.ret (-1)) = some c1 := hM
        have hE := Option.some.inj hE
        subst hE
        have hE : some (-1) = some r := hK1
        have hE := Option.some.inj hE
        subst hE
        exact pr R 9999 [.ln (a0.length), .as 9 true, .ix (Pair.enc v5), .as 18 false, .ix (Pair.enc v8), .as 27 true] [] [] [] (And.intro (lenm Pair.enc a0) (And.intro h4 (And.intro (gi_map Pair.enc h6) (And.intro h7 (And.intro (gi_map Pair.enc h9) (And.intro h10 True.intro)))))) (by kernel_rfl)
      · have hE : some (Ctl.next (w64 ((w64 (s1 + 1)) + 1), w64 (s2 + 1))) = some c1 := hM
        have hE := Option.some.inj hE
        subst hE
        exact pc R 9999 [.ln (a0.length), .as 9 true, .ix (Pair.enc v5), .as 18 false, .ix (Pair.enc v8), .as 27 false] [.keep [0, 1, 5] []] (And.intro (lenm Pair.enc a0) (And.intro h4 (And.intro (gi_map Pair.enc h6) (And.intro h7 (And.intro (gi_map Pair.enc h9) (And.intro h10 True.intro)))))) (by kernel_rfl) (li (Sf := laws_heldPairS_L1_S a0) (M := Mk (laws_heldPairS_L1 a0) (laws_heldPairS_L1_k) r) (k := [.blk 0, .code (cAt Tryd.f19 [1, 1])]) (Nat.lt_succ_self m1) hK1)
  · have hE : some (Ctl.brk s1) = some c1 := hM
    have hE := Option.some.inj hE
    subst hE
    exact pc R 5 [.ln (a0.length), .as 9 false] [.keep [1] []] (And.intro (lenm Pair.enc a0) (And.intro h4 True.intro)) (by kernel_rfl) (K1 s1 hK1)

-- loop.example/g03014/laws.FnExactReadManifest
def laws_FnExactReadManifest (a0 : ByteArray) : Option Bool :=
  bif (decide ((a0.size : Int) > 1048576)) then
  some true
  else
  (spec_ReadManifest a0).bind fun v2 =>
  (impl_ReadManifest a0).bind fun v4 =>
  (laws_eqPairS v4.1 v2.1).bind fun v6 =>
  bif (!v6) then
  some false
  else
  bif (!(v4.2 == v2.2)) then
  some false
  else
  (laws_markPairS v4.1 1).bind fun v10 =>
  (laws_heldPairS v10.2 1).bind fun v12 =>
  bif (decide (v12 < 0)) then
  some false
  else
  bif (v12 != v10.1) then
  some false
  else
  (impl_ReadManifest a0).bind fun v16 =>
  (laws_eqPairS v16.1 v2.1).bind fun v18 =>
  bif (!v18) then
  some false
  else
  bif (!(v16.2 == v2.2)) then
  some false
  else
  (laws_heldPairS v10.2 1).bind fun v22 =>
  bif (decide (v22 < 0)) then
  some false
  else
  bif (v22 != v10.1) then
  some false
  else
  some true
theorem laws_FnExactReadManifest_ok (a0 : ByteArray) (r : Bool) (hM : laws_FnExactReadManifest a0 = some r) :
    Con Tryd.prog 5 [.c (.v (.string a0))] [] (.o (.c (.v (.bool r)))) [] [] := by
  unfold laws_FnExactReadManifest at hM
  refine cn (N := 66) (pids := []) Tryd_mixed Tryd.func5 (by kernel_rfl) (by kernel_rfl) (by kernel_rfl) rfl fun ρ g w R => ?_
  rcases cond_cases hM with ⟨h1, hM⟩ | ⟨h1, hM⟩
  · have hE : some true = some r := hM
    have hE := Option.some.inj hE
    subst hE
    exact pr R 9999 [.as 13 true] [] [] [] (And.intro h1 True.intro) (by kernel_rfl)
  · obtain ⟨v2, h3, hM⟩ := bind_some hM
    obtain ⟨v4, h5, hM⟩ := bind_some hM
    obtain ⟨v6, h7, hM⟩ := bind_some hM
    rcases cond_cases hM with ⟨h8, hM⟩ | ⟨h8, hM⟩
    · have hE : some false = some r := hM
      have hE := Option.some.inj hE
      subst hE
      exact pr R 9999 [.as 13 false, .call false [] (.tup [.c (.sl 0), .c (.v (.bool v2.2))]) [] [(0, .row 34 2 (v2.1.map Pair.enc))], .call false [] (.tup [.c (.sl 1), .c (.v (.bool v4.2))]) [] [(1, .row 34 2 (v4.1.map Pair.enc))], .call false [] (.o (.c (.v (.bool v6)))) [] [], .as 28 true] [] [] [] (And.intro h1 (And.intro (And.intro (con_sw 1000 0 (spec_ReadManifest_ok a0 v2 h3)) (rfl : ([] : List Nat) = [])) (And.intro (And.intro (con_sw 1000 1 (impl_ReadManifest_ok a0 v4 h5)) (rfl : ([] : List Nat) = [])) (And.intro (laws_eqPairS_ok v4.1 v2.1 v6 h7) (And.intro h8 True.intro))))) (by kernel_rfl)
    · rcases cond_cases hM with ⟨h9, hM⟩ | ⟨h9, hM⟩
      · have hE : some false = some r := hM
        have hE := Option.some.inj hE
        subst hE
        exact pr R 9999 [.as 13 false, .call false [] (.tup [.c (.sl 0), .c (.v (.bool v2.2))]) [] [(0, .row 34 2 (v2.1.map Pair.enc))], .call false [] (.tup [.c (.sl 1), .c (.v (.bool v4.2))]) [] [(1, .row 34 2 (v4.1.map Pair.enc))], .call false [] (.o (.c (.v (.bool v6)))) [] [], .as 28 false, .as 32 true] [] [] [] (And.intro h1 (And.intro (And.intro (con_sw 1000 0 (spec_ReadManifest_ok a0 v2 h3)) (rfl : ([] : List Nat) = [])) (And.intro (And.intro (con_sw 1000 1 (impl_ReadManifest_ok a0 v4 h5)) (rfl : ([] : List Nat) = [])) (And.intro (laws_eqPairS_ok v4.1 v2.1 v6 h7) (And.intro h8 (And.intro h9 True.intro)))))) (by kernel_rfl)
      · obtain ⟨v10, h11, hM⟩ := bind_some hM
        obtain ⟨v12, h13, hM⟩ := bind_some hM
        rcases cond_cases hM with ⟨h14, hM⟩ | ⟨h14, hM⟩
        · have hE : some false = some r := hM
          have hE := Option.some.inj hE
          subst hE
          exact pr R 9999 [.as 13 false, .call false [] (.tup [.c (.sl 0), .c (.v (.bool v2.2))]) [] [(0, .row 34 2 (v2.1.map Pair.enc))], .call false [] (.tup [.c (.sl 1), .c (.v (.bool v4.2))]) [] [(1, .row 34 2 (v4.1.map Pair.enc))], .call false [] (.o (.c (.v (.bool v6)))) [] [], .as 28 false, .as 32 false, .call false [1] (.o (.c (.v (.int .i64 v10.1)))) [(1, .row 34 2 (v10.2.map Pair.enc))] [], .call false [] (.o (.c (.v (.int .i64 v12)))) [] [], .as 40 true] [] [] [] (And.intro h1 (And.intro (And.intro (con_sw 1000 0 (spec_ReadManifest_ok a0 v2 h3)) (rfl : ([] : List Nat) = [])) (And.intro (And.intro (con_sw 1000 1 (impl_ReadManifest_ok a0 v4 h5)) (rfl : ([] : List Nat) = [])) (And.intro (laws_eqPairS_ok v4.1 v2.1 v6 h7) (And.intro h8 (And.intro h9 (And.intro (And.intro (con_sw 900 1 (laws_markPairS_ok v4.1 1 v10 h11)) (rfl : ([1] : List Nat) = [1])) (And.intro (laws_heldPairS_ok v10.2 1 v12 h13) (And.intro h14 True.intro))))))))) (by kernel_rfl)
        · rcases cond_cases hM with ⟨h15, hM⟩ | ⟨h15, hM⟩
          · have hE : some false = some r := hM
            have hE := Option.some.inj hE
            subst hE
            exact pr R 9999 [.as 13 false, .call false [] (.tup [.c (.sl 0), .c (.v (.bool v2.2))]) [] [(0, .row 34 2 (v2.1.map Pair.enc))], .call false [] (.tup [.c (.sl 1), .c (.v (.bool v4.2))]) [] [(1, .row 34 2 (v4.1.map Pair.enc))], .call false [] (.o (.c (.v (.bool v6)))) [] [], .as 28 false, .as 32 false, .call false [1] (.o (.c (.v (.int .i64 v10.1)))) [(1, .row 34 2 (v10.2.map Pair.enc))] [], .call false [] (.o (.c (.v (.int .i64 v12)))) [] [], .as 40 false, .as 43 true] [] [] [] (And.intro h1 (And.intro (And.intro (con_sw 1000 0 (spec_ReadManifest_ok a0 v2 h3)) (rfl : ([] : List Nat) = [])) (And.intro (And.intro (con_sw 1000 1 (impl_ReadManifest_ok a0 v4 h5)) (rfl : ([] : List Nat) = [])) (And.intro (laws_eqPairS_ok v4.1 v2.1 v6 h7) (And.intro h8 (And.intro h9 (And.intro (And.intro (con_sw 900 1 (laws_markPairS_ok v4.1 1 v10 h11)) (rfl : ([1] : List Nat) = [1])) (And.intro (laws_heldPairS_ok v10.2 1 v12 h13) (And.intro h14 (And.intro h15 True.intro)))))))))) (by kernel_rfl)
          · obtain ⟨v16, h17, hM⟩ := bind_some hM
            obtain ⟨v18, h19, hM⟩ := bind_some hM
            rcases cond_cases hM with ⟨h20, hM⟩ | ⟨h20, hM⟩
            · have hE : some false = some r := hM
              have hE := Option.some.inj hE
              subst hE
              exact pr R 9999 [.as 13 false, .call false [] (.tup [.c (.sl 0), .c (.v (.bool v2.2))]) [] [(0, .row 34 2 (v2.1.map Pair.enc))], .call false [] (.tup [.c (.sl 1), .c (.v (.bool v4.2))]) [] [(1, .row 34 2 (v4.1.map Pair.enc))], .call false [] (.o (.c (.v (.bool v6)))) [] [], .as 28 false, .as 32 false, .call false [1] (.o (.c (.v (.int .i64 v10.1)))) [(1, .row 34 2 (v10.2.map Pair.enc))] [], .call false [] (.o (.c (.v (.int .i64 v12)))) [] [], .as 40 false, .as 43 false, .call false [] (.tup [.c (.sl 2), .c (.v (.bool v16.2))]) [] [(2, .row 34 2 (v16.1.map Pair.enc))], .call false [] (.o (.c (.v (.bool v18)))) [] [], .as 53 true] [] [] [] (And.intro h1 (And.intro (And.intro (con_sw 1000 0 (spec_ReadManifest_ok a0 v2 h3)) (rfl : ([] : List Nat) = [])) (And.intro (And.intro (con_sw 1000 1 (impl_ReadManifest_ok a0 v4 h5)) (rfl : ([] : List Nat) = [])) (And.intro (laws_eqPairS_ok v4.1 v2.1 v6 h7) (And.intro h8 (And.intro h9 (And.intro (And.intro (con_sw 900 1 (laws_markPairS_ok v4.1 1 v10 h11)) (rfl : ([1] : List Nat) = [1])) (And.intro (laws_heldPairS_ok v10.2 1 v12 h13) (And.intro h14 (And.intro h15 (And.intro (And.intro (con_sw 1000 2 (impl_ReadManifest_ok a0 v16 h17)) (rfl : ([] : List Nat) = [])) (And.intro (laws_eqPairS_ok v16.1 v2.1 v18 h19) (And.intro h20 True.intro))))))))))))) (by kernel_rfl)
            · rcases cond_cases hM with ⟨h21, hM⟩ | ⟨h21, hM⟩
              · have hE : some false = some r := hM
                have hE := Option.some.inj hE
                subst hE
                exact pr R 9999 [.as 13 false, .call false [] (.tup [.c (.sl 0), .c (.v (.bool v2.2))]) [] [(0, .row 34 2 (v2.1.map Pair.enc))], .call false [] (.tup [.c (.sl 1), .c (.v (.bool v4.2))]) [] [(1, .row 34 2 (v4.1.map Pair.enc))], .call false [] (.o (.c (.v (.bool v6)))) [] [], .as 28 false, .as 32 false, .call false [1] (.o (.c (.v (.int .i64 v10.1)))) [(1, .row 34 2 (v10.2.map Pair.enc))] [], .call false [] (.o (.c (.v (.int .i64 v12)))) [] [], .as 40 false, .as 43 false, .call false [] (.tup [.c (.sl 2), .c (.v (.bool v16.2))]) [] [(2, .row 34 2 (v16.1.map Pair.enc))], .call false [] (.o (.c (.v (.bool v18)))) [] [], .as 53 false, .as 57 true] [] [] [] (And.intro h1 (And.intro (And.intro (con_sw 1000 0 (spec_ReadManifest_ok a0 v2 h3)) (rfl : ([] : List Nat) = [])) (And.intro (And.intro (con_sw 1000 1 (impl_ReadManifest_ok a0 v4 h5)) (rfl : ([] : List Nat) = [])) (And.intro (laws_eqPairS_ok v4.1 v2.1 v6 h7) (And.intro h8 (And.intro h9 (And.intro (And.intro (con_sw 900 1 (laws_markPairS_ok v4.1 1 v10 h11)) (rfl : ([1] : List Nat) = [1])) (And.intro (laws_heldPairS_ok v10.2 1 v12 h13) (And.intro h14 (And.intro h15 (And.intro (And.intro (con_sw 1000 2 (impl_ReadManifest_ok a0 v16 h17)) (rfl : ([] : List Nat) = [])) (And.intro (laws_eqPairS_ok v16.1 v2.1 v18 h19) (And.intro h20 (And.intro h21 True.intro)))))))))))))) (by kernel_rfl)
              · obtain ⟨v22, h23, hM⟩ := bind_some hM
                rcases cond_cases hM with ⟨h24, hM⟩ | ⟨h24, hM⟩
                · have hE : some false = some r := hM
                  have hE := Option.some.inj hE
                  subst hE
                  exact pr R 9999 [.as 13 false, .call false [] (.tup [.c (.sl 0), .c (.v (.bool v2.2))]) [] [(0, .row 34 2 (v2.1.map Pair.enc))], .call false [] (.tup [.c (.sl 1), .c (.v (.bool v4.2))]) [] [(1, .row 34 2 (v4.1.map Pair.enc))], .call false [] (.o (.c (.v (.bool v6)))) [] [], .as 28 false, .as 32 false, .call false [1] (.o (.c (.v (.int .i64 v10.1)))) [(1, .row 34 2 (v10.2.map Pair.enc))] [], .call false [] (.o (.c (.v (.int .i64 v12)))) [] [], .as 40 false, .as 43 false, .call false [] (.tup [.c (.sl 2), .c (.v (.bool v16.2))]) [] [(2, .row 34 2 (v16.1.map Pair.enc))], .call false [] (.o (.c (.v (.bool v18)))) [] [], .as 53 false, .as 57 false, .call false [] (.o (.c (.v (.int .i64 v22)))) [] [], .as 62 true] [] [] [] (And.intro h1 (And.intro (And.intro (con_sw 1000 0 (spec_ReadManifest_ok a0 v2 h3)) (rfl : ([] : List Nat) = [])) (And.intro (And.intro (con_sw 1000 1 (impl_ReadManifest_ok a0 v4 h5)) (rfl : ([] : List Nat) = [])) (And.intro (laws_eqPairS_ok v4.1 v2.1 v6 h7) (And.intro h8 (And.intro h9 (And.intro (And.intro (con_sw 900 1 (laws_markPairS_ok v4.1 1 v10 h11)) (rfl : ([1] : List Nat) = [1])) (And.intro (laws_heldPairS_ok v10.2 1 v12 h13) (And.intro h14 (And.intro h15 (And.intro (And.intro (con_sw 1000 2 (impl_ReadManifest_ok a0 v16 h17)) (rfl : ([] : List Nat) = [])) (And.intro (laws_eqPairS_ok v16.1 v2.1 v18 h19) (And.intro h20 (And.intro h21 (And.intro (laws_heldPairS_ok v10.2 1 v22 h23) (And.intro h24 True.intro)))))))))))))))) (by kernel_rfl)
                · rcases cond_cases hM with ⟨h25, hM⟩ | ⟨h25, hM⟩
                  · have hE : some false = some r := hM
                    have hE := Option.some.inj hE
                    subst hE
                    exact pr R 9999 [.as 13 false, .call false [] (.tup [.c (.sl 0), .c (.v (.bool v2.2))]) [] [(0, .row 34 2 (v2.1.map Pair.enc))], .call false [] (.tup [.c (.sl 1), .c (.v (.bool v4.2))]) [] [(1, .row 34 2 (v4.1.map Pair.enc))], .call false [] (.o (.c (.v (.bool v6)))) [] [], .as 28 false, .as 32 false, .call false [1] (.o (.c (.v (.int .i64 v10.1)))) [(1, .row 34 2 (v10.2.map Pair.enc))] [], .call false [] (.o (.c (.v (.int .i64 v12)))) [] [], .as 40 false, .as 43 false, .call false [] (.tup [.c (.sl 2), .c (.v (.bool v16.2))]) [] [(2, .row 34 2 (v16.1.map Pair.enc))], .call false [] (.o (.c (.v (.bool v18)))) [] [], .as 53 false, .as 57 false, .call false [] (.o (.c (.v (.int .i64 v22)))) [] [], .as 62 false, .as 65 true] [] [] [] (And.intro h1 (And.intro (And.intro (con_sw 1000 0 (spec_ReadManifest_ok a0 v2 h3)) (rfl : ([] : List Nat) = [])) (And.intro (And.intro (con_sw 1000 1 (impl_ReadManifest_ok a0 v4 h5)) (rfl : ([] : List Nat) = [])) (And.intro (laws_eqPairS_ok v4.1 v2.1 v6 h7) (And.intro h8 (And.intro h9 (And.intro (And.intro (con_sw 900 1 (laws_markPairS_ok v4.1 1 v10 h11)) (rfl : ([1] : List Nat) = [1])) (And.intro (laws_heldPairS_ok v10.2 1 v12 h13) (And.intro h14 (And.intro h15 (And.intro (And.intro (con_sw 1000 2 (impl_ReadManifest_ok a0 v16 h17)) (rfl : ([] : List Nat) = [])) (And.intro (laws_eqPairS_ok v16.1 v2.1 v18 h19) (And.intro h20 (And.intro h21 (And.intro (laws_heldPairS_ok v10.2 1 v22 h23) (And.intro h24 (And.intro h25 True.intro))))))))))))))))) (by kernel_rfl)
                  · have hE : some true = some r := hM
                    have hE := Option.some.inj hE
                    subst hE
                    exact pr R 9999 [.as 13 false, .call false [] (.tup [.c (.sl 0), .c (.v (.bool v2.2))]) [] [(0, .row 34 2 (v2.1.map Pair.enc))], .call false [] (.tup [.c (.sl 1), .c (.v (.bool v4.2))]) [] [(1, .row 34 2 (v4.1.map Pair.enc))], .call false [] (.o (.c (.v (.bool v6)))) [] [], .as 28 false, .as 32 false, .call false [1] (.o (.c (.v (.int .i64 v10.1)))) [(1, .row 34 2 (v10.2.map Pair.enc))] [], .call false [] (.o (.c (.v (.int .i64 v12)))) [] [], .as 40 false, .as 43 false, .call false [] (.tup [.c (.sl 2), .c (.v (.bool v16.2))]) [] [(2, .row 34 2 (v16.1.map Pair.enc))], .call false [] (.o (.c (.v (.bool v18)))) [] [], .as 53 false, .as 57 false, .call false [] (.o (.c (.v (.int .i64 v22)))) [] [], .as 62 false, .as 65 false] [] [] [] (And.intro h1 (And.intro (And.intro (con_sw 1000 0 (spec_ReadManifest_ok a0 v2 h3)) (rfl : ([] : List Nat) = [])) (And.intro (And.intro (con_sw 1000 1 (impl_ReadManifest_ok a0 v4 h5)) (rfl : ([] : List Nat) = [])) (And.intro (laws_eqPairS_ok v4.1 v2.1 v6 h7) (And.intro h8 (And.intro h9 (And.intro (And.intro (con_sw 900 1 (laws_markPairS_ok v4.1 1 v10 h11)) (rfl : ([1] : List Nat) = [1])) (And.intro (laws_heldPairS_ok v10.2 1 v12 h13) (And.intro h14 (And.intro h15 (And.intro (And.intro (con_sw 1000 2 (impl_ReadManifest_ok a0 v16 h17)) (rfl : ([] : List Nat) = [])) (And.intro (laws_eqPairS_ok v16.1 v2.1 v18 h19) (And.intro h20 (And.intro h21 (And.intro (laws_heldPairS_ok v10.2 1 v22 h23) (And.intro h24 (And.intro h25 True.intro))))))))))))))))) (by kernel_rfl)
end Go.Sx
