/- The functions of the program as plain Lean, and that each runs so (printed by wip/gen). -/
import Derived.Test.YtbeialanbblkoaaBpW1
namespace Go.Sx
open Go.Proofs
set_option linter.unusedVariables false
set_option maxRecDepth 100000

-- sort.rotate_func
def sort_rotate_func_at0ls30_L1_b (a0 : ((List Thing) × (List Int))) (a2 : Int) (s1 : (List Int)) (s2 : Int) (s3 : Int) : Option (Ctl ((List Int) × Int × Int) ((List Int) × Int) (List Int)) :=
  bif (s2 != s3) then
  bif (decide (s2 > s3)) then
  (sort_swapRange_func_at0ls30 (a0.1, s1) (w64 (a2 - s2)) a2 s3).bind fun v10 =>
  some (.next (v10, w64 (s2 - s3), s3))
  else
  (sort_swapRange_func_at0ls30 (a0.1, s1) (w64 (a2 - s2)) (w64 ((w64 (a2 + s3)) - s2)) s2).bind fun v12 =>
  some (.next (v12, s2, w64 (s3 - s2)))
  else
  some (.brk (s1, s2))
def sort_rotate_func_at0ls30_L1 (a0 : ((List Thing) × (List Int))) (a2 : Int) (s : (List Int) × Int × Int) : Option (Ctl ((List Int) × Int × Int) ((List Int) × Int) (List Int)) := sort_rotate_func_at0ls30_L1_b a0 a2 s.1 s.2.1 s.2.2
def sort_rotate_func_at0ls30_L1_s (a0 : ((List Thing) × (List Int))) (a2 : Int) (s1 : (List Int)) (s2 : Int) (s3 : Int) : St := ⟨[(0, .o (.agg [.fn 30 [900, 920], .of (fun s => .func (.func 70) #[] #[s, .pointer (some ⟨0, 3, none⟩)]) 940])), (2, .o (.c (.v (.int .i64 a2)))), (4, .o (.c (.ptr 0 0))), (8, .o (.c (.v (.int .i64 s2)))), (9, .o (.c (.v (.int .i64 s3))))], [(900, .box 24 [.rs 6 (a0.1.map Thing.enc)]), (920, .box 25 [.sl 940]), (940, .row 3 1 (s1.map encI)), (0, .box 75 [.fn 30 [900, 920], .of (fun s => .func (.func 70) #[] #[s, .pointer (some ⟨0, 3, none⟩)]) 940])]⟩
def sort_rotate_func_at0ls30_L1_S (a0 : ((List Thing) × (List Int))) (a2 : Int) (s : (List Int) × Int × Int) : St := sort_rotate_func_at0ls30_L1_s a0 a2 s.1 s.2.1 s.2.2
def sort_rotate_func_at0ls30_L1_a (a0 : ((List Thing) × (List Int))) (a2 : Int) (s4 : (List Int)) (s5 : Int) : Option (List Int) :=
  (sort_swapRange_func_at0ls30 (a0.1, s4) (w64 (a2 - s5)) a2 s5).bind fun v6 =>
  some v6
def sort_rotate_func_at0ls30_L1_k (a0 : ((List Thing) × (List Int))) (a2 : Int) (x : ((List Int) × Int) ⊕ ((List Int))) : Option (List Int) := match x with
  | .inl t => sort_rotate_func_at0ls30_L1_a a0 a2 t.1 t.2
  | .inr y => some y
def sort_rotate_func_at0ls30 (a0 : ((List Thing) × (List Int))) (a1 : Int) (a2 : Int) (a3 : Int) : Option (List Int) :=
  (loopM (sort_rotate_func_at0ls30_L1 a0 a2) big (a0.2, w64 (a2 - a1), w64 (a3 - a2))).bind (sort_rotate_func_at0ls30_L1_k a0 a2)
theorem sort_rotate_func_at0ls30_ok (a0 : ((List Thing) × (List Int))) (a1 : Int) (a2 : Int) (a3 : Int) (r : (List Int)) (hM : sort_rotate_func_at0ls30 a0 a1 a2 a3 = some r) :
    Con Try.prog 77 [.agg [.fn 30 [900, 920], .of (fun s => .func (.func 70) #[] #[s, .pointer (some ⟨0, 3, none⟩)]) 940], .c (.v (.int .i64 a1)), .c (.v (.int .i64 a2)), .c (.v (.int .i64 a3))] [(900, .box 24 [.rs 6 (a0.1.map Thing.enc)]), (920, .box 25 [.sl 940]), (940, .row 3 1 (a0.2.map encI))] (.tup []) [(900, .box 24 [.rs 6 (a0.1.map Thing.enc)]), (920, .box 25 [.sl 940]), (940, .row 3 1 (r.map encI))] [] := by
  unfold sort_rotate_func_at0ls30 at hM
  refine cn (N := 53) (pids := [900, 920, 940]) Try_mixed Try.func77 (by kernel_rfl) (by kernel_rfl) (by kernel_rfl) rfl fun ρ g w R => ?_
  have K1 : ∀ (s4 : (List Int)) (s5 : Int), sort_rotate_func_at0ls30_L1_a a0 a2 s4 s5 = some r → Gr R [.code (cAt Try.f77 [1, 1, 1, 1])] (⟨[(0, .o (.agg [.fn 30 [900, 920], .of (fun s => .func (.func 70) #[] #[s, .pointer (some ⟨0, 3, none⟩)]) 940])), (2, .o (.c (.v (.int .i64 a2)))), (4, .o (.c (.ptr 0 0))), (8, .o (.c (.v (.int .i64 s5))))], [(900, .box 24 [.rs 6 (a0.1.map Thing.enc)]), (920, .box 25 [.sl 940]), (940, .row 3 1 (s4.map encI)), (0, .box 75 [.fn 30 [900, 920], .of (fun s => .func (.func 70) #[] #[s, .pointer (some ⟨0, 3, none⟩)]) 940])]⟩) := by
    intro s4 s5 hM
    unfold sort_rotate_func_at0ls30_L1_a at hM
    obtain ⟨v6, h7, hM⟩ := bind_some hM
    have hE : some v6 = some r := hM
    have hE := Option.some.inj hE
    subst hE
    exact pr R 9999 [.ad (.keep [0, 2, 4, 8, 46, 47, 48, 49, 50, 51] [900, 920, 940, 0]), .call true [900, 920, 940] (.tup []) [(900, .box 24 [.rs 6 (a0.1.map Thing.enc)]), (920, .box 25 [.sl 940]), (940, .row 3 1 (v6.map encI))] []] [] [900, 920, 940] [] (And.intro (And.intro (con_sw 940 940 (con_sw 920 920 (con_sw 900 900 (sort_swapRange_func_at0ls30_ok (a0.1, s4) (w64 (a2 - s5)) a2 s5 v6 h7)))) (rfl : ([900, 920, 940] : List Nat) = [900, 920, 940])) True.intro) (by kernel_rfl)
  refine pc R 9999 [.new 0] [.keep [0, 2, 4, 8, 9] [900, 920, 940, 0]] (k' := [.code (.loop (cAt Try.f77 [1, 1, 1, 0, 0, 0])), .blk 0, .code (cAt Try.f77 [1, 1, 1, 1])]) (S' := sort_rotate_func_at0ls30_L1_S a0 a2 (a0.2, w64 (a2 - a1), w64 (a3 - a2))) True.intro (by kernel_rfl) ?_
  refine lq (sort_rotate_func_at0ls30_L1_S a0 a2) (body := sort_rotate_func_at0ls30_L1 a0 a2) (k := sort_rotate_func_at0ls30_L1_k a0 a2) hM fun m1 s c1 hM hK1 => ?_
  obtain ⟨s1, s2, s3⟩ := s
  have hM : sort_rotate_func_at0ls30_L1_b a0 a2 s1 s2 s3 = some c1 := hM
  unfold sort_rotate_func_at0ls30_L1_b at hM
  rcases cond_cases hM with ⟨h8, hM⟩ | ⟨h8, hM⟩
  · rcases cond_cases hM with ⟨h9, hM⟩ | ⟨h9, hM⟩
    · obtain ⟨v10, h11, hM⟩ := bind_some hM
      have hE : some (Ctl.next (v10, w64 (s2 - s3), s3)) = some c1 := hM
      have hE := Option.some.inj hE
      subst hE
      exact pc R 9999 [.as 18 true, .as 21 true, .ad (.keep [0, 2, 4, 8, 9, 16, 17, 18, 19, 20, 21, 22, 23, 24, 25, 26, 27] [900, 920, 940, 0]), .call true [900, 920, 940] (.tup []) [(900, .box 24 [.rs 6 (a0.1.map Thing.enc)]), (920, .box 25 [.sl 940]), (940, .row 3 1 (v10.map encI))] []] [.keep [0, 2, 4, 8, 9] [900, 920, 940, 0]] (And.intro h8 (And.intro h9 (And.intro (And.intro (con_sw 940 940 (con_sw 920 920 (con_sw 900 900 (sort_swapRange_func_at0ls30_ok (a0.1, s1) (w64 (a2 - s2)) a2 s3 v10 h11)))) (rfl : ([900, 920, 940] : List Nat) = [900, 920, 940])) True.intro))) (by kernel_rfl) (li (Sf := sort_rotate_func_at0ls30_L1_S a0 a2) (M := Mk (sort_rotate_func_at0ls30_L1 a0 a2) (sort_rotate_func_at0ls30_L1_k a0 a2) r) (k := [.blk 0, .code (cAt Try.f77 [1, 1, 1, 1])]) (Nat.lt_succ_self m1) hK1)
    · obtain ⟨v12, h13, hM⟩ := bind_some hM
      have hE : some (Ctl.next (v12, s2, w64 (s3 - s2))) = some c1 := hM
      have hE := Option.some.inj hE
      subst hE
      exact pc R 9999 [.as 18 true, .as 21 false, .ad (.keep [0, 2, 4, 8, 9, 16, 17, 18, 19, 20, 21, 32, 33, 34, 35, 36, 37, 38, 39, 40, 41] [900, 920, 940, 0]), .call true [900, 920, 940] (.tup []) [(900, .box 24 [.rs 6 (a0.1.map Thing.enc)]), (920, .box 25 [.sl 940]), (940, .row 3 1 (v12.map encI))] []] [.keep [0, 2, 4, 8, 9] [900, 920, 940, 0]] (And.intro h8 (And.intro h9 (And.intro (And.intro (con_sw 940 940 (con_sw 920 920 (con_sw 900 900 (sort_swapRange_func_at0ls30_ok (a0.1, s1) (w64 (a2 - s2)) (w64 ((w64 (a2 + s3)) - s2)) s2 v12 h13)))) (rfl : ([900, 920, 940] : List Nat) = [900, 920, 940])) True.intro))) (by kernel_rfl) (li (Sf := sort_rotate_func_at0ls30_L1_S a0 a2) (M := Mk (sort_rotate_func_at0ls30_L1 a0 a2) (sort_rotate_func_at0ls30_L1_k a0 a2) r) (k := [.blk 0, .code (cAt Try.f77 [1, 1, 1, 1])]) (Nat.lt_succ_self m1) hK1)
  · have hE : some (Ctl.brk (s1, s2)) = some c1 := hM
    have hE := Option.some.inj hE
    subst hE
    exact pc R 5 [.as 18 false] [.keep [0, 2, 4, 8] [900, 920, 940, 0]] (And.intro h8 True.intro) (by kernel_rfl) (K1 s1 s2 hK1)

-- sort.symMerge_func
def sort_symMerge_func_at0ls30_L2_b (s4 : Int) (s5 : (List Int)) (s6 : Int) : Option (Ctl ((List Int) × Int) (List Int) (List Int)) :=
  bif (decide (s6 < (w64 (s4 - 1)))) then
  (gi s5 s6).bind fun v9 =>
  (gi s5 (w64 (s6 + 1))).bind fun v11 =>
  some (.next (List.set (List.set s5 (Int.toNat s6) v11) (Int.toNat (w64 (s6 + 1))) v9, w64 (s6 + 1)))
  else
  some (.brk s5)
def sort_symMerge_func_at0ls30_L2 (s4 : Int) (s : (List Int) × Int) : Option (Ctl ((List Int) × Int) (List Int) (List Int)) := sort_symMerge_func_at0ls30_L2_b s4 s.1 s.2
def sort_symMerge_func_at0ls30_L2_s (a0 : ((List Thing) × (List Int))) (s4 : Int) (s5 : (List Int)) (s6 : Int) : St := ⟨[(0, .o (.agg [.fn 30 [900, 920], .of (fun s => .func (.func 70) #[] #[s, .pointer (some ⟨0, 3, none⟩)]) 940])), (4, .o (.c (.ptr 0 0))), (8, .o (.c (.v (.int .i64 s4)))), (11, .o (.c (.v (.int .i64 s6))))], [(900, .box 24 [.rs 6 (a0.1.map Thing.enc)]), (920, .box 25 [.sl 940]), (940, .row 3 1 (s5.map encI)), (0, .box 75 [.fn 30 [900, 920], .of (fun s => .func (.func 70) #[] #[s, .pointer (some ⟨0, 3, none⟩)]) 940])]⟩
def sort_symMerge_func_at0ls30_L2_S (a0 : ((List Thing) × (List Int))) (s4 : Int) (s : (List Int) × Int) : St := sort_symMerge_func_at0ls30_L2_s a0 s4 s.1 s.2
def sort_symMerge_func_at0ls30_L2_a (s7 : (List Int)) : Option (List Int) :=
  some s7
def sort_symMerge_func_at0ls30_L2_k (x : ((List Int)) ⊕ ((List Int))) : Option (List Int) := match x with
  | .inl t => sort_symMerge_func_at0ls30_L2_a t
  | .inr y => some y
def sort_symMerge_func_at0ls30_L1_b (a0 : ((List Thing) × (List Int))) (a1 : Int) (s2 : Int) (s3 : Int) : Option (Ctl (Int × Int) Int (List Int)) :=
  bif (decide (s2 < s3)) then
  (impl_PackAll_c1 (w64 (Int.fdiv (IntKind.u64.wrap (w64 (s2 + s3))) (2 ^ 1))) a1 a0.1 a0.2).bind fun v14 =>
  bif v14 then
  some (.next (w64 ((w64 (Int.fdiv (IntKind.u64.wrap (w64 (s2 + s3))) (2 ^ 1))) + 1), s3))
  else
  some (.next (s2, w64 (Int.fdiv (IntKind.u64.wrap (w64 (s2 + s3))) (2 ^ 1))))
  else
  some (.brk s2)
def sort_symMerge_func_at0ls30_L1 (a0 : ((List Thing) × (List Int))) (a1 : Int) (s : Int × Int) : Option (Ctl (Int × Int) Int (List Int)) := sort_symMerge_func_at0ls30_L1_b a0 a1 s.1 s.2
def sort_symMerge_func_at0ls30_L1_s (a0 : ((List Thing) × (List Int))) (a1 : Int) (s2 : Int) (s3 : Int) : St := ⟨[(0, .o (.agg [.fn 30 [900, 920], .of (fun s => .func (.func 70) #[] #[s, .pointer (some ⟨0, 3, none⟩)]) 940])), (1, .o (.c (.v (.int .i64 a1)))), (4, .o (.c (.ptr 0 0))), (8, .o (.c (.v (.int .i64 s2)))), (9, .o (.c (.v (.int .i64 s3))))], [(900, .box 24 [.rs 6 (a0.1.map Thing.enc)]), (920, .box 25 [.sl 940]), (940, .row 3 1 (a0.2.map encI)), (0, .box 75 [.fn 30 [900, 920], .of (fun s => .func (.func 70) #[] #[s, .pointer (some ⟨0, 3, none⟩)]) 940])]⟩
def sort_symMerge_func_at0ls30_L1_S (a0 : ((List Thing) × (List Int))) (a1 : Int) (s : Int × Int) : St := sort_symMerge_func_at0ls30_L1_s a0 a1 s.1 s.2
def sort_symMerge_func_at0ls30_L1_a (a0 : ((List Thing) × (List Int))) (a1 : Int) (s4 : Int) : Option (List Int) :=
  (loopM (sort_symMerge_func_at0ls30_L2 s4) big (a0.2, a1)).bind (sort_symMerge_func_at0ls30_L2_k)
def sort_symMerge_func_at0ls30_L1_k (a0 : ((List Thing) × (List Int))) (a1 : Int) (x : (Int) ⊕ ((List Int))) : Option (List Int) := match x with
  | .inl t => sort_symMerge_func_at0ls30_L1_a a0 a1 t
  | .inr y => some y
def sort_symMerge_func_at0ls30_L4_b (s20 : Int) (s21 : (List Int)) (s22 : Int) : Option (Ctl ((List Int) × Int) (List Int) (List Int)) :=
  bif (decide (s22 > s20)) then
  (gi s21 s22).bind fun v25 =>
  (gi s21 (w64 (s22 - 1))).bind fun v27 =>
  some (.next (List.set (List.set s21 (Int.toNat s22) v27) (Int.toNat (w64 (s22 - 1))) v25, w64 (s22 - 1)))
  else
  some (.brk s21)
def sort_symMerge_func_at0ls30_L4 (s20 : Int) (s : (List Int) × Int) : Option (Ctl ((List Int) × Int) (List Int) (List Int)) := sort_symMerge_func_at0ls30_L4_b s20 s.1 s.2
def sort_symMerge_func_at0ls30_L4_s (a0 : ((List Thing) × (List Int))) (s20 : Int) (s21 : (List Int)) (s22 : Int) : St := ⟨[(0, .o (.agg [.fn 30 [900, 920], .of (fun s => .func (.func 70) #[] #[s, .pointer (some ⟨0, 3, none⟩)]) 940])), (4, .o (.c (.ptr 0 0))), (12, .o (.c (.v (.int .i64 s20)))), (15, .o (.c (.v (.int .i64 s22))))], [(900, .box 24 [.rs 6 (a0.1.map Thing.enc)]), (920, .box 25 [.sl 940]), (940, .row 3 1 (s21.map encI)), (0, .box 75 [.fn 30 [900, 920], .of (fun s => .func (.func 70) #[] #[s, .pointer (some ⟨0, 3, none⟩)]) 940])]⟩
def sort_symMerge_func_at0ls30_L4_S (a0 : ((List Thing) × (List Int))) (s20 : Int) (s : (List Int) × Int) : St := sort_symMerge_func_at0ls30_L4_s a0 s20 s.1 s.2
def sort_symMerge_func_at0ls30_L4_a (s23 : (List Int)) : Option (List Int) :=
  some s23
def sort_symMerge_func_at0ls30_L4_k (x : ((List Int)) ⊕ ((List Int))) : Option (List Int) := match x with
  | .inl t => sort_symMerge_func_at0ls30_L4_a t
  | .inr y => some y
def sort_symMerge_func_at0ls30_L3_b (a0 : ((List Thing) × (List Int))) (a2 : Int) (s18 : Int) (s19 : Int) : Option (Ctl (Int × Int) Int (List Int)) :=
  bif (decide (s18 < s19)) then
  (impl_PackAll_c1 a2 (w64 (Int.fdiv (IntKind.u64.wrap (w64 (s18 + s19))) (2 ^ 1))) a0.1 a0.2).bind fun v30 =>
  bif (!v30) then
  some (.next (w64 ((w64 (Int.fdiv (IntKind.u64.wrap (w64 (s18 + s19))) (2 ^ 1))) + 1), s19))
  else
  some (.next (s18, w64 (Int.fdiv (IntKind.u64.wrap (w64 (s18 + s19))) (2 ^ 1))))
  else
  some (.brk s18)
def sort_symMerge_func_at0ls30_L3 (a0 : ((List Thing) × (List Int))) (a2 : Int) (s : Int × Int) : Option (Ctl (Int × Int) Int (List Int)) := sort_symMerge_func_at0ls30_L3_b a0 a2 s.1 s.2
def sort_symMerge_func_at0ls30_L3_s (a0 : ((List Thing) × (List Int))) (a2 : Int) (s18 : Int) (s19 : Int) : St := ⟨[(0, .o (.agg [.fn 30 [900, 920], .of (fun s => .func (.func 70) #[] #[s, .pointer (some ⟨0, 3, none⟩)]) 940])), (2, .o (.c (.v (.int .i64 a2)))), (4, .o (.c (.ptr 0 0))), (12, .o (.c (.v (.int .i64 s18)))), (13, .o (.c (.v (.int .i64 s19))))], [(900, .box 24 [.rs 6 (a0.1.map Thing.enc)]), (920, .box 25 [.sl 940]), (940, .row 3 1 (a0.2.map encI)), (0, .box 75 [.fn 30 [900, 920], .of (fun s => .func (.func 70) #[] #[s, .pointer (some ⟨0, 3, none⟩)]) 940])]⟩
def sort_symMerge_func_at0ls30_L3_S (a0 : ((List Thing) × (List Int))) (a2 : Int) (s : Int × Int) : St := sort_symMerge_func_at0ls30_L3_s a0 a2 s.1 s.2
def sort_symMerge_func_at0ls30_L3_a (a0 : ((List Thing) × (List Int))) (a2 : Int) (s20 : Int) : Option (List Int) :=
  (loopM (sort_symMerge_func_at0ls30_L4 s20) big (a0.2, a2)).bind (sort_symMerge_func_at0ls30_L4_k)
def sort_symMerge_func_at0ls30_L3_k (a0 : ((List Thing) × (List Int))) (a2 : Int) (x : (Int) ⊕ ((List Int))) : Option (List Int) := match x with
  | .inl t => sort_symMerge_func_at0ls30_L3_a a0 a2 t
  | .inr y => some y
def sort_symMerge_func_at0ls30_j3 (self : ((List Thing) × (List Int)) → Int → Int → Int → Option (List Int)) (a0 : ((List Thing) × (List Int))) (a1 : Int) (a2 : Int) (a3 : Int) (s37 : Int) (s41 : (List Int)) : Option (List Int) :=
  bif (decide ((w64 (Int.fdiv (IntKind.u64.wrap (w64 (a1 + a3))) (2 ^ 1))) < (w64 ((w64 ((w64 (Int.fdiv (IntKind.u64.wrap (w64 (a1 + a3))) (2 ^ 1))) + a2)) - s37)))) then
  bif (decide ((w64 ((w64 ((w64 (Int.fdiv (IntKind.u64.wrap (w64 (a1 + a3))) (2 ^ 1))) + a2)) - s37)) < a3)) then
  (self (a0.1, s41) (w64 (Int.fdiv (IntKind.u64.wrap (w64 (a1 + a3))) (2 ^ 1))) (w64 ((w64 ((w64 (Int.fdiv (IntKind.u64.wrap (w64 (a1 + a3))) (2 ^ 1))) + a2)) - s37)) a3).bind fun v44 =>
  some v44
  else
  some s41
  else
  some s41
def sort_symMerge_func_at0ls30_j2 (self : ((List Thing) × (List Int)) → Int → Int → Int → Option (List Int)) (a0 : ((List Thing) × (List Int))) (a1 : Int) (a2 : Int) (a3 : Int) (s37 : Int) (s39 : (List Int)) : Option (List Int) :=
  bif (decide (a1 < s37)) then
  bif (decide (s37 < (w64 (Int.fdiv (IntKind.u64.wrap (w64 (a1 + a3))) (2 ^ 1))))) then
  (self (a0.1, s39) a1 s37 (w64 (Int.fdiv (IntKind.u64.wrap (w64 (a1 + a3))) (2 ^ 1)))).bind fun v47 =>
  sort_symMerge_func_at0ls30_j3 self a0 a1 a2 a3 s37 v47
  else
  sort_symMerge_func_at0ls30_j3 self a0 a1 a2 a3 s37 s39
  else
  bif (decide ((w64 (Int.fdiv (IntKind.u64.wrap (w64 (a1 + a3))) (2 ^ 1))) < (w64 ((w64 ((w64 (Int.fdiv (IntKind.u64.wrap (w64 (a1 + a3))) (2 ^ 1))) + a2)) - s37)))) then
  bif (decide ((w64 ((w64 ((w64 (Int.fdiv (IntKind.u64.wrap (w64 (a1 + a3))) (2 ^ 1))) + a2)) - s37)) < a3)) then
  (self (a0.1, s39) (w64 (Int.fdiv (IntKind.u64.wrap (w64 (a1 + a3))) (2 ^ 1))) (w64 ((w64 ((w64 (Int.fdiv (IntKind.u64.wrap (w64 (a1 + a3))) (2 ^ 1))) + a2)) - s37)) a3).bind fun v51 =>
  some v51
  else
  some s39
  else
  some s39
def sort_symMerge_func_at0ls30_j4 (self : ((List Thing) × (List Int)) → Int → Int → Int → Option (List Int)) (a0 : ((List Thing) × (List Int))) (a1 : Int) (a2 : Int) (a3 : Int) (s37 : Int) (s57 : (List Int)) : Option (List Int) :=
  bif (decide ((w64 (Int.fdiv (IntKind.u64.wrap (w64 (a1 + a3))) (2 ^ 1))) < (w64 ((w64 ((w64 (Int.fdiv (IntKind.u64.wrap (w64 (a1 + a3))) (2 ^ 1))) + a2)) - s37)))) then
  bif (decide ((w64 ((w64 ((w64 (Int.fdiv (IntKind.u64.wrap (w64 (a1 + a3))) (2 ^ 1))) + a2)) - s37)) < a3)) then
  (self (a0.1, s57) (w64 (Int.fdiv (IntKind.u64.wrap (w64 (a1 + a3))) (2 ^ 1))) (w64 ((w64 ((w64 (Int.fdiv (IntKind.u64.wrap (w64 (a1 + a3))) (2 ^ 1))) + a2)) - s37)) a3).bind fun v60 =>
  some v60
  else
  some s57
  else
  some s57
def sort_symMerge_func_at0ls30_L5_b (a0 : ((List Thing) × (List Int))) (a1 : Int) (a2 : Int) (a3 : Int) (s35 : Int) (s36 : Int) : Option (Ctl (Int × Int) Int (List Int)) :=
  bif (decide (s35 < s36)) then
  (impl_PackAll_c1 (w64 ((w64 ((w64 ((w64 (Int.fdiv (IntKind.u64.wrap (w64 (a1 + a3))) (2 ^ 1))) + a2)) - 1)) - (w64 (Int.fdiv (IntKind.u64.wrap (w64 (s35 + s36))) (2 ^ 1))))) (w64 (Int.fdiv (IntKind.u64.wrap (w64 (s35 + s36))) (2 ^ 1))) a0.1 a0.2).bind fun v70 =>
  bif (!v70) then
  some (.next (w64 ((w64 (Int.fdiv (IntKind.u64.wrap (w64 (s35 + s36))) (2 ^ 1))) + 1), s36))
  else
  some (.next (s35, w64 (Int.fdiv (IntKind.u64.wrap (w64 (s35 + s36))) (2 ^ 1))))
  else
  some (.brk s35)
def sort_symMerge_func_at0ls30_L5 (a0 : ((List Thing) × (List Int))) (a1 : Int) (a2 : Int) (a3 : Int) (s : Int × Int) : Option (Ctl (Int × Int) Int (List Int)) := sort_symMerge_func_at0ls30_L5_b a0 a1 a2 a3 s.1 s.2
def sort_symMerge_func_at0ls30_L5_s (a0 : ((List Thing) × (List Int))) (a1 : Int) (a2 : Int) (a3 : Int) (s35 : Int) (s36 : Int) : St := ⟨[(0, .o (.agg [.fn 30 [900, 920], .of (fun s => .func (.func 70) #[] #[s, .pointer (some ⟨0, 3, none⟩)]) 940])), (1, .o (.c (.v (.int .i64 a1)))), (2, .o (.c (.v (.int .i64 a2)))), (3, .o (.c (.v (.int .i64 a3)))), (4, .o (.c (.ptr 0 0))), (16, .o (.c (.v (.int .i64 (w64 (Int.fdiv (IntKind.u64.wrap (w64 (a1 + a3))) (2 ^ 1))))))), (17, .o (.c (.v (.int .i64 (w64 ((w64 (Int.fdiv (IntKind.u64.wrap (w64 (a1 + a3))) (2 ^ 1))) + a2)))))), (18, .o (.c (.v (.int .i64 s35)))), (19, .o (.c (.v (.int .i64 s36)))), (20, .o (.c (.v (.int .i64 (w64 ((w64 ((w64 (Int.fdiv (IntKind.u64.wrap (w64 (a1 + a3))) (2 ^ 1))) + a2)) - 1))))))], [(900, .box 24 [.rs 6 (a0.1.map Thing.enc)]), (920, .box 25 [.sl 940]), (940, .row 3 1 (a0.2.map encI)), (0, .box 75 [.fn 30 [900, 920], .of (fun s => .func (.func 70) #[] #[s, .pointer (some ⟨0, 3, none⟩)]) 940])]⟩
def sort_symMerge_func_at0ls30_L5_S (a0 : ((List Thing) × (List Int))) (a1 : Int) (a2 : Int) (a3 : Int) (s : Int × Int) : St := sort_symMerge_func_at0ls30_L5_s a0 a1 a2 a3 s.1 s.2
def sort_symMerge_func_at0ls30_L5_a (self : ((List Thing) × (List Int)) → Int → Int → Int → Option (List Int)) (a0 : ((List Thing) × (List Int))) (a1 : Int) (a2 : Int) (a3 : Int) (s37 : Int) : Option (List Int) :=
  bif (decide (s37 < a2)) then
  bif (decide (a2 < (w64 ((w64 ((w64 (Int.fdiv (IntKind.u64.wrap (w64 (a1 + a3))) (2 ^ 1))) + a2)) - s37)))) then
  (sort_rotate_func_at0ls30 a0 s37 a2 (w64 ((w64 ((w64 (Int.fdiv (IntKind.u64.wrap (w64 (a1 + a3))) (2 ^ 1))) + a2)) - s37))).bind fun v54 =>
  sort_symMerge_func_at0ls30_j2 self a0 a1 a2 a3 s37 v54
  else
  sort_symMerge_func_at0ls30_j2 self a0 a1 a2 a3 s37 a0.2
  else
  bif (decide (a1 < s37)) then
  bif (decide (s37 < (w64 (Int.fdiv (IntKind.u64.wrap (w64 (a1 + a3))) (2 ^ 1))))) then
  (self a0 a1 s37 (w64 (Int.fdiv (IntKind.u64.wrap (w64 (a1 + a3))) (2 ^ 1)))).bind fun v63 =>
  sort_symMerge_func_at0ls30_j4 self a0 a1 a2 a3 s37 v63
  else
  sort_symMerge_func_at0ls30_j4 self a0 a1 a2 a3 s37 a0.2
  else
  bif (decide ((w64 (Int.fdiv (IntKind.u64.wrap (w64 (a1 + a3))) (2 ^ 1))) < (w64 ((w64 ((w64 (Int.fdiv (IntKind.u64.wrap (w64 (a1 + a3))) (2 ^ 1))) + a2)) - s37)))) then
  bif (decide ((w64 ((w64 ((w64 (Int.fdiv (IntKind.u64.wrap (w64 (a1 + a3))) (2 ^ 1))) + a2)) - s37)) < a3)) then
  (self a0 (w64 (Int.fdiv (IntKind.u64.wrap (w64 (a1 + a3))) (2 ^ 1))) (w64 ((w64 ((w64 (Int.fdiv (IntKind.u64.wrap (w64 (a1 + a3))) (2 ^ 1))) + a2)) - s37)) a3).bind fun v67 =>
  some v67
  else
  some a0.2
  else
  some a0.2
def sort_symMerge_func_at0ls30_L5_k (self : ((List Thing) × (List Int)) → Int → Int → Int → Option (List Int)) (a0 : ((List Thing) × (List Int))) (a1 : Int) (a2 : Int) (a3 : Int) (x : (Int) ⊕ ((List Int))) : Option (List Int) := match x with
  | .inl t => sort_symMerge_func_at0ls30_L5_a self a0 a1 a2 a3 t
  | .inr y => some y
def sort_symMerge_func_at0ls30_j1 (self : ((List Thing) × (List Int)) → Int → Int → Int → Option (List Int)) (a0 : ((List Thing) × (List Int))) (a1 : Int) (a2 : Int) (a3 : Int) (s33 : Int) (s34 : Int) : Option (List Int) :=
  (loopM (sort_symMerge_func_at0ls30_L5 a0 a1 a2 a3) big (s33, s34)).bind (sort_symMerge_func_at0ls30_L5_k self a0 a1 a2 a3)
def sort_symMerge_func_at0ls30_F (self : ((List Thing) × (List Int)) → Int → Int → Int → Option (List Int)) (a0 : ((List Thing) × (List Int))) (a1 : Int) (a2 : Int) (a3 : Int) : Option (List Int) :=
  bif ((w64 (a2 - a1)) == 1) then
  (loopM (sort_symMerge_func_at0ls30_L1 a0 a1) big (a2, a3)).bind (sort_symMerge_func_at0ls30_L1_k a0 a1)
  else
  bif ((w64 (a3 - a2)) == 1) then
  (loopM (sort_symMerge_func_at0ls30_L3 a0 a2) big (a1, a2)).bind (sort_symMerge_func_at0ls30_L3_k a0 a2)
  else
  bif (decide (a2 > (w64 (Int.fdiv (IntKind.u64.wrap (w64 (a1 + a3))) (2 ^ 1))))) then
  sort_symMerge_func_at0ls30_j1 self a0 a1 a2 a3 (w64 ((w64 ((w64 (Int.fdiv (IntKind.u64.wrap (w64 (a1 + a3))) (2 ^ 1))) + a2)) - a3)) (w64 (Int.fdiv (IntKind.u64.wrap (w64 (a1 + a3))) (2 ^ 1)))
  else
  sort_symMerge_func_at0ls30_j1 self a0 a1 a2 a3 a1 a2
def sort_symMerge_func_at0ls30_n : Nat → ((List Thing) × (List Int)) → Int → Int → Int → Option (List Int)
  | 0, _, _, _, _ => none
  | n + 1, a0, a1, a2, a3 => sort_symMerge_func_at0ls30_F (sort_symMerge_func_at0ls30_n n) a0 a1 a2 a3
def sort_symMerge_func_at0ls30 (a0 : ((List Thing) × (List Int))) (a1 : Int) (a2 : Int) (a3 : Int) : Option (List Int) := sort_symMerge_func_at0ls30_n big a0 a1 a2 a3
theorem sort_symMerge_func_at0ls30_step (self : ((List Thing) × (List Int)) → Int → Int → Int → Option (List Int)) (ih : ∀ (a0 : ((List Thing) × (List Int))) (a1 : Int) (a2 : Int) (a3 : Int) (r : (List Int)), self a0 a1 a2 a3 = some r →
    Con Try.prog 76 [.agg [.fn 30 [900, 920], .of (fun s => .func (.func 70) #[] #[s, .pointer (some ⟨0, 3, none⟩)]) 940], .c (.v (.int .i64 a1)), .c (.v (.int .i64 a2)), .c (.v (.int .i64 a3))] [(900, .box 24 [.rs 6 (a0.1.map Thing.enc)]), (920, .box 25 [.sl 940]), (940, .row 3 1 (a0.2.map encI))] (.tup []) [(900, .box 24 [.rs 6 (a0.1.map Thing.enc)]), (920, .box 25 [.sl 940]), (940, .row 3 1 (r.map encI))] [])
     (a0 : ((List Thing) × (List Int))) (a1 : Int) (a2 : Int) (a3 : Int) (r : (List Int)) (hM : sort_symMerge_func_at0ls30_F self a0 a1 a2 a3 = some r) :
    Con Try.prog 76 [.agg [.fn 30 [900, 920], .of (fun s => .func (.func 70) #[] #[s, .pointer (some ⟨0, 3, none⟩)]) 940], .c (.v (.int .i64 a1)), .c (.v (.int .i64 a2)), .c (.v (.int .i64 a3))] [(900, .box 24 [.rs 6 (a0.1.map Thing.enc)]), (920, .box 25 [.sl 940]), (940, .row 3 1 (a0.2.map encI))] (.tup []) [(900, .box 24 [.rs 6 (a0.1.map Thing.enc)]), (920, .box 25 [.sl 940]), (940, .row 3 1 (r.map encI))] [] := by
  unfold sort_symMerge_func_at0ls30_F at hM
  refine cn (N := 177) (pids := [900, 920, 940]) Try_mixed Try.func76 (by kernel_rfl) (by kernel_rfl) (by kernel_rfl) rfl fun ρ g w R => ?_
  rcases cond_cases hM with ⟨h1, hM⟩ | ⟨h1, hM⟩
  · have K1 : ∀ (s4 : Int), sort_symMerge_func_at0ls30_L1_a a0 a1 s4 = some r → Gr R [.code (cAt Try.f76 [1, 0, 1, 0, 1, 1, 1]), .code (cAt Try.f76 [1, 1])] (⟨[(0, .o (.agg [.fn 30 [900, 920], .of (fun s => .func (.func 70) #[] #[s, .pointer (some ⟨0, 3, none⟩)]) 940])), (1, .o (.c (.v (.int .i64 a1)))), (4, .o (.c (.ptr 0 0))), (8, .o (.c (.v (.int .i64 s4))))], [(900, .box 24 [.rs 6 (a0.1.map Thing.enc)]), (920, .box 25 [.sl 940]), (940, .row 3 1 (a0.2.map encI)), (0, .box 75 [.fn 30 [900, 920], .of (fun s => .func (.func 70) #[] #[s, .pointer (some ⟨0, 3, none⟩)]) 940])]⟩) := by
      intro s4 hM
      unfold sort_symMerge_func_at0ls30_L1_a at hM
      have K2 : ∀ (s7 : (List Int)), sort_symMerge_func_at0ls30_L2_a s7 = some r → Gr R [.code .ret, .code (cAt Try.f76 [1, 1])] (⟨[(0, .o (.agg [.fn 30 [900, 920], .of (fun s => .func (.func 70) #[] #[s, .pointer (some ⟨0, 3, none⟩)]) 940]))], [(900, .box 24 [.rs 6 (a0.1.map Thing.enc)]), (920, .box 25 [.sl 940]), (940, .row 3 1 (s7.map encI))]⟩) := by
        intro s7 hM
        unfold sort_symMerge_func_at0ls30_L2_a at hM
        have hE : some s7 = some r := hM
        have hE := Option.some.inj hE
        subst hE
        exact pr R 9999 [] [] [900, 920, 940] [] True.intro (by kernel_rfl)
      refine pc R 9999 [] [.keep [0, 4, 8, 11] [900, 920, 940, 0]] (k' := [.code (.loop (cAt Try.f76 [1, 0, 1, 0, 1, 1, 1, 0, 1, 0, 0])), .blk 2, .code .ret, .code (cAt Try.f76 [1, 1])]) (S' := sort_symMerge_func_at0ls30_L2_S a0 s4 (a0.2, a1)) True.intro (by kernel_rfl) ?_
      refine lq (sort_symMerge_func_at0ls30_L2_S a0 s4) (body := sort_symMerge_func_at0ls30_L2 s4) (k := sort_symMerge_func_at0ls30_L2_k) hM fun m2 s c2 hM hK2 => ?_
      obtain ⟨s5, s6⟩ := s
      have hM : sort_symMerge_func_at0ls30_L2_b s4 s5 s6 = some c2 := hM
      unfold sort_symMerge_func_at0ls30_L2_b at hM
      rcases cond_cases hM with ⟨h8, hM⟩ | ⟨h8, hM⟩
      · obtain ⟨v9, h10, hM⟩ := bind_some hM
        obtain ⟨v11, h12, hM⟩ := bind_some hM
        have hE : some (Ctl.next (List.set (List.set s5 (Int.toNat s6) v11) (Int.toNat (w64 (s6 + 1))) v9, w64 (s6 + 1))) = some c2 := hM
        have hE := Option.some.inj hE
        subst hE
        exact pc R 9999 [.as 50 true, .ix (encI v9), .ix (encI v11), .nm ((List.set (List.set s5 (Int.toNat s6) v11) (Int.toNat (w64 (s6 + 1))) v9).map encI)] [.keep [0, 4, 8, 11] [900, 920, 940, 0]] (And.intro h8 (And.intro (swap_cond encI sw_ok3 h10 h12) True.intro)) (by kernel_rfl) (li (Sf := sort_symMerge_func_at0ls30_L2_S a0 s4) (M := Mk (sort_symMerge_func_at0ls30_L2 s4) (sort_symMerge_func_at0ls30_L2_k) r) (k := [.blk 2, .code .ret, .code (cAt Try.f76 [1, 1])]) (Nat.lt_succ_self m2) hK2)
      · have hE : some (Ctl.brk s5) = some c2 := hM
        have hE := Option.some.inj hE
        subst hE
        exact pc R 5 [.as 50 false] [.keep [0] [900, 920, 940]] (And.intro h8 True.intro) (by kernel_rfl) (K2 s5 hK2)
    refine pc R 9999 [.new 0, .as 26 true] [.keep [0, 1, 4, 8, 9] [900, 920, 940, 0]] (k' := [.code (.loop (cAt Try.f76 [1, 0, 1, 0, 1, 1, 0, 0, 0])), .blk 0, .code (cAt Try.f76 [1, 0, 1, 0, 1, 1, 1]), .code (cAt Try.f76 [1, 1])]) (S' := sort_symMerge_func_at0ls30_L1_S a0 a1 (a2, a3)) (And.intro h1 True.intro) (by kernel_rfl) ?_
    refine lq (sort_symMerge_func_at0ls30_L1_S a0 a1) (body := sort_symMerge_func_at0ls30_L1 a0 a1) (k := sort_symMerge_func_at0ls30_L1_k a0 a1) hM fun m1 s c1 hM hK1 => ?_
    obtain ⟨s2, s3⟩ := s
    have hM : sort_symMerge_func_at0ls30_L1_b a0 a1 s2 s3 = some c1 := hM
    unfold sort_symMerge_func_at0ls30_L1_b at hM
    rcases cond_cases hM with ⟨h13, hM⟩ | ⟨h13, hM⟩
    · obtain ⟨v14, h15, hM⟩ := bind_some hM
      rcases cond_cases hM with ⟨h16, hM⟩ | ⟨h16, hM⟩
      · have hE : some (Ctl.next (w64 ((w64 (Int.fdiv (IntKind.u64.wrap (w64 (s2 + s3))) (2 ^ 1))) + 1), s3)) = some c1 := hM
        have hE := Option.some.inj hE
        subst hE
        exact pc R 9999 [.as 31 true, .ad (.keep [0, 1, 4, 8, 9, 10, 29, 30, 31, 32, 33, 34, 35, 36, 37, 38, 39, 40, 41] [900, 920, 940, 0]), .call true [900, 920, 940] (.o (.c (.v (.bool v14)))) [(900, .box 24 [.rs 6 (a0.1.map Thing.enc)]), (920, .box 25 [.sl 940]), (940, .row 3 1 (a0.2.map encI))] [], .as 42 true] [.keep [0, 1, 4, 8, 9] [900, 920, 940, 0]] (And.intro h13 (And.intro (And.intro (con_sw 923 940 (con_sw 903 920 (con_sw 902 900 (impl_PackAll_c1_ok (w64 (Int.fdiv (IntKind.u64.wrap (w64 (s2 + s3))) (2 ^ 1))) a1 a0.1 a0.2 v14 h15)))) (rfl : ([900, 920, 940] : List Nat) = [900, 920, 940])) (And.intro h16 True.intro))) (by kernel_rfl) (li (Sf := sort_symMerge_func_at0ls30_L1_S a0 a1) (M := Mk (sort_symMerge_func_at0ls30_L1 a0 a1) (sort_symMerge_func_at0ls30_L1_k a0 a1) r) (k := [.blk 0, .code (cAt Try.f76 [1, 0, 1, 0, 1, 1, 1]), .code (cAt Try.f76 [1, 1])]) (Nat.lt_succ_self m1) hK1)
      · have hE : some (Ctl.next (s2, w64 (Int.fdiv (IntKind.u64.wrap (w64 (s2 + s3))) (2 ^ 1)))) = some c1 := hM
        have hE := Option.some.inj hE
        subst hE
        exact pc R 9999 [.as 31 true, .ad (.keep [0, 1, 4, 8, 9, 10, 29, 30, 31, 32, 33, 34, 35, 36, 37, 38, 39, 40, 41] [900, 920, 940, 0]), .call true [900, 920, 940] (.o (.c (.v (.bool v14)))) [(900, .box 24 [.rs 6 (a0.1.map Thing.enc)]), (920, .box 25 [.sl 940]), (940, .row 3 1 (a0.2.map encI))] [], .as 42 false] [.keep [0, 1, 4, 8, 9] [900, 920, 940, 0]] (And.intro h13 (And.intro (And.intro (con_sw 923 940 (con_sw 903 920 (con_sw 902 900 (impl_PackAll_c1_ok (w64 (Int.fdiv (IntKind.u64.wrap (w64 (s2 + s3))) (2 ^ 1))) a1 a0.1 a0.2 v14 h15)))) (rfl : ([900, 920, 940] : List Nat) = [900, 920, 940])) (And.intro h16 True.intro))) (by kernel_rfl) (li (Sf := sort_symMerge_func_at0ls30_L1_S a0 a1) (M := Mk (sort_symMerge_func_at0ls30_L1 a0 a1) (sort_symMerge_func_at0ls30_L1_k a0 a1) r) (k := [.blk 0, .code (cAt Try.f76 [1, 0, 1, 0, 1, 1, 1]), .code (cAt Try.f76 [1, 1])]) (Nat.lt_succ_self m1) hK1)
    · have hE : some (Ctl.brk s2) = some c1 := hM
      have hE := Option.some.inj hE
      subst hE
      exact pc R 5 [.as 31 false] [.keep [0, 1, 4, 8] [900, 920, 940, 0]] (And.intro h13 True.intro) (by kernel_rfl) (K1 s2 hK1)
  · rcases cond_cases hM with ⟨h17, hM⟩ | ⟨h17, hM⟩
    · have K3 : ∀ (s20 : Int), sort_symMerge_func_at0ls30_L3_a a0 a2 s20 = some r → Gr R [.code (cAt Try.f76 [1, 1, 0, 1, 0, 1, 1, 1]), .code (cAt Try.f76 [1, 1, 1])] (⟨[(0, .o (.agg [.fn 30 [900, 920], .of (fun s => .func (.func 70) #[] #[s, .pointer (some ⟨0, 3, none⟩)]) 940])), (2, .o (.c (.v (.int .i64 a2)))), (4, .o (.c (.ptr 0 0))), (12, .o (.c (.v (.int .i64 s20))))], [(900, .box 24 [.rs 6 (a0.1.map Thing.enc)]), (920, .box 25 [.sl 940]), (940, .row 3 1 (a0.2.map encI)), (0, .box 75 [.fn 30 [900, 920], .of (fun s => .func (.func 70) #[] #[s, .pointer (some ⟨0, 3, none⟩)]) 940])]⟩) := by
        intro s20 hM
        unfold sort_symMerge_func_at0ls30_L3_a at hM
        have K4 : ∀ (s23 : (List Int)), sort_symMerge_func_at0ls30_L4_a s23 = some r → Gr R [.code .ret, .code (cAt Try.f76 [1, 1, 1])] (⟨[(0, .o (.agg [.fn 30 [900, 920], .of (fun s => .func (.func 70) #[] #[s, .pointer (some ⟨0, 3, none⟩)]) 940]))], [(900, .box 24 [.rs 6 (a0.1.map Thing.enc)]), (920, .box 25 [.sl 940]), (940, .row 3 1 (s23.map encI))]⟩) := by
          intro s23 hM
          unfold sort_symMerge_func_at0ls30_L4_a at hM
          have hE : some s23 = some r := hM
          have hE := Option.some.inj hE
          subst hE
          exact pr R 9999 [] [] [900, 920, 940] [] True.intro (by kernel_rfl)
        refine pc R 9999 [] [.keep [0, 4, 12, 15] [900, 920, 940, 0]] (k' := [.code (.loop (cAt Try.f76 [1, 1, 0, 1, 0, 1, 1, 1, 0, 1, 0, 0])), .blk 6, .code .ret, .code (cAt Try.f76 [1, 1, 1])]) (S' := sort_symMerge_func_at0ls30_L4_S a0 s20 (a0.2, a2)) True.intro (by kernel_rfl) ?_
        refine lq (sort_symMerge_func_at0ls30_L4_S a0 s20) (body := sort_symMerge_func_at0ls30_L4 s20) (k := sort_symMerge_func_at0ls30_L4_k) hM fun m4 s c4 hM hK4 => ?_
        obtain ⟨s21, s22⟩ := s
        have hM : sort_symMerge_func_at0ls30_L4_b s20 s21 s22 = some c4 := hM
        unfold sort_symMerge_func_at0ls30_L4_b at hM
        rcases cond_cases hM with ⟨h24, hM⟩ | ⟨h24, hM⟩
        · obtain ⟨v25, h26, hM⟩ := bind_some hM
          obtain ⟨v27, h28, hM⟩ := bind_some hM
          have hE : some (Ctl.next (List.set (List.set s21 (Int.toNat s22) v27) (Int.toNat (w64 (s22 - 1))) v25, w64 (s22 - 1))) = some c4 := hM
          have hE := Option.some.inj hE
          subst hE
          exact pc R 9999 [.as 86 true, .ix (encI v25), .ix (encI v27), .nm ((List.set (List.set s21 (Int.toNat s22) v27) (Int.toNat (w64 (s22 - 1))) v25).map encI)] [.keep [0, 4, 12, 15] [900, 920, 940, 0]] (And.intro h24 (And.intro (swap_cond encI sw_ok3 h26 h28) True.intro)) (by kernel_rfl) (li (Sf := sort_symMerge_func_at0ls30_L4_S a0 s20) (M := Mk (sort_symMerge_func_at0ls30_L4 s20) (sort_symMerge_func_at0ls30_L4_k) r) (k := [.blk 6, .code .ret, .code (cAt Try.f76 [1, 1, 1])]) (Nat.lt_succ_self m4) hK4)
        · have hE : some (Ctl.brk s21) = some c4 := hM
          have hE := Option.some.inj hE
          subst hE
          exact pc R 5 [.as 86 false] [.keep [0] [900, 920, 940]] (And.intro h24 True.intro) (by kernel_rfl) (K4 s21 hK4)
      refine pc R 9999 [.new 0, .as 26 false, .as 62 true] [.keep [0, 2, 4, 12, 13] [900, 920, 940, 0]] (k' := [.code (.loop (cAt Try.f76 [1, 1, 0, 1, 0, 1, 1, 0, 0, 0])), .blk 4, .code (cAt Try.f76 [1, 1, 0, 1, 0, 1, 1, 1]), .code (cAt Try.f76 [1, 1, 1])]) (S' := sort_symMerge_func_at0ls30_L3_S a0 a2 (a1, a2)) (And.intro h1 (And.intro h17 True.intro)) (by kernel_rfl) ?_
      refine lq (sort_symMerge_func_at0ls30_L3_S a0 a2) (body := sort_symMerge_func_at0ls30_L3 a0 a2) (k := sort_symMerge_func_at0ls30_L3_k a0 a2) hM fun m3 s c3 hM hK3 => ?_
      obtain ⟨s18, s19⟩ := s
      have hM : sort_symMerge_func_at0ls30_L3_b a0 a2 s18 s19 = some c3 := hM
      unfold sort_symMerge_func_at0ls30_L3_b at hM
      rcases cond_cases hM with ⟨h29, hM⟩ | ⟨h29, hM⟩
      · obtain ⟨v30, h31, hM⟩ := bind_some hM
        rcases cond_cases hM with ⟨h32, hM⟩ | ⟨h32, hM⟩
        · have hE : some (Ctl.next (w64 ((w64 (Int.fdiv (IntKind.u64.wrap (w64 (s18 + s19))) (2 ^ 1))) + 1), s19)) = some c3 := hM
          have hE := Option.some.inj hE
          subst hE
          exact pc R 9999 [.as 67 true, .ad (.keep [0, 2, 4, 12, 13, 14, 65, 66, 67, 68, 69, 70, 71, 72, 73, 74, 75, 76, 77] [900, 920, 940, 0]), .call true [900, 920, 940] (.o (.c (.v (.bool v30)))) [(900, .box 24 [.rs 6 (a0.1.map Thing.enc)]), (920, .box 25 [.sl 940]), (940, .row 3 1 (a0.2.map encI))] [], .as 79 true] [.keep [0, 2, 4, 12, 13] [900, 920, 940, 0]] (And.intro h29 (And.intro (And.intro (con_sw 923 940 (con_sw 903 920 (con_sw 902 900 (impl_PackAll_c1_ok a2 (w64 (Int.fdiv (IntKind.u64.wrap (w64 (s18 + s19))) (2 ^ 1))) a0.1 a0.2 v30 h31)))) (rfl : ([900, 920, 940] : List Nat) = [900, 920, 940])) (And.intro h32 True.intro))) (by kernel_rfl) (li (Sf := sort_symMerge_func_at0ls30_L3_S a0 a2) (M := Mk (sort_symMerge_func_at0ls30_L3 a0 a2) (sort_symMerge_func_at0ls30_L3_k a0 a2) r) (k := [.blk 4, .code (cAt Try.f76 [1, 1, 0, 1, 0, 1, 1, 1]), .code (cAt Try.f76 [1, 1, 1])]) (Nat.lt_succ_self m3) hK3)
        · have hE : some (Ctl.next (s18, w64 (Int.fdiv (IntKind.u64.wrap (w64 (s18 + s19))) (2 ^ 1)))) = some c3 := hM
          have hE := Option.some.inj hE
          subst hE
          exact pc R 9999 [.as 67 true, .ad (.keep [0, 2, 4, 12, 13, 14, 65, 66, 67, 68, 69, 70, 71, 72, 73, 74, 75, 76, 77] [900, 920, 940, 0]), .call true [900, 920, 940] (.o (.c (.v (.bool v30)))) [(900, .box 24 [.rs 6 (a0.1.map Thing.enc)]), (920, .box 25 [.sl 940]), (940, .row 3 1 (a0.2.map encI))] [], .as 79 false] [.keep [0, 2, 4, 12, 13] [900, 920, 940, 0]] (And.intro h29 (And.intro (And.intro (con_sw 923 940 (con_sw 903 920 (con_sw 902 900 (impl_PackAll_c1_ok a2 (w64 (Int.fdiv (IntKind.u64.wrap (w64 (s18 + s19))) (2 ^ 1))) a0.1 a0.2 v30 h31)))) (rfl : ([900, 920, 940] : List Nat) = [900, 920, 940])) (And.intro h32 True.intro))) (by kernel_rfl) (li (Sf := sort_symMerge_func_at0ls30_L3_S a0 a2) (M := Mk (sort_symMerge_func_at0ls30_L3 a0 a2) (sort_symMerge_func_at0ls30_L3_k a0 a2) r) (k := [.blk 4, .code (cAt Try.f76 [1, 1, 0, 1, 0, 1, 1, 1]), .code (cAt Try.f76 [1, 1, 1])]) (Nat.lt_succ_self m3) hK3)
      · have hE : some (Ctl.brk s18) = some c3 := hM
        have hE := Option.some.inj hE
        subst hE
        exact pc R 5 [.as 67 false] [.keep [0, 2, 4, 12] [900, 920, 940, 0]] (And.intro h29 True.intro) (by kernel_rfl) (K3 s18 hK3)
    · have J4 : ∀ (s33 : Int) (s34 : Int), sort_symMerge_func_at0ls30_j1 self a0 a1 a2 a3 s33 s34 = some r → Gr R [.code (cAt Try.f76 [1, 1, 1, 1, 1, 1, 1])] (⟨[(0, .o (.agg [.fn 30 [900, 920], .of (fun s => .func (.func 70) #[] #[s, .pointer (some ⟨0, 3, none⟩)]) 940])), (1, .o (.c (.v (.int .i64 a1)))), (2, .o (.c (.v (.int .i64 a2)))), (3, .o (.c (.v (.int .i64 a3)))), (4, .o (.c (.ptr 0 0))), (16, .o (.c (.v (.int .i64 (w64 (Int.fdiv (IntKind.u64.wrap (w64 (a1 + a3))) (2 ^ 1))))))), (17, .o (.c (.v (.int .i64 (w64 ((w64 (Int.fdiv (IntKind.u64.wrap (w64 (a1 + a3))) (2 ^ 1))) + a2)))))), (18, .o (.c (.v (.int .i64 s33)))), (19, .o (.c (.v (.int .i64 s34))))], [(900, .box 24 [.rs 6 (a0.1.map Thing.enc)]), (920, .box 25 [.sl 940]), (940, .row 3 1 (a0.2.map encI)), (0, .box 75 [.fn 30 [900, 920], .of (fun s => .func (.func 70) #[] #[s, .pointer (some ⟨0, 3, none⟩)]) 940])]⟩) := by
        intro s33 s34 hM
        unfold sort_symMerge_func_at0ls30_j1 at hM
        have K5 : ∀ (s37 : Int), sort_symMerge_func_at0ls30_L5_a self a0 a1 a2 a3 s37 = some r → Gr R [.code (cAt Try.f76 [1, 1, 1, 1, 1, 1, 1, 1, 1])] (⟨[(0, .o (.agg [.fn 30 [900, 920], .of (fun s => .func (.func 70) #[] #[s, .pointer (some ⟨0, 3, none⟩)]) 940])), (1, .o (.c (.v (.int .i64 a1)))), (2, .o (.c (.v (.int .i64 a2)))), (3, .o (.c (.v (.int .i64 a3)))), (4, .o (.c (.ptr 0 0))), (16, .o (.c (.v (.int .i64 (w64 (Int.fdiv (IntKind.u64.wrap (w64 (a1 + a3))) (2 ^ 1))))))), (17, .o (.c (.v (.int .i64 (w64 ((w64 (Int.fdiv (IntKind.u64.wrap (w64 (a1 + a3))) (2 ^ 1))) + a2)))))), (18, .o (.c (.v (.int .i64 s37))))], [(900, .box 24 [.rs 6 (a0.1.map Thing.enc)]), (920, .box 25 [.sl 940]), (940, .row 3 1 (a0.2.map encI)), (0, .box 75 [.fn 30 [900, 920], .of (fun s => .func (.func 70) #[] #[s, .pointer (some ⟨0, 3, none⟩)]) 940])]⟩) := by
          intro s37 hM
          unfold sort_symMerge_func_at0ls30_L5_a at hM
          rcases cond_cases hM with ⟨h38, hM⟩ | ⟨h38, hM⟩
          · have J3 : ∀ (s39 : (List Int)), sort_symMerge_func_at0ls30_j2 self a0 a1 a2 a3 s37 s39 = some r → Gr R [.code (cAt Try.f76 [1, 1, 1, 1, 1, 1, 1, 1, 1, 1, 1])] (⟨[(0, .o (.agg [.fn 30 [900, 920], .of (fun s => .func (.func 70) #[] #[s, .pointer (some ⟨0, 3, none⟩)]) 940])), (1, .o (.c (.v (.int .i64 a1)))), (3, .o (.c (.v (.int .i64 a3)))), (4, .o (.c (.ptr 0 0))), (16, .o (.c (.v (.int .i64 (w64 (Int.fdiv (IntKind.u64.wrap (w64 (a1 + a3))) (2 ^ 1))))))), (18, .o (.c (.v (.int .i64 s37)))), (22, .o (.c (.v (.int .i64 (w64 ((w64 ((w64 (Int.fdiv (IntKind.u64.wrap (w64 (a1 + a3))) (2 ^ 1))) + a2)) - s37))))))], [(900, .box 24 [.rs 6 (a0.1.map Thing.enc)]), (920, .box 25 [.sl 940]), (940, .row 3 1 (s39.map encI)), (0, .box 75 [.fn 30 [900, 920], .of (fun s => .func (.func 70) #[] #[s, .pointer (some ⟨0, 3, none⟩)]) 940])]⟩) := by
              intro s39 hM
              unfold sort_symMerge_func_at0ls30_j2 at hM
              rcases cond_cases hM with ⟨h40, hM⟩ | ⟨h40, hM⟩
              · have J3 : ∀ (s41 : (List Int)), sort_symMerge_func_at0ls30_j3 self a0 a1 a2 a3 s37 s41 = some r → Gr R [.code (cAt Try.f76 [1, 1, 1, 1, 1, 1, 1, 1, 1, 1, 1, 1])] (⟨[(0, .o (.agg [.fn 30 [900, 920], .of (fun s => .func (.func 70) #[] #[s, .pointer (some ⟨0, 3, none⟩)]) 940])), (3, .o (.c (.v (.int .i64 a3)))), (4, .o (.c (.ptr 0 0))), (16, .o (.c (.v (.int .i64 (w64 (Int.fdiv (IntKind.u64.wrap (w64 (a1 + a3))) (2 ^ 1))))))), (22, .o (.c (.v (.int .i64 (w64 ((w64 ((w64 (Int.fdiv (IntKind.u64.wrap (w64 (a1 + a3))) (2 ^ 1))) + a2)) - s37))))))], [(900, .box 24 [.rs 6 (a0.1.map Thing.enc)]), (920, .box 25 [.sl 940]), (940, .row 3 1 (s41.map encI)), (0, .box 75 [.fn 30 [900, 920], .of (fun s => .func (.func 70) #[] #[s, .pointer (some ⟨0, 3, none⟩)]) 940])]⟩) := by
                  intro s41 hM
                  unfold sort_symMerge_func_at0ls30_j3 at hM
                  rcases cond_cases hM with ⟨h42, hM⟩ | ⟨h42, hM⟩
                  · rcases cond_cases hM with ⟨h43, hM⟩ | ⟨h43, hM⟩
                    · obtain ⟨v44, h45, hM⟩ := bind_some hM
                      have hE : some v44 = some r := hM
                      have hE := Option.some.inj hE
                      subst hE
                      exact pr R 9999 [.as 167 true, .as 171 true, .ad (.keep [0, 3, 4, 16, 22, 164, 165, 166, 167, 168, 169, 170, 171, 172, 173, 174, 175] [900, 920, 940, 0]), .call true [900, 920, 940] (.tup []) [(900, .box 24 [.rs 6 (a0.1.map Thing.enc)]), (920, .box 25 [.sl 940]), (940, .row 3 1 (v44.map encI))] []] [] [900, 920, 940] [] (And.intro h42 (And.intro h43 (And.intro (And.intro (con_sw 940 940 (con_sw 920 920 (con_sw 900 900 (ih (a0.1, s41) (w64 (Int.fdiv (IntKind.u64.wrap (w64 (a1 + a3))) (2 ^ 1))) (w64 ((w64 ((w64 (Int.fdiv (IntKind.u64.wrap (w64 (a1 + a3))) (2 ^ 1))) + a2)) - s37)) a3 v44 h45)))) (rfl : ([900, 920, 940] : List Nat) = [900, 920, 940])) True.intro))) (by kernel_rfl)
                    · have hE : some s41 = some r := hM
                      have hE := Option.some.inj hE
                      subst hE
                      exact pr R 9999 [.as 167 true, .as 171 false] [] [900, 920, 940] [] (And.intro h42 (And.intro h43 True.intro)) (by kernel_rfl)
                  · have hE : some s41 = some r := hM
                    have hE := Option.some.inj hE
                    subst hE
                    exact pr R 9999 [.as 167 false] [] [900, 920, 940] [] (And.intro h42 True.intro) (by kernel_rfl)
                rcases cond_cases hM with ⟨h46, hM⟩ | ⟨h46, hM⟩
                · obtain ⟨v47, h48, hM⟩ := bind_some hM
                  exact pc R 5 [.as 154 true, .as 158 true, .ad (.keep [0, 1, 3, 4, 16, 18, 22, 151, 152, 153, 154, 155, 156, 157, 158, 159, 160, 161, 162] [900, 920, 940, 0]), .call true [900, 920, 940] (.tup []) [(900, .box 24 [.rs 6 (a0.1.map Thing.enc)]), (920, .box 25 [.sl 940]), (940, .row 3 1 (v47.map encI))] []] [.keep [0, 3, 4, 16, 22] [900, 920, 940, 0]] (And.intro h40 (And.intro h46 (And.intro (And.intro (con_sw 940 940 (con_sw 920 920 (con_sw 900 900 (ih (a0.1, s39) a1 s37 (w64 (Int.fdiv (IntKind.u64.wrap (w64 (a1 + a3))) (2 ^ 1))) v47 h48)))) (rfl : ([900, 920, 940] : List Nat) = [900, 920, 940])) True.intro))) (by kernel_rfl) (J3 v47 hM)
                · exact pc R 5 [.as 154 true, .as 158 false] [.keep [0, 3, 4, 16, 22] [900, 920, 940, 0]] (And.intro h40 (And.intro h46 True.intro)) (by kernel_rfl) (J3 s39 hM)
              · rcases cond_cases hM with ⟨h49, hM⟩ | ⟨h49, hM⟩
                · rcases cond_cases hM with ⟨h50, hM⟩ | ⟨h50, hM⟩
                  · obtain ⟨v51, h52, hM⟩ := bind_some hM
                    have hE : some v51 = some r := hM
                    have hE := Option.some.inj hE
                    subst hE
                    exact pr R 9999 [.as 154 false, .as 167 true, .as 171 true, .ad (.keep [0, 1, 3, 4, 16, 18, 22, 151, 152, 153, 154, 155, 156, 157, 158, 164, 165, 166, 167, 168, 169, 170, 171, 172, 173, 174, 175] [900, 920, 940, 0]), .call true [900, 920, 940] (.tup []) [(900, .box 24 [.rs 6 (a0.1.map Thing.enc)]), (920, .box 25 [.sl 940]), (940, .row 3 1 (v51.map encI))] []] [] [900, 920, 940] [] (And.intro h40 (And.intro h49 (And.intro h50 (And.intro (And.intro (con_sw 940 940 (con_sw 920 920 (con_sw 900 900 (ih (a0.1, s39) (w64 (Int.fdiv (IntKind.u64.wrap (w64 (a1 + a3))) (2 ^ 1))) (w64 ((w64 ((w64 (Int.fdiv (IntKind.u64.wrap (w64 (a1 + a3))) (2 ^ 1))) + a2)) - s37)) a3 v51 h52)))) (rfl : ([900, 920, 940] : List Nat) = [900, 920, 940])) True.intro)))) (by kernel_rfl)
                  · have hE : some s39 = some r := hM
                    have hE := Option.some.inj hE
                    subst hE
                    exact pr R 9999 [.as 154 false, .as 167 true, .as 171 false] [] [900, 920, 940] [] (And.intro h40 (And.intro h49 (And.intro h50 True.intro))) (by kernel_rfl)
                · have hE : some s39 = some r := hM
                  have hE := Option.some.inj hE
                  subst hE
                  exact pr R 9999 [.as 154 false, .as 167 false] [] [900, 920, 940] [] (And.intro h40 (And.intro h49 True.intro)) (by kernel_rfl)
            rcases cond_cases hM with ⟨h53, hM⟩ | ⟨h53, hM⟩
            · obtain ⟨v54, h55, hM⟩ := bind_some hM
              exact pc R 7 [.as 141 true, .as 145 true, .ad (.keep [0, 1, 2, 3, 4, 16, 17, 18, 22, 135, 136, 137, 138, 139, 140, 141, 142, 143, 144, 145, 146, 147, 148, 149] [900, 920, 940, 0]), .call true [900, 920, 940] (.tup []) [(900, .box 24 [.rs 6 (a0.1.map Thing.enc)]), (920, .box 25 [.sl 940]), (940, .row 3 1 (v54.map encI))] []] [.keep [0, 1, 3, 4, 16, 18, 22] [900, 920, 940, 0]] (And.intro h38 (And.intro h53 (And.intro (And.intro (con_sw 940 940 (con_sw 920 920 (con_sw 900 900 (sort_rotate_func_at0ls30_ok a0 s37 a2 (w64 ((w64 ((w64 (Int.fdiv (IntKind.u64.wrap (w64 (a1 + a3))) (2 ^ 1))) + a2)) - s37)) v54 h55)))) (rfl : ([900, 920, 940] : List Nat) = [900, 920, 940])) True.intro))) (by kernel_rfl) (J3 v54 hM)
            · exact pc R 7 [.as 141 true, .as 145 false] [.keep [0, 1, 3, 4, 16, 18, 22] [900, 920, 940, 0]] (And.intro h38 (And.intro h53 True.intro)) (by kernel_rfl) (J3 a0.2 hM)
          · rcases cond_cases hM with ⟨h56, hM⟩ | ⟨h56, hM⟩
            · have J4 : ∀ (s57 : (List Int)), sort_symMerge_func_at0ls30_j4 self a0 a1 a2 a3 s37 s57 = some r → Gr R [.code (cAt Try.f76 [1, 1, 1, 1, 1, 1, 1, 1, 1, 1, 1, 1])] (⟨[(0, .o (.agg [.fn 30 [900, 920], .of (fun s => .func (.func 70) #[] #[s, .pointer (some ⟨0, 3, none⟩)]) 940])), (3, .o (.c (.v (.int .i64 a3)))), (4, .o (.c (.ptr 0 0))), (16, .o (.c (.v (.int .i64 (w64 (Int.fdiv (IntKind.u64.wrap (w64 (a1 + a3))) (2 ^ 1))))))), (22, .o (.c (.v (.int .i64 (w64 ((w64 ((w64 (Int.fdiv (IntKind.u64.wrap (w64 (a1 + a3))) (2 ^ 1))) + a2)) - s37))))))], [(900, .box 24 [.rs 6 (a0.1.map Thing.enc)]), (920, .box 25 [.sl 940]), (940, .row 3 1 (s57.map encI)), (0, .box 75 [.fn 30 [900, 920], .of (fun s => .func (.func 70) #[] #[s, .pointer (some ⟨0, 3, none⟩)]) 940])]⟩) := by
                intro s57 hM
                unfold sort_symMerge_func_at0ls30_j4 at hM
                rcases cond_cases hM with ⟨h58, hM⟩ | ⟨h58, hM⟩
                · rcases cond_cases hM with ⟨h59, hM⟩ | ⟨h59, hM⟩
                  · obtain ⟨v60, h61, hM⟩ := bind_some hM
                    have hE : some v60 = some r := hM
                    have hE := Option.some.inj hE
                    subst hE
                    exact pr R 9999 [.as 167 true, .as 171 true, .ad (.keep [0, 3, 4, 16, 22, 164, 165, 166, 167, 168, 169, 170, 171, 172, 173, 174, 175] [900, 920, 940, 0]), .call true [900, 920, 940] (.tup []) [(900, .box 24 [.rs 6 (a0.1.map Thing.enc)]), (920, .box 25 [.sl 940]), (940, .row 3 1 (v60.map encI))] []] [] [900, 920, 940] [] (And.intro h58 (And.intro h59 (And.intro (And.intro (con_sw 940 940 (con_sw 920 920 (con_sw 900 900 (ih (a0.1, s57) (w64 (Int.fdiv (IntKind.u64.wrap (w64 (a1 + a3))) (2 ^ 1))) (w64 ((w64 ((w64 (Int.fdiv (IntKind.u64.wrap (w64 (a1 + a3))) (2 ^ 1))) + a2)) - s37)) a3 v60 h61)))) (rfl : ([900, 920, 940] : List Nat) = [900, 920, 940])) True.intro))) (by kernel_rfl)
                  · have hE : some s57 = some r := hM
                    have hE := Option.some.inj hE
                    subst hE
                    exact pr R 9999 [.as 167 true, .as 171 false] [] [900, 920, 940] [] (And.intro h58 (And.intro h59 True.intro)) (by kernel_rfl)
                · have hE : some s57 = some r := hM
                  have hE := Option.some.inj hE
                  subst hE
                  exact pr R 9999 [.as 167 false] [] [900, 920, 940] [] (And.intro h58 True.intro) (by kernel_rfl)
              rcases cond_cases hM with ⟨h62, hM⟩ | ⟨h62, hM⟩
              · obtain ⟨v63, h64, hM⟩ := bind_some hM
                exact pc R 12 [.as 141 false, .as 154 true, .as 158 true, .ad (.keep [0, 1, 2, 3, 4, 16, 17, 18, 22, 135, 136, 137, 138, 139, 140, 141, 142, 143, 144, 145, 151, 152, 153, 154, 155, 156, 157, 158, 159, 160, 161, 162] [900, 920, 940, 0]), .call true [900, 920, 940] (.tup []) [(900, .box 24 [.rs 6 (a0.1.map Thing.enc)]), (920, .box 25 [.sl 940]), (940, .row 3 1 (v63.map encI))] []] [.keep [0, 3, 4, 16, 22] [900, 920, 940, 0]] (And.intro h38 (And.intro h56 (And.intro h62 (And.intro (And.intro (con_sw 940 940 (con_sw 920 920 (con_sw 900 900 (ih a0 a1 s37 (w64 (Int.fdiv (IntKind.u64.wrap (w64 (a1 + a3))) (2 ^ 1))) v63 h64)))) (rfl : ([900, 920, 940] : List Nat) = [900, 920, 940])) True.intro)))) (by kernel_rfl) (J4 v63 hM)
              · exact pc R 12 [.as 141 false, .as 154 true, .as 158 false] [.keep [0, 3, 4, 16, 22] [900, 920, 940, 0]] (And.intro h38 (And.intro h56 (And.intro h62 True.intro))) (by kernel_rfl) (J4 a0.2 hM)
            · rcases cond_cases hM with ⟨h65, hM⟩ | ⟨h65, hM⟩
              · rcases cond_cases hM with ⟨h66, hM⟩ | ⟨h66, hM⟩
                · obtain ⟨v67, h68, hM⟩ := bind_some hM
                  have hE : some v67 = some r := hM
                  have hE := Option.some.inj hE
                  subst hE
                  exact pr R 9999 [.as 141 false, .as 154 false, .as 167 true, .as 171 true, .ad (.keep [0, 1, 2, 3, 4, 16, 17, 18, 22, 135, 136, 137, 138, 139, 140, 141, 142, 143, 144, 145, 151, 152, 153, 154, 155, 156, 157, 158, 164, 165, 166, 167, 168, 169, 170, 171, 172, 173, 174, 175] [900, 920, 940, 0]), .call true [900, 920, 940] (.tup []) [(900, .box 24 [.rs 6 (a0.1.map Thing.enc)]), (920, .box 25 [.sl 940]), (940, .row 3 1 (v67.map encI))] []] [] [900, 920, 940] [] (And.intro h38 (And.intro h56 (And.intro h65 (And.intro h66 (And.intro (And.intro (con_sw 940 940 (con_sw 920 920 (con_sw 900 900 (ih a0 (w64 (Int.fdiv (IntKind.u64.wrap (w64 (a1 + a3))) (2 ^ 1))) (w64 ((w64 ((w64 (Int.fdiv (IntKind.u64.wrap (w64 (a1 + a3))) (2 ^ 1))) + a2)) - s37)) a3 v67 h68)))) (rfl : ([900, 920, 940] : List Nat) = [900, 920, 940])) True.intro))))) (by kernel_rfl)
                · have hE : some a0.2 = some r := hM
                  have hE := Option.some.inj hE
                  subst hE
                  exact pr R 9999 [.as 141 false, .as 154 false, .as 167 true, .as 171 false] [] [900, 920, 940] [] (And.intro h38 (And.intro h56 (And.intro h65 (And.intro h66 True.intro)))) (by kernel_rfl)
              · have hE : some a0.2 = some r := hM
                have hE := Option.some.inj hE
                subst hE
                exact pr R 9999 [.as 141 false, .as 154 false, .as 167 false] [] [900, 920, 940] [] (And.intro h38 (And.intro h56 (And.intro h65 True.intro))) (by kernel_rfl)
        refine pc R 9999 [] [.keep [0, 1, 2, 3, 4, 16, 17, 18, 19, 20] [900, 920, 940, 0]] (k' := [.code (.loop (cAt Try.f76 [1, 1, 1, 1, 1, 1, 1, 1, 0, 0, 0])), .blk 8, .code (cAt Try.f76 [1, 1, 1, 1, 1, 1, 1, 1, 1])]) (S' := sort_symMerge_func_at0ls30_L5_S a0 a1 a2 a3 (s33, s34)) True.intro (by kernel_rfl) ?_
        refine lq (sort_symMerge_func_at0ls30_L5_S a0 a1 a2 a3) (body := sort_symMerge_func_at0ls30_L5 a0 a1 a2 a3) (k := sort_symMerge_func_at0ls30_L5_k self a0 a1 a2 a3) hM fun m5 s c5 hM hK5 => ?_
        obtain ⟨s35, s36⟩ := s
        have hM : sort_symMerge_func_at0ls30_L5_b a0 a1 a2 a3 s35 s36 = some c5 := hM
        unfold sort_symMerge_func_at0ls30_L5_b at hM
        rcases cond_cases hM with ⟨h69, hM⟩ | ⟨h69, hM⟩
        · obtain ⟨v70, h71, hM⟩ := bind_some hM
          rcases cond_cases hM with ⟨h72, hM⟩ | ⟨h72, hM⟩
          · have hE : some (Ctl.next (w64 ((w64 (Int.fdiv (IntKind.u64.wrap (w64 (s35 + s36))) (2 ^ 1))) + 1), s36)) = some c5 := hM
            have hE := Option.some.inj hE
            subst hE
            exact pc R 9999 [.as 117 true, .ad (.keep [0, 1, 2, 3, 4, 16, 17, 18, 19, 20, 21, 115, 116, 117, 118, 119, 120, 121, 122, 123, 124, 125, 126, 127, 128, 129] [900, 920, 940, 0]), .call true [900, 920, 940] (.o (.c (.v (.bool v70)))) [(900, .box 24 [.rs 6 (a0.1.map Thing.enc)]), (920, .box 25 [.sl 940]), (940, .row 3 1 (a0.2.map encI))] [], .as 131 true] [.keep [0, 1, 2, 3, 4, 16, 17, 18, 19, 20] [900, 920, 940, 0]] (And.intro h69 (And.intro (And.intro (con_sw 923 940 (con_sw 903 920 (con_sw 902 900 (impl_PackAll_c1_ok (w64 ((w64 ((w64 ((w64 (Int.fdiv (IntKind.u64.wrap (w64 (a1 + a3))) (2 ^ 1))) + a2)) - 1)) - (w64 (Int.fdiv (IntKind.u64.wrap (w64 (s35 + s36))) (2 ^ 1))))) (w64 (Int.fdiv (IntKind.u64.wrap (w64 (s35 + s36))) (2 ^ 1))) a0.1 a0.2 v70 h71)))) (rfl : ([900, 920, 940] : List Nat) = [900, 920, 940])) (And.intro h72 True.intro))) (by kernel_rfl) (li (Sf := sort_symMerge_func_at0ls30_L5_S a0 a1 a2 a3) (M := Mk (sort_symMerge_func_at0ls30_L5 a0 a1 a2 a3) (sort_symMerge_func_at0ls30_L5_k self a0 a1 a2 a3) r) (k := [.blk 8, .code (cAt Try.f76 [1, 1, 1, 1, 1, 1, 1, 1, 1])]) (Nat.lt_succ_self m5) hK5)
          · have hE : some (Ctl.next (s35, w64 (Int.fdiv (IntKind.u64.wrap (w64 (s35 + s36))) (2 ^ 1)))) = some c5 := hM
            have hE := Option.some.inj hE
            subst hE
            exact pc R 9999 [.as 117 true, .ad (.keep [0, 1, 2, 3, 4, 16, 17, 18, 19, 20, 21, 115, 116, 117, 118, 119, 120, 121, 122, 123, 124, 125, 126, 127, 128, 129] [900, 920, 940, 0]), .call true [900, 920, 940] (.o (.c (.v (.bool v70)))) [(900, .box 24 [.rs 6 (a0.1.map Thing.enc)]), (920, .box 25 [.sl 940]), (940, .row 3 1 (a0.2.map encI))] [], .as 131 false] [.keep [0, 1, 2, 3, 4, 16, 17, 18, 19, 20] [900, 920, 940, 0]] (And.intro h69 (And.intro (And.intro (con_sw 923 940 (con_sw 903 920 (con_sw 902 900 (impl_PackAll_c1_ok (w64 ((w64 ((w64 ((w64 (Int.fdiv (IntKind.u64.wrap (w64 (a1 + a3))) (2 ^ 1))) + a2)) - 1)) - (w64 (Int.fdiv (IntKind.u64.wrap (w64 (s35 + s36))) (2 ^ 1))))) (w64 (Int.fdiv (IntKind.u64.wrap (w64 (s35 + s36))) (2 ^ 1))) a0.1 a0.2 v70 h71)))) (rfl : ([900, 920, 940] : List Nat) = [900, 920, 940])) (And.intro h72 True.intro))) (by kernel_rfl) (li (Sf := sort_symMerge_func_at0ls30_L5_S a0 a1 a2 a3) (M := Mk (sort_symMerge_func_at0ls30_L5 a0 a1 a2 a3) (sort_symMerge_func_at0ls30_L5_k self a0 a1 a2 a3) r) (k := [.blk 8, .code (cAt Try.f76 [1, 1, 1, 1, 1, 1, 1, 1, 1])]) (Nat.lt_succ_self m5) hK5)
        · have hE : some (Ctl.brk s35) = some c5 := hM
          have hE := Option.some.inj hE
          subst hE
          exact pc R 5 [.as 117 false] [.keep [0, 1, 2, 3, 4, 16, 17, 18] [900, 920, 940, 0]] (And.intro h69 True.intro) (by kernel_rfl) (K5 s35 hK5)
      rcases cond_cases hM with ⟨h73, hM⟩ | ⟨h73, hM⟩
      · exact pc R 25 [.new 0, .as 26 false, .as 62 false, .as 106 true] [.keep [0, 1, 2, 3, 4, 16, 17, 18, 19] [900, 920, 940, 0]] (And.intro h1 (And.intro h17 (And.intro h73 True.intro))) (by kernel_rfl) (J4 (w64 ((w64 ((w64 (Int.fdiv (IntKind.u64.wrap (w64 (a1 + a3))) (2 ^ 1))) + a2)) - a3)) (w64 (Int.fdiv (IntKind.u64.wrap (w64 (a1 + a3))) (2 ^ 1))) hM)
      · exact pc R 25 [.new 0, .as 26 false, .as 62 false, .as 106 false] [.keep [0, 1, 2, 3, 4, 16, 17, 18, 19] [900, 920, 940, 0]] (And.intro h1 (And.intro h17 (And.intro h73 True.intro))) (by kernel_rfl) (J4 a1 a2 hM)
theorem sort_symMerge_func_at0ls30_nok : ∀ (n : Nat) (a0 : ((List Thing) × (List Int))) (a1 : Int) (a2 : Int) (a3 : Int) (r : (List Int)), sort_symMerge_func_at0ls30_n n a0 a1 a2 a3 = some r →
    Con Try.prog 76 [.agg [.fn 30 [900, 920], .of (fun s => .func (.func 70) #[] #[s, .pointer (some ⟨0, 3, none⟩)]) 940], .c (.v (.int .i64 a1)), .c (.v (.int .i64 a2)), .c (.v (.int .i64 a3))] [(900, .box 24 [.rs 6 (a0.1.map Thing.enc)]), (920, .box 25 [.sl 940]), (940, .row 3 1 (a0.2.map encI))] (.tup []) [(900, .box 24 [.rs 6 (a0.1.map Thing.enc)]), (920, .box 25 [.sl 940]), (940, .row 3 1 (r.map encI))] []
  | 0, _, _, _, _, _, h => by cases h
  | n + 1, a0, a1, a2, a3, r, h => sort_symMerge_func_at0ls30_step (sort_symMerge_func_at0ls30_n n) (sort_symMerge_func_at0ls30_nok n) a0 a1 a2 a3 r h
theorem sort_symMerge_func_at0ls30_ok (a0 : ((List Thing) × (List Int))) (a1 : Int) (a2 : Int) (a3 : Int) (r : (List Int)) (h : sort_symMerge_func_at0ls30 a0 a1 a2 a3 = some r) :
    Con Try.prog 76 [.agg [.fn 30 [900, 920], .of (fun s => .func (.func 70) #[] #[s, .pointer (some ⟨0, 3, none⟩)]) 940], .c (.v (.int .i64 a1)), .c (.v (.int .i64 a2)), .c (.v (.int .i64 a3))] [(900, .box 24 [.rs 6 (a0.1.map Thing.enc)]), (920, .box 25 [.sl 940]), (940, .row 3 1 (a0.2.map encI))] (.tup []) [(900, .box 24 [.rs 6 (a0.1.map Thing.enc)]), (920, .box 25 [.sl 940]), (940, .row 3 1 (r.map encI))] [] := sort_symMerge_func_at0ls30_nok big a0 a1 a2 a3 r h

-- sort.stable_func
def sort_stable_func_at0ls30_L3_b (a0 : ((List Thing) × (List Int))) (a1 : Int) (s9 : Int) (s12 : (List Int)) (s13 : Int) (s14 : Int) : Option (Ctl ((List Int) × Int × Int) ((List Int) × Int) (List Int)) :=
  bif (decide (s14 ≤ a1)) then
  (sort_symMerge_func_at0ls30 (a0.1, s12) s13 (w64 (s13 + s9)) s14).bind fun v21 =>
  some (.next (v21, s14, w64 (s14 + (w64 (2 * s9)))))
  else
  some (.brk (s12, s13))
def sort_stable_func_at0ls30_L3 (a0 : ((List Thing) × (List Int))) (a1 : Int) (s9 : Int) (s : (List Int) × Int × Int) : Option (Ctl ((List Int) × Int × Int) ((List Int) × Int) (List Int)) := sort_stable_func_at0ls30_L3_b a0 a1 s9 s.1 s.2.1 s.2.2
def sort_stable_func_at0ls30_L3_s (a0 : ((List Thing) × (List Int))) (a1 : Int) (s9 : Int) (s12 : (List Int)) (s13 : Int) (s14 : Int) : St := ⟨[(0, .o (.agg [.fn 30 [900, 920], .of (fun s => .func (.func 70) #[] #[s, .pointer (some ⟨0, 3, none⟩)]) 940])), (1, .o (.c (.v (.int .i64 a1)))), (2, .o (.c (.ptr 0 0))), (4, .o (.c (.v (.int .i64 s9)))), (5, .o (.c (.v (.int .i64 s13)))), (6, .o (.c (.v (.int .i64 s14))))], [(900, .box 24 [.rs 6 (a0.1.map Thing.enc)]), (920, .box 25 [.sl 940]), (940, .row 3 1 (s12.map encI)), (0, .box 75 [.fn 30 [900, 920], .of (fun s => .func (.func 70) #[] #[s, .pointer (some ⟨0, 3, none⟩)]) 940])]⟩
def sort_stable_func_at0ls30_L3_S (a0 : ((List Thing) × (List Int))) (a1 : Int) (s9 : Int) (s : (List Int) × Int × Int) : St := sort_stable_func_at0ls30_L3_s a0 a1 s9 s.1 s.2.1 s.2.2
def sort_stable_func_at0ls30_L3_a (a0 : ((List Thing) × (List Int))) (a1 : Int) (s9 : Int) (s15 : (List Int)) (s16 : Int) : Option (Ctl ((List Int) × Int) (List Int) (List Int)) :=
  bif (decide ((w64 (s16 + s9)) < a1)) then
  (sort_symMerge_func_at0ls30 (a0.1, s15) s16 (w64 (s16 + s9)) a1).bind fun v18 =>
  some (.next (v18, w64 (s9 * 2)))
  else
  some (.next (s15, w64 (s9 * 2)))
def sort_stable_func_at0ls30_L3_k (a0 : ((List Thing) × (List Int))) (a1 : Int) (s9 : Int) (x : ((List Int) × Int) ⊕ ((List Int))) : Option (Ctl ((List Int) × Int) (List Int) (List Int)) := match x with
  | .inl t => sort_stable_func_at0ls30_L3_a a0 a1 s9 t.1 t.2
  | .inr y => some (.ret y)
def sort_stable_func_at0ls30_L2_b (a0 : ((List Thing) × (List Int))) (a1 : Int) (s8 : (List Int)) (s9 : Int) : Option (Ctl ((List Int) × Int) (List Int) (List Int)) :=
  bif (decide (s9 < a1)) then
  (loopM (sort_stable_func_at0ls30_L3 a0 a1 s9) big (s8, 0, w64 (2 * s9))).bind (sort_stable_func_at0ls30_L3_k a0 a1 s9)
  else
  some (.brk s8)
def sort_stable_func_at0ls30_L2 (a0 : ((List Thing) × (List Int))) (a1 : Int) (s : (List Int) × Int) : Option (Ctl ((List Int) × Int) (List Int) (List Int)) := sort_stable_func_at0ls30_L2_b a0 a1 s.1 s.2
def sort_stable_func_at0ls30_L2_s (a0 : ((List Thing) × (List Int))) (a1 : Int) (s8 : (List Int)) (s9 : Int) : St := ⟨[(0, .o (.agg [.fn 30 [900, 920], .of (fun s => .func (.func 70) #[] #[s, .pointer (some ⟨0, 3, none⟩)]) 940])), (1, .o (.c (.v (.int .i64 a1)))), (2, .o (.c (.ptr 0 0))), (4, .o (.c (.v (.int .i64 s9))))], [(900, .box 24 [.rs 6 (a0.1.map Thing.enc)]), (920, .box 25 [.sl 940]), (940, .row 3 1 (s8.map encI)), (0, .box 75 [.fn 30 [900, 920], .of (fun s => .func (.func 70) #[] #[s, .pointer (some ⟨0, 3, none⟩)]) 940])]⟩
def sort_stable_func_at0ls30_L2_S (a0 : ((List Thing) × (List Int))) (a1 : Int) (s : (List Int) × Int) : St := sort_stable_func_at0ls30_L2_s a0 a1 s.1 s.2
def sort_stable_func_at0ls30_L2_a (s10 : (List Int)) : Option (List Int) :=
  some s10
def sort_stable_func_at0ls30_L2_k (x : ((List Int)) ⊕ ((List Int))) : Option (List Int) := match x with
  | .inl t => sort_stable_func_at0ls30_L2_a t
  | .inr y => some y
def sort_stable_func_at0ls30_L1_b (a0 : ((List Thing) × (List Int))) (a1 : Int) (s1 : (List Int)) (s2 : Int) (s3 : Int) : Option (Ctl ((List Int) × Int × Int) ((List Int) × Int) (List Int)) :=
  bif (decide (s3 ≤ a1)) then
  (sort_insertionSort_func_at0ls30 (a0.1, s1) s2 s3).bind fun v24 =>
  some (.next (v24, s3, w64 (s3 + 20)))
  else
  some (.brk (s1, s2))
def sort_stable_func_at0ls30_L1 (a0 : ((List Thing) × (List Int))) (a1 : Int) (s : (List Int) × Int × Int) : Option (Ctl ((List Int) × Int × Int) ((List Int) × Int) (List Int)) := sort_stable_func_at0ls30_L1_b a0 a1 s.1 s.2.1 s.2.2
def sort_stable_func_at0ls30_L1_s (a0 : ((List Thing) × (List Int))) (a1 : Int) (s1 : (List Int)) (s2 : Int) (s3 : Int) : St := ⟨[(0, .o (.agg [.fn 30 [900, 920], .of (fun s => .func (.func 70) #[] #[s, .pointer (some ⟨0, 3, none⟩)]) 940])), (1, .o (.c (.v (.int .i64 a1)))), (2, .o (.c (.ptr 0 0))), (4, .o (.c (.v (.int .i64 20)))), (5, .o (.c (.v (.int .i64 s2)))), (6, .o (.c (.v (.int .i64 s3))))], [(900, .box 24 [.rs 6 (a0.1.map Thing.enc)]), (920, .box 25 [.sl 940]), (940, .row 3 1 (s1.map encI)), (0, .box 75 [.fn 30 [900, 920], .of (fun s => .func (.func 70) #[] #[s, .pointer (some ⟨0, 3, none⟩)]) 940])]⟩
def sort_stable_func_at0ls30_L1_S (a0 : ((List Thing) × (List Int))) (a1 : Int) (s : (List Int) × Int × Int) : St := sort_stable_func_at0ls30_L1_s a0 a1 s.1 s.2.1 s.2.2
def sort_stable_func_at0ls30_L1_a (a0 : ((List Thing) × (List Int))) (a1 : Int) (s4 : (List Int)) (s5 : Int) : Option (List Int) :=
  (sort_insertionSort_func_at0ls30 (a0.1, s4) s5 a1).bind fun v6 =>
  (loopM (sort_stable_func_at0ls30_L2 a0 a1) big (v6, 20)).bind (sort_stable_func_at0ls30_L2_k)
def sort_stable_func_at0ls30_L1_k (a0 : ((List Thing) × (List Int))) (a1 : Int) (x : ((List Int) × Int) ⊕ ((List Int))) : Option (List Int) := match x with
  | .inl t => sort_stable_func_at0ls30_L1_a a0 a1 t.1 t.2
  | .inr y => some y
def sort_stable_func_at0ls30 (a0 : ((List Thing) × (List Int))) (a1 : Int) : Option (List Int) :=
  (loopM (sort_stable_func_at0ls30_L1 a0 a1) big (a0.2, 0, 20)).bind (sort_stable_func_at0ls30_L1_k a0 a1)
theorem sort_stable_func_at0ls30_ok (a0 : ((List Thing) × (List Int))) (a1 : Int) (r : (List Int)) (hM : sort_stable_func_at0ls30 a0 a1 = some r) :
    Con Try.prog 50 [.agg [.fn 30 [900, 920], .of (fun s => .func (.func 70) #[] #[s, .pointer (some ⟨0, 3, none⟩)]) 940], .c (.v (.int .i64 a1))] [(900, .box 24 [.rs 6 (a0.1.map Thing.enc)]), (920, .box 25 [.sl 940]), (940, .row 3 1 (a0.2.map encI))] (.tup []) [(900, .box 24 [.rs 6 (a0.1.map Thing.enc)]), (920, .box 25 [.sl 940]), (940, .row 3 1 (r.map encI))] [] := by
  unfold sort_stable_func_at0ls30 at hM
  refine cn (N := 57) (pids := [900, 920, 940]) Try_mixed Try.func50 (by kernel_rfl) (by kernel_rfl) (by kernel_rfl) rfl fun ρ g w R => ?_
  have K1 : ∀ (s4 : (List Int)) (s5 : Int), sort_stable_func_at0ls30_L1_a a0 a1 s4 s5 = some r → Gr R [.code (cAt Try.f50 [1, 1, 1, 1])] (⟨[(0, .o (.agg [.fn 30 [900, 920], .of (fun s => .func (.func 70) #[] #[s, .pointer (some ⟨0, 3, none⟩)]) 940])), (1, .o (.c (.v (.int .i64 a1)))), (2, .o (.c (.ptr 0 0))), (4, .o (.c (.v (.int .i64 20)))), (5, .o (.c (.v (.int .i64 s5))))], [(900, .box 24 [.rs 6 (a0.1.map Thing.enc)]), (920, .box 25 [.sl 940]), (940, .row 3 1 (s4.map encI)), (0, .box 75 [.fn 30 [900, 920], .of (fun s => .func (.func 70) #[] #[s, .pointer (some ⟨0, 3, none⟩)]) 940])]⟩) := by
    intro s4 s5 hM
    unfold sort_stable_func_at0ls30_L1_a at hM
    obtain ⟨v6, h7, hM⟩ := bind_some hM
    have K2 : ∀ (s10 : (List Int)), sort_stable_func_at0ls30_L2_a s10 = some r → Gr R [] (⟨[(0, .o (.agg [.fn 30 [900, 920], .of (fun s => .func (.func 70) #[] #[s, .pointer (some ⟨0, 3, none⟩)]) 940]))], [(900, .box 24 [.rs 6 (a0.1.map Thing.enc)]), (920, .box 25 [.sl 940]), (940, .row 3 1 (s10.map encI))]⟩) := by
      intro s10 hM
      unfold sort_stable_func_at0ls30_L2_a at hM
      have hE : some s10 = some r := hM
      have hE := Option.some.inj hE
      subst hE
      exact pr R 9999 [] [] [900, 920, 940] [] True.intro (by kernel_rfl)
    refine pc R 9999 [.ad (.keep [0, 1, 2, 4, 5, 20, 21, 22] [900, 920, 940, 0]), .call true [900, 920, 940] (.tup []) [(900, .box 24 [.rs 6 (a0.1.map Thing.enc)]), (920, .box 25 [.sl 940]), (940, .row 3 1 (v6.map encI))] []] [.keep [0, 1, 2, 4] [900, 920, 940, 0]] (k' := [.code (.loop (cAt Try.f50 [1, 1, 1, 1, 1, 0, 0])), .blk 2]) (S' := sort_stable_func_at0ls30_L2_S a0 a1 (v6, 20)) (And.intro (And.intro (con_sw 940 940 (con_sw 920 920 (con_sw 900 900 (sort_insertionSort_func_at0ls30_ok (a0.1, s4) s5 a1 v6 h7)))) (rfl : ([900, 920, 940] : List Nat) = [900, 920, 940])) True.intro) (by kernel_rfl) ?_
    refine lq (sort_stable_func_at0ls30_L2_S a0 a1) (body := sort_stable_func_at0ls30_L2 a0 a1) (k := sort_stable_func_at0ls30_L2_k) hM fun m2 s c2 hM hK2 => ?_
    obtain ⟨s8, s9⟩ := s
    have hM : sort_stable_func_at0ls30_L2_b a0 a1 s8 s9 = some c2 := hM
    unfold sort_stable_func_at0ls30_L2_b at hM
    rcases cond_cases hM with ⟨h11, hM⟩ | ⟨h11, hM⟩
    · have K3 : ∀ (s15 : (List Int)) (s16 : Int), sort_stable_func_at0ls30_L3_a a0 a1 s9 s15 s16 = some c2 → Gr R [.code (cAt Try.f50 [1, 1, 1, 1, 1, 0, 0, 1, 0, 1, 1]), .blk 3, .inv (Jr R (sort_stable_func_at0ls30_L2_S a0 a1) (Mk (sort_stable_func_at0ls30_L2 a0 a1) (sort_stable_func_at0ls30_L2_k) r) (m2 + 1)), .blk 2] (⟨[(0, .o (.agg [.fn 30 [900, 920], .of (fun s => .func (.func 70) #[] #[s, .pointer (some ⟨0, 3, none⟩)]) 940])), (1, .o (.c (.v (.int .i64 a1)))), (2, .o (.c (.ptr 0 0))), (4, .o (.c (.v (.int .i64 s9)))), (5, .o (.c (.v (.int .i64 s16))))], [(900, .box 24 [.rs 6 (a0.1.map Thing.enc)]), (920, .box 25 [.sl 940]), (940, .row 3 1 (s15.map encI)), (0, .box 75 [.fn 30 [900, 920], .of (fun s => .func (.func 70) #[] #[s, .pointer (some ⟨0, 3, none⟩)]) 940])]⟩) := by
        intro s15 s16 hM
        unfold sort_stable_func_at0ls30_L3_a at hM
        rcases cond_cases hM with ⟨h17, hM⟩ | ⟨h17, hM⟩
        · obtain ⟨v18, h19, hM⟩ := bind_some hM
          have hE : some (Ctl.next (v18, w64 (s9 * 2))) = some c2 := hM
          have hE := Option.some.inj hE
          subst hE
          exact pc R 9999 [.as 49 true, .ad (.keep [0, 1, 2, 4, 5, 7, 44, 45, 46, 47, 48, 49, 50, 51, 52, 53] [900, 920, 940, 0]), .call true [900, 920, 940] (.tup []) [(900, .box 24 [.rs 6 (a0.1.map Thing.enc)]), (920, .box 25 [.sl 940]), (940, .row 3 1 (v18.map encI))] []] [.keep [0, 1, 2, 4] [900, 920, 940, 0]] (And.intro h17 (And.intro (And.intro (con_sw 940 940 (con_sw 920 920 (con_sw 900 900 (sort_symMerge_func_at0ls30_ok (a0.1, s15) s16 (w64 (s16 + s9)) a1 v18 h19)))) (rfl : ([900, 920, 940] : List Nat) = [900, 920, 940])) True.intro)) (by kernel_rfl) (li (Sf := sort_stable_func_at0ls30_L2_S a0 a1) (M := Mk (sort_stable_func_at0ls30_L2 a0 a1) (sort_stable_func_at0ls30_L2_k) r) (k := [.blk 2]) (Nat.lt_succ_self m2) hK2)
        · have hE : some (Ctl.next (s15, w64 (s9 * 2))) = some c2 := hM
          have hE := Option.some.inj hE
          subst hE
          exact pc R 9999 [.as 49 false] [.keep [0, 1, 2, 4] [900, 920, 940, 0]] (And.intro h17 True.intro) (by kernel_rfl) (li (Sf := sort_stable_func_at0ls30_L2_S a0 a1) (M := Mk (sort_stable_func_at0ls30_L2 a0 a1) (sort_stable_func_at0ls30_L2_k) r) (k := [.blk 2]) (Nat.lt_succ_self m2) hK2)
      refine pc R 9999 [.as 26 true] [.keep [0, 1, 2, 4, 5, 6] [900, 920, 940, 0]] (k' := [.code (.loop (cAt Try.f50 [1, 1, 1, 1, 1, 0, 0, 1, 0, 1, 0, 0, 0])), .blk 4, .code (cAt Try.f50 [1, 1, 1, 1, 1, 0, 0, 1, 0, 1, 1]), .blk 3, .inv (Jr R (sort_stable_func_at0ls30_L2_S a0 a1) (Mk (sort_stable_func_at0ls30_L2 a0 a1) (sort_stable_func_at0ls30_L2_k) r) (m2 + 1)), .blk 2]) (S' := sort_stable_func_at0ls30_L3_S a0 a1 s9 (s8, 0, w64 (2 * s9))) (And.intro h11 True.intro) (by kernel_rfl) ?_
      refine lq (sort_stable_func_at0ls30_L3_S a0 a1 s9) (body := sort_stable_func_at0ls30_L3 a0 a1 s9) (k := sort_stable_func_at0ls30_L3_k a0 a1 s9) hM fun m3 s c3 hM hK3 => ?_
      obtain ⟨s12, s13, s14⟩ := s
      have hM : sort_stable_func_at0ls30_L3_b a0 a1 s9 s12 s13 s14 = some c3 := hM
      unfold sort_stable_func_at0ls30_L3_b at hM
      rcases cond_cases hM with ⟨h20, hM⟩ | ⟨h20, hM⟩
      · obtain ⟨v21, h22, hM⟩ := bind_some hM
        have hE : some (Ctl.next (v21, s14, w64 (s14 + (w64 (2 * s9))))) = some c3 := hM
        have hE := Option.some.inj hE
        subst hE
        exact pc R 9999 [.as 31 true, .ad (.keep [0, 1, 2, 4, 5, 6, 29, 30, 31, 32, 33, 34, 35, 36, 37] [900, 920, 940, 0]), .call true [900, 920, 940] (.tup []) [(900, .box 24 [.rs 6 (a0.1.map Thing.enc)]), (920, .box 25 [.sl 940]), (940, .row 3 1 (v21.map encI))] []] [.keep [0, 1, 2, 4, 5, 6] [900, 920, 940, 0]] (And.intro h20 (And.intro (And.intro (con_sw 940 940 (con_sw 920 920 (con_sw 900 900 (sort_symMerge_func_at0ls30_ok (a0.1, s12) s13 (w64 (s13 + s9)) s14 v21 h22)))) (rfl : ([900, 920, 940] : List Nat) = [900, 920, 940])) True.intro)) (by kernel_rfl) (li (Sf := sort_stable_func_at0ls30_L3_S a0 a1 s9) (M := Mk (sort_stable_func_at0ls30_L3 a0 a1 s9) (sort_stable_func_at0ls30_L3_k a0 a1 s9) c2) (k := [.blk 4, .code (cAt Try.f50 [1, 1, 1, 1, 1, 0, 0, 1, 0, 1, 1]), .blk 3, .inv (Jr R (sort_stable_func_at0ls30_L2_S a0 a1) (Mk (sort_stable_func_at0ls30_L2 a0 a1) (sort_stable_func_at0ls30_L2_k) r) (m2 + 1)), .blk 2]) (Nat.lt_succ_self m3) hK3)
      · have hE : some (Ctl.brk (s12, s13)) = some c3 := hM
        have hE := Option.some.inj hE
        subst hE
        exact pc R 5 [.as 31 false] [.keep [0, 1, 2, 4, 5] [900, 920, 940, 0]] (And.intro h20 True.intro) (by kernel_rfl) (K3 s12 s13 hK3)
    · have hE : some (Ctl.brk s8) = some c2 := hM
      have hE := Option.some.inj hE
      subst hE
      exact pc R 5 [.as 26 false] [.keep [0] [900, 920, 940]] (And.intro h11 True.intro) (by kernel_rfl) (K2 s8 hK2)
  refine pc R 9999 [.new 0] [.keep [0, 1, 2, 4, 5, 6] [900, 920, 940, 0]] (k' := [.code (.loop (cAt Try.f50 [1, 1, 1, 0, 0, 0])), .blk 0, .code (cAt Try.f50 [1, 1, 1, 1])]) (S' := sort_stable_func_at0ls30_L1_S a0 a1 (a0.2, 0, 20)) True.intro (by kernel_rfl) ?_
  refine lq (sort_stable_func_at0ls30_L1_S a0 a1) (body := sort_stable_func_at0ls30_L1 a0 a1) (k := sort_stable_func_at0ls30_L1_k a0 a1) hM fun m1 s c1 hM hK1 => ?_
  obtain ⟨s1, s2, s3⟩ := s
  have hM : sort_stable_func_at0ls30_L1_b a0 a1 s1 s2 s3 = some c1 := hM
  unfold sort_stable_func_at0ls30_L1_b at hM
  rcases cond_cases hM with ⟨h23, hM⟩ | ⟨h23, hM⟩
  · obtain ⟨v24, h25, hM⟩ := bind_some hM
    have hE : some (Ctl.next (v24, s3, w64 (s3 + 20))) = some c1 := hM
    have hE := Option.some.inj hE
    subst hE
    exact pc R 9999 [.as 11 true, .ad (.keep [0, 1, 2, 4, 5, 6, 9, 10, 11, 12, 13, 14] [900, 920, 940, 0]), .call true [900, 920, 940] (.tup []) [(900, .box 24 [.rs 6 (a0.1.map Thing.enc)]), (920, .box 25 [.sl 940]), (940, .row 3 1 (v24.map encI))] []] [.keep [0, 1, 2, 4, 5, 6] [900, 920, 940, 0]] (And.intro h23 (And.intro (And.intro (con_sw 940 940 (con_sw 920 920 (con_sw 900 900 (sort_insertionSort_func_at0ls30_ok (a0.1, s1) s2 s3 v24 h25)))) (rfl : ([900, 920, 940] : List Nat) = [900, 920, 940])) True.intro)) (by kernel_rfl) (li (Sf := sort_stable_func_at0ls30_L1_S a0 a1) (M := Mk (sort_stable_func_at0ls30_L1 a0 a1) (sort_stable_func_at0ls30_L1_k a0 a1) r) (k := [.blk 0, .code (cAt Try.f50 [1, 1, 1, 1])]) (Nat.lt_succ_self m1) hK1)
  · have hE : some (Ctl.brk (s1, s2)) = some c1 := hM
    have hE := Option.some.inj hE
    subst hE
    exact pc R 5 [.as 11 false] [.keep [0, 1, 2, 4, 5] [900, 920, 940, 0]] (And.intro h23 True.intro) (by kernel_rfl) (K1 s1 s2 hK1)

-- sort.SliceStable
noncomputable def sort_SliceStable_at0sk_1lf30_i : TypeInfo := (Try.prog.info? 25).get (by kernel_rfl)
theorem sort_SliceStable_at0sk_1lf30_K (n : Nat) (h2 : 2 ≤ n) : Lib.swapperK n sw_ie3 2 = 5 := by
  have a : sw_ie3.hasPointers = false := by kernel_rfl
  have b : sw_ie3.bytes = 8 := by kernel_rfl
  have c : (n == 0) = false := by simp; omega
  have d : (n == 1) = false := by simp; omega
  simp [Lib.swapperK, a, b, c, d]
def sort_SliceStable_at0sk_1lf30 (a1 : ((List Thing) × (List Int))) : Option (List Int) := bif decide (a1.2.length ≤ 1) then some a1.2 else bif decide (a1.2.length < 4611686018427387904) then sort_stable_func_at0ls30 a1 (a1.2.length : Int) else none
theorem sort_SliceStable_at0sk_1lf30_ok (a1 : ((List Thing) × (List Int))) (r : (List Int)) (hM : sort_SliceStable_at0sk_1lf30 a1 = some r) :
    Con Try.prog 29 [.c (.of (fun s => .iface 25 s) 940), .c (.fn 30 [900, 920])] [(900, .box 24 [.rs 6 (a1.1.map Thing.enc)]), (920, .box 25 [.sl 940]), (940, .row 3 1 (a1.2.map encI))] (.tup []) [(900, .box 24 [.rs 6 (a1.1.map Thing.enc)]), (920, .box 25 [.sl 940]), (940, .row 3 1 (r.map encI))] [] := by
  have hl : a1.2.length < 4611686018427387904 := by
    unfold sort_SliceStable_at0sk_1lf30 at hM
    rcases cond_cases hM with ⟨h1, hM⟩ | ⟨h1, hM⟩
    · have := of_decide_eq_true h1; omega
    · rcases cond_cases hM with ⟨h2, hM⟩ | ⟨h2, hM⟩
      · exact of_decide_eq_true h2
      · cases hM
  refine con_stable Try.slays8 (by rfl) (by rfl) 25 3 sort_SliceStable_at0sk_1lf30_i sw_ie3 (by kernel_rfl) (by kernel_rfl) (by kernel_rfl) (by kernel_rfl) 2 (fun _ => by kernel_rfl) 66 67 70 5 sort_SliceStable_at0sk_1lf30_K (by kernel_rfl) (by kernel_rfl) (by kernel_rfl)
    (fun s => .func (.func 70) #[] #[s, .pointer (some ⟨0, 3, none⟩)]) sw_F3 30 [900, 920] 940 3 1 (a1.2.map encI) _ _ (by simp) (by rw [List.length_map]; exact hl) (fun h2 => ?_) (fun h2 => ?_)
  · rw [List.length_map] at h2 ⊢
    unfold sort_SliceStable_at0sk_1lf30 at hM
    have d1 : decide (a1.2.length ≤ 1) = false := decide_eq_false (by omega)
    rw [d1, decide_eq_true hl] at hM
    exact sort_stable_func_at0ls30_ok a1 (a1.2.length : Int) r hM
  · rw [List.length_map] at h2
    unfold sort_SliceStable_at0sk_1lf30 at hM
    rw [decide_eq_true h2] at hM
    have hE := Option.some.inj hM
    subst hE
    rfl


-- loop.example/g03014/impl.IsLocked
def impl_IsLocked_L1_b (a0 : (List Thing)) (v4 : (List Int)) (s6 : Int) : Option (Ctl Int Unit Bool) :=
  bif (decide (s6 < (v4.length : Int))) then
  (gi v4 s6).bind fun v8 =>
  (impl_FindThing a0 v8).bind fun v10 =>
  (gi a0 v10).bind fun v12 =>
  bif v12.Sealed then
  some (.ret true)
  else
  some (.next (w64 (s6 + 1)))
  else
  some (.brk ())
def impl_IsLocked_L1 (a0 : (List Thing)) (v4 : (List Int)) (s : Int) : Option (Ctl Int Unit Bool) := impl_IsLocked_L1_b a0 v4 s
def impl_IsLocked_L1_s (a0 : (List Thing)) (v4 : (List Int)) (s6 : Int) : St := ⟨[(0, .o (.c (.rs 6 (a0.map Thing.enc)))), (12, .o (.c (.sl 0))), (13, .o (.c (.v (.int .i64 (v4.length : Int))))), (14, .o (.c (.v (.int .i64 s6))))], [(0, .row 3 1 (v4.map encI))]⟩
def impl_IsLocked_L1_S (a0 : (List Thing)) (v4 : (List Int)) (s : Int) : St := impl_IsLocked_L1_s a0 v4 s
def impl_IsLocked_L1_a : Option Bool :=
  some false
def impl_IsLocked_L1_k (x : (Unit) ⊕ (Bool)) : Option Bool := match x with
  | .inl t => impl_IsLocked_L1_a
  | .inr y => some y
def impl_IsLocked (a0 : (List Thing)) (a1 : Int) : Option Bool :=
  (impl_AreThings a0).bind fun v1 =>
  bif (!v1) then
  some false
  else
  (impl_around a0 a1).bind fun v4 =>
  (loopM (impl_IsLocked_L1 a0 v4) big 0).bind (impl_IsLocked_L1_k)
theorem impl_IsLocked_ok (a0 : (List Thing)) (a1 : Int) (r : Bool) (hM : impl_IsLocked a0 a1 = some r) :
    Con Try.prog 54 [.c (.rs 6 (a0.map Thing.enc)), .c (.v (.int .i64 a1))] [] (.o (.c (.v (.bool r)))) [] [] := by
  unfold impl_IsLocked at hM
  refine cn (N := 26) (pids := []) Try_mixed Try.func54 (by kernel_rfl) (by kernel_rfl) (by kernel_rfl) rfl fun ρ g w R => ?_
  obtain ⟨v1, h2, hM⟩ := bind_some hM
  rcases cond_cases hM with ⟨h3, hM⟩ | ⟨h3, hM⟩
  · have hE : some false = some r := hM
    have hE := Option.some.inj hE
    subst hE
    exact pr R 9999 [.call false [] (.o (.c (.v (.bool v1)))) [] [], .as 9 true] [] [] [] (And.intro (impl_AreThings_ok a0 v1 h2) (And.intro h3 True.intro)) (by kernel_rfl)
  · obtain ⟨v4, h5, hM⟩ := bind_some hM
    have K1 : ∀ (_ : Unit), impl_IsLocked_L1_a = some r → Gr R [.code (cAt Try.f54 [1, 1, 1])] (⟨[], []⟩) := by
      intro _ hM
      unfold impl_IsLocked_L1_a at hM
      have hE : some false = some r := hM
      have hE := Option.some.inj hE
      subst hE
      exact pr R 9999 [] [] [] [] True.intro (by kernel_rfl)
    refine pc R 9999 [.call false [] (.o (.c (.v (.bool v1)))) [] [], .as 9 false, .call false [] (.o (.c (.sl 0))) [] [(0, .row 3 1 (v4.map encI))], .ln (v4.length)] [.keep [0, 12, 13, 14] [0]] (k' := [.code (.loop (cAt Try.f54 [1, 1, 0, 1, 0, 0])), .blk 0, .code (cAt Try.f54 [1, 1, 1])]) (S' := impl_IsLocked_L1_S a0 v4 0) (And.intro (impl_AreThings_ok a0 v1 h2) (And.intro h3 (And.intro (And.intro (con_sw 1000 0 (impl_around_ok a0 a1 v4 h5)) (rfl : ([] : List Nat) = [])) (And.intro (lenm encI v4) True.intro)))) (by kernel_rfl) ?_
    refine lq (impl_IsLocked_L1_S a0 v4) (body := impl_IsLocked_L1 a0 v4) (k := impl_IsLocked_L1_k) hM fun m1 s c1 hM hK1 => ?_
    obtain ⟨s6, hs⟩ : ∃ z, z = s := ⟨_, rfl⟩
    subst hs
    have hM : impl_IsLocked_L1_b a0 v4 s6 = some c1 := hM
    unfold impl_IsLocked_L1_b at hM
    rcases cond_cases hM with ⟨h7, hM⟩ | ⟨h7, hM⟩
    · obtain ⟨v8, h9, hM⟩ := bind_some hM
      obtain ⟨v10, h11, hM⟩ := bind_some hM
      obtain ⟨v12, h13, hM⟩ := bind_some hM
      rcases cond_cases hM with ⟨h14, hM⟩ | ⟨h14, hM⟩
      · have hE : some (Ctl.ret true) = some c1 := hM
        have hE := Option.some.inj hE
        subst hE
        have hE : some true = some r := hK1
        have hE := Option.some.inj hE
        subst hE
        exact pr R 9999 [.as 15 true, .ix (encI v8), .call false [] (.o (.c (.v (.int .i64 v10)))) [] [], .ix (Thing.enc v12), .as 24 true] [] [] [] (And.intro h7 (And.intro (gi_lt encI h9) (And.intro ((gi_map encI h9).2) (And.intro (impl_FindThing_ok a0 v8 v10 h11) (And.intro (gi_map Thing.enc h13) (And.intro h14 True.intro)))))) (by kernel_rfl)
      · have hE : some (Ctl.next (w64 (s6 + 1))) = some c1 := hM
        have hE := Option.some.inj hE
        subst hE
        exact pc R 9999 [.as 15 true, .ix (encI v8), .call false [] (.o (.c (.v (.int .i64 v10)))) [] [], .ix (Thing.enc v12), .as 24 false] [.keep [0, 12, 13, 14] [0]] (And.intro h7 (And.intro (gi_lt encI h9) (And.intro ((gi_map encI h9).2) (And.intro (impl_FindThing_ok a0 v8 v10 h11) (And.intro (gi_map Thing.enc h13) (And.intro h14 True.intro)))))) (by kernel_rfl) (li (Sf := impl_IsLocked_L1_S a0 v4) (M := Mk (impl_IsLocked_L1 a0 v4) (impl_IsLocked_L1_k) r) (k := [.blk 0, .code (cAt Try.f54 [1, 1, 1])]) (Nat.lt_succ_self m1) hK1)
    · have hE : some (Ctl.brk ()) = some c1 := hM
      have hE := Option.some.inj hE
      subst hE
      exact pc R 5 [.as 15 false] [.keep [] []] (And.intro h7 True.intro) (by kernel_rfl) (K1 () hK1)

-- loop.example/g03014/impl.hasInt
def impl_hasInt_L1_b (a0 : (List Int)) (a1 : Int) (s1 : Int) : Option (Ctl Int Unit Bool) :=
  bif (decide (s1 < (a0.length : Int))) then
  (gi a0 s1).bind fun v3 =>
  bif (v3 == a1) then
  some (.ret true)
  else
  some (.next (w64 (s1 + 1)))
  else
  some (.brk ())
def impl_hasInt_L1 (a0 : (List Int)) (a1 : Int) (s : Int) : Option (Ctl Int Unit Bool) := impl_hasInt_L1_b a0 a1 s
def impl_hasInt_L1_s (a0 : (List Int)) (a1 : Int) (s1 : Int) : St := ⟨[(1, .o (.c (.v (.int .i64 a1)))), (7, .o (.c (.rs 1 (a0.map encI)))), (8, .o (.c (.v (.int .i64 (a0.length : Int))))), (9, .o (.c (.v (.int .i64 s1))))], []⟩
def impl_hasInt_L1_S (a0 : (List Int)) (a1 : Int) (s : Int) : St := impl_hasInt_L1_s a0 a1 s
def impl_hasInt_L1_a : Option Bool :=
  some false
def impl_hasInt_L1_k (x : (Unit) ⊕ (Bool)) : Option Bool := match x with
  | .inl t => impl_hasInt_L1_a
  | .inr y => some y
def impl_hasInt (a0 : (List Int)) (a1 : Int) : Option Bool :=
  (loopM (impl_hasInt_L1 a0 a1) big 0).bind (impl_hasInt_L1_k)
theorem impl_hasInt_ok (a0 : (List Int)) (a1 : Int) (r : Bool) (hM : impl_hasInt a0 a1 = some r) :
    Con Try.prog 55 [.c (.rs 1 (a0.map encI)), .c (.v (.int .i64 a1))] [] (.o (.c (.v (.bool r)))) [] [] := by
  unfold impl_hasInt at hM
  refine cn (N := 17) (pids := []) Try_mixed Try.func55 (by kernel_rfl) (by kernel_rfl) (by kernel_rfl) rfl fun ρ g w R => ?_
  have K1 : ∀ (_ : Unit), impl_hasInt_L1_a = some r → Gr R [.code (cAt Try.f55 [1, 1])] (⟨[], []⟩) := by
    intro _ hM
    unfold impl_hasInt_L1_a at hM
    have hE : some false = some r := hM
    have hE := Option.some.inj hE
    subst hE
    exact pr R 9999 [] [] [] [] True.intro (by kernel_rfl)
  refine pc R 9999 [.ln (a0.length)] [.keep [1, 7, 8, 9] []] (k' := [.code (.loop (cAt Try.f55 [1, 0, 1, 0, 0])), .blk 0, .code (cAt Try.f55 [1, 1])]) (S' := impl_hasInt_L1_S a0 a1 0) (And.intro (lenm encI a0) True.intro) (by kernel_rfl) ?_
  refine lq (impl_hasInt_L1_S a0 a1) (body := impl_hasInt_L1 a0 a1) (k := impl_hasInt_L1_k) hM fun m1 s c1 hM hK1 => ?_
  obtain ⟨s1, hs⟩ : ∃ z, z = s := ⟨_, rfl⟩
  subst hs
  have hM : impl_hasInt_L1_b a0 a1 s1 = some c1 := hM
  unfold impl_hasInt_L1_b at hM
  rcases cond_cases hM with ⟨h2, hM⟩ | ⟨h2, hM⟩
  · obtain ⟨v3, h4, hM⟩ := bind_some hM
    rcases cond_cases hM with ⟨h5, hM⟩ | ⟨h5, hM⟩
    · have hE : some (Ctl.ret true) = some c1 := hM
      have hE := Option.some.inj hE
      subst hE
      have hE : some true = some r := hK1
      have hE := Option.some.inj hE
      subst hE
      exact pr R 9999 [.as 10 true, .ix (encI v3), .as 15 true] [] [] [] (And.intro h2 (And.intro (gi_map encI h4) (And.intro h5 True.intro))) (by kernel_rfl)
    · have hE : some (Ctl.next (w64 (s1 + 1))) = some c1 := hM
      have hE := Option.some.inj hE
      subst hE
      exact pc R 9999 [.as 10 true, .ix (encI v3), .as 15 false] [.keep [1, 7, 8, 9] []] (And.intro h2 (And.intro (gi_map encI h4) (And.intro h5 True.intro))) (by kernel_rfl) (li (Sf := impl_hasInt_L1_S a0 a1) (M := Mk (impl_hasInt_L1 a0 a1) (impl_hasInt_L1_k) r) (k := [.blk 0, .code (cAt Try.f55 [1, 1])]) (Nat.lt_succ_self m1) hK1)
  · have hE : some (Ctl.brk ()) = some c1 := hM
    have hE := Option.some.inj hE
    subst hE
    exact pc R 5 [.as 10 false] [.keep [] []] (And.intro h2 True.intro) (by kernel_rfl) (K1 () hK1)

-- loop.example/g03014/impl.PutInto
def impl_PutInto (a0 : (List Thing)) (a1 : Int) (a2 : Int) : Option ((List Thing) × Int) :=
  (impl_copyThings a0).bind fun v1 =>
  (impl_isThing a0 a1).bind fun v3 =>
  bif (!v3) then
  some (v1, 1)
  else
  (impl_isBox a0 a2).bind fun v6 =>
  bif (!v6) then
  some (v1, 1)
  else
  (impl_IsLocked a0 a1).bind fun v9 =>
  bif v9 then
  some (v1, 2)
  else
  (impl_IsLocked a0 a2).bind fun v12 =>
  bif v12 then
  some (v1, 2)
  else
  (impl_FindThing a0 a2).bind fun v15 =>
  (gi a0 v15).bind fun v17 =>
  bif v17.Sealed then
  some (v1, 2)
  else
  bif (a1 == a2) then
  some (v1, 3)
  else
  (impl_around a0 a2).bind fun v21 =>
  (impl_hasInt v21 a1).bind fun v23 =>
  bif v23 then
  some (v1, 3)
  else
  (impl_FindThing a0 a1).bind fun v26 =>
  (gi v1 v26).bind fun v28 =>
  (impl_areDeep (List.set v1 (Int.toNat v26) (Thing.mk v28.Id v28.Own v28.Room a2 v28.Box v28.Sealed))).bind fun v30 =>
  bif (!v30) then
  (impl_copyThings a0).bind fun v33 =>
  some (v33, 4)
  else
  (impl_AreThings (List.set v1 (Int.toNat v26) (Thing.mk v28.Id v28.Own v28.Room a2 v28.Box v28.Sealed))).bind fun v35 =>
  bif (!v35) then
  (impl_copyThings a0).bind fun v38 =>
  some (v38, 5)
  else
  some (List.set v1 (Int.toNat v26) (Thing.mk v28.Id v28.Own v28.Room a2 v28.Box v28.Sealed), 0)
theorem impl_PutInto_ok (a0 : (List Thing)) (a1 : Int) (a2 : Int) (r : (List Thing) × Int) (hM : impl_PutInto a0 a1 a2 = some r) :
    Con Try.prog 34 [.c (.rs 6 (a0.map Thing.enc)), .c (.v (.int .i64 a1)), .c (.v (.int .i64 a2))] [] (.tup [.c (.sl 1000), .c (.v (.int .i64 r.2))]) [] [(1000, .row 35 6 (r.1.map Thing.enc))] := by
  unfold impl_PutInto at hM
  refine cn (N := 71) (pids := []) Try_mixed Try.func34 (by kernel_rfl) (by kernel_rfl) (by kernel_rfl) rfl fun ρ g w R => ?_
  obtain ⟨v1, h2, hM⟩ := bind_some hM
  obtain ⟨v3, h4, hM⟩ := bind_some hM
  rcases cond_cases hM with ⟨h5, hM⟩ | ⟨h5, hM⟩
  · have hE : some (v1, 1) = some r := hM
    have hE := Option.some.inj hE
    subst hE
    exact pr R 9999 [.call false [] (.o (.c (.sl 0))) [] [(0, .row 35 6 (v1.map Thing.enc))], .call false [] (.o (.c (.v (.bool v3)))) [] [], .as 15 true] [.sw 0 1000] [] [1000] (And.intro (And.intro (con_sw 1000 0 (impl_copyThings_ok a0 v1 h2)) (rfl : ([] : List Nat) = [])) (And.intro (impl_isThing_ok a0 a1 v3 h4) (And.intro h5 True.intro))) (by kernel_rfl)
  · obtain ⟨v6, h7, hM⟩ := bind_some hM
    rcases cond_cases hM with ⟨h8, hM⟩ | ⟨h8, hM⟩
    · have hE : some (v1, 1) = some r := hM
      have hE := Option.some.inj hE
      subst hE
      exact pr R 9999 [.call false [] (.o (.c (.sl 0))) [] [(0, .row 35 6 (v1.map Thing.enc))], .call false [] (.o (.c (.v (.bool v3)))) [] [], .as 15 false, .call false [] (.o (.c (.v (.bool v6)))) [] [], .as 20 true] [.sw 0 1000] [] [1000] (And.intro (And.intro (con_sw 1000 0 (impl_copyThings_ok a0 v1 h2)) (rfl : ([] : List Nat) = [])) (And.intro (impl_isThing_ok a0 a1 v3 h4) (And.intro h5 (And.intro (impl_isBox_ok a0 a2 v6 h7) (And.intro h8 True.intro))))) (by kernel_rfl)
    · obtain ⟨v9, h10, hM⟩ := bind_some hM
      rcases cond_cases hM with ⟨h11, hM⟩ | ⟨h11, hM⟩
      · have hE : some (v1, 2) = some r := hM
        have hE := Option.some.inj hE
        subst hE
        exact pr R 9999 [.call false [] (.o (.c (.sl 0))) [] [(0, .row 35 6 (v1.map Thing.enc))], .call false [] (.o (.c (.v (.bool v3)))) [] [], .as 15 false, .call false [] (.o (.c (.v (.bool v6)))) [] [], .as 20 false, .call false [] (.o (.c (.v (.bool v9)))) [] [], .as 25 true] [.sw 0 1000] [] [1000] (And.intro (And.intro (con_sw 1000 0 (impl_copyThings_ok a0 v1 h2)) (rfl : ([] : List Nat) = [])) (And.intro (impl_isThing_ok a0 a1 v3 h4) (And.intro h5 (And.intro (impl_isBox_ok a0 a2 v6 h7) (And.intro h8 (And.intro (impl_IsLocked_ok a0 a1 v9 h10) (And.intro h11 True.intro))))))) (by kernel_rfl)
      · obtain ⟨v12, h13, hM⟩ := bind_some hM
        rcases cond_cases hM with ⟨h14, hM⟩ | ⟨h14, hM⟩
        · have hE : some (v1, 2) = some r := hM
          have hE := Option.some.inj hE
          subst hE
          exact pr R 9999 [.call false [] (.o (.c (.sl 0))) [] [(0, .row 35 6 (v1.map Thing.enc))], .call false [] (.o (.c (.v (.bool v3)))) [] [], .as 15 false, .call false [] (.o (.c (.v (.bool v6)))) [] [], .as 20 false, .call false [] (.o (.c (.v (.bool v9)))) [] [], .as 25 false, .call false [] (.o (.c (.v (.bool v12)))) [] [], .as 30 true] [.sw 0 1000] [] [1000] (And.intro (And.intro (con_sw 1000 0 (impl_copyThings_ok a0 v1 h2)) (rfl : ([] : List Nat) = [])) (And.intro (impl_isThing_ok a0 a1 v3 h4) (And.intro h5 (And.intro (impl_isBox_ok a0 a2 v6 h7) (And.intro h8 (And.intro (impl_IsLocked_ok a0 a1 v9 h10) (And.intro h11 (And.intro (impl_IsLocked_ok a0 a2 v12 h13) (And.intro h14 True.intro))))))))) (by kernel_rfl)
        · obtain ⟨v15, h16, hM⟩ := bind_some hM
          obtain ⟨v17, h18, hM⟩ := bind_some hM
          rcases cond_cases hM with ⟨h19, hM⟩ | ⟨h19, hM⟩
          · have hE : some (v1, 2) = some r := hM
            have hE := Option.some.inj hE
            subst hE
            exact pr R 9999 [.call false [] (.o (.c (.sl 0))) [] [(0, .row 35 6 (v1.map Thing.enc))], .call false [] (.o (.c (.v (.bool v3)))) [] [], .as 15 false, .call false [] (.o (.c (.v (.bool v6)))) [] [], .as 20 false, .call false [] (.o (.c (.v (.bool v9)))) [] [], .as 25 false, .call false [] (.o (.c (.v (.bool v12)))) [] [], .as 30 false, .call false [] (.o (.c (.v (.int .i64 v15)))) [] [], .ix (Thing.enc v17), .as 38 true] [.sw 0 1000] [] [1000] (And.intro (And.intro (con_sw 1000 0 (impl_copyThings_ok a0 v1 h2)) (rfl : ([] : List Nat) = [])) (And.intro (impl_isThing_ok a0 a1 v3 h4) (And.intro h5 (And.intro (impl_isBox_ok a0 a2 v6 h7) (And.intro h8 (And.intro (impl_IsLocked_ok a0 a1 v9 h10) (And.intro h11 (And.intro (impl_IsLocked_ok a0 a2 v12 h13) (And.intro h14 (And.intro (impl_FindThing_ok a0 a2 v15 h16) (And.intro (gi_map Thing.enc h18) (And.intro h19 True.intro)))))))))))) (by kernel_rfl)
          · rcases cond_cases hM with ⟨h20, hM⟩ | ⟨h20, hM⟩
            · have hE : some (v1, 3) = some r := hM
              have hE := Option.some.inj hE
              subst hE
              exact pr R 9999 [.call false [] (.o (.c (.sl 0))) [] [(0, .row 35 6 (v1.map Thing.enc))], .call false [] (.o (.c (.v (.bool v3)))) [] [], .as 15 false, .call false [] (.o (.c (.v (.bool v6)))) [] [], .as 20 false, .call false [] (.o (.c (.v (.bool v9)))) [] [], .as 25 false, .call false [] (.o (.c (.v (.bool v12)))) [] [], .as 30 false, .call false [] (.o (.c (.v (.int .i64 v15)))) [] [], .ix (Thing.enc v17), .as 38 false, .as 43 true] [.sw 0 1000] [] [1000] (And.intro (And.intro (con_sw 1000 0 (impl_copyThings_ok a0 v1 h2)) (rfl : ([] : List Nat) = [])) (And.intro (impl_isThing_ok a0 a1 v3 h4) (And.intro h5 (And.intro (impl_isBox_ok a0 a2 v6 h7) (And.intro h8 (And.intro (impl_IsLocked_ok a0 a1 v9 h10) (And.intro h11 (And.intro (impl_IsLocked_ok a0 a2 v12 h13) (And.intro h14 (And.intro (impl_FindThing_ok a0 a2 v15 h16) (And.intro (gi_map Thing.enc h18) (And.intro h19 (And.intro h20 True.intro))))))))))))) (by kernel_rfl)
            · obtain ⟨v21, h22, hM⟩ := bind_some hM
              obtain ⟨v23, h24, hM⟩ := bind_some hM
              rcases cond_cases hM with ⟨h25, hM⟩ | ⟨h25, hM⟩
              · have hE : some (v1, 3) = some r := hM
                have hE := Option.some.inj hE
                subst hE
                exact pr R 9999 [.call false [] (.o (.c (.sl 0))) [] [(0, .row 35 6 (v1.map Thing.enc))], .call false [] (.o (.c (.v (.bool v3)))) [] [], .as 15 false, .call false [] (.o (.c (.v (.bool v6)))) [] [], .as 20 false, .call false [] (.o (.c (.v (.bool v9)))) [] [], .as 25 false, .call false [] (.o (.c (.v (.bool v12)))) [] [], .as 30 false, .call false [] (.o (.c (.v (.int .i64 v15)))) [] [], .ix (Thing.enc v17), .as 38 false, .as 43 false, .call false [] (.o (.c (.sl 1))) [] [(1, .row 3 1 (v21.map encI))], .call false [] (.o (.c (.v (.bool v23)))) [] [], .as 49 true] [.sw 0 1000] [] [1000] (And.intro (And.intro (con_sw 1000 0 (impl_copyThings_ok a0 v1 h2)) (rfl : ([] : List Nat) = [])) (And.intro (impl_isThing_ok a0 a1 v3 h4) (And.intro h5 (And.intro (impl_isBox_ok a0 a2 v6 h7) (And.intro h8 (And.intro (impl_IsLocked_ok a0 a1 v9 h10) (And.intro h11 (And.intro (impl_IsLocked_ok a0 a2 v12 h13) (And.intro h14 (And.intro (impl_FindThing_ok a0 a2 v15 h16) (And.intro (gi_map Thing.enc h18) (And.intro h19 (And.intro h20 (And.intro (And.intro (con_sw 1000 1 (impl_around_ok a0 a2 v21 h22)) (rfl : ([] : List Nat) = [])) (And.intro (impl_hasInt_ok v21 a1 v23 h24) (And.intro h25 True.intro)))))))))))))))) (by kernel_rfl)
              · obtain ⟨v26, h27, hM⟩ := bind_some hM
                obtain ⟨v28, h29, hM⟩ := bind_some hM
                obtain ⟨v30, h31, hM⟩ := bind_some hM
                rcases cond_cases hM with ⟨h32, hM⟩ | ⟨h32, hM⟩
                · obtain ⟨v33, h34, hM⟩ := bind_some hM
                  have hE : some (v33, 4) = some r := hM
                  have hE := Option.some.inj hE
                  subst hE
                  exact pr R 9999 [.call false [] (.o (.c (.sl 0))) [] [(0, .row 35 6 (v1.map Thing.enc))], .call false [] (.o (.c (.v (.bool v3)))) [] [], .as 15 false, .call false [] (.o (.c (.v (.bool v6)))) [] [], .as 20 false, .call false [] (.o (.c (.v (.bool v9)))) [] [], .as 25 false, .call false [] (.o (.c (.v (.bool v12)))) [] [], .as 30 false, .call false [] (.o (.c (.v (.int .i64 v15)))) [] [], .ix (Thing.enc v17), .as 38 false, .as 43 false, .call false [] (.o (.c (.sl 1))) [] [(1, .row 3 1 (v21.map encI))], .call false [] (.o (.c (.v (.bool v23)))) [] [], .as 49 false, .call false [] (.o (.c (.v (.int .i64 v26)))) [] [], .ix (Thing.enc v28), .nm ((List.set v1 (Int.toNat v26) (Thing.mk v28.Id v28.Own v28.Room a2 v28.Box v28.Sealed)).map Thing.enc), .call false [] (.o (.c (.v (.bool v30)))) [] [], .as 58 true, .call false [] (.o (.c (.sl 2))) [] [(2, .row 35 6 (v33.map Thing.enc))]] [.sw 2 1000] [] [1000] (And.intro (And.intro (con_sw 1000 0 (impl_copyThings_ok a0 v1 h2)) (rfl : ([] : List Nat) = [])) (And.intro (impl_isThing_ok a0 a1 v3 h4) (And.intro h5 (And.intro (impl_isBox_ok a0 a2 v6 h7) (And.intro h8 (And.intro (impl_IsLocked_ok a0 a1 v9 h10) (And.intro h11 (And.intro (impl_IsLocked_ok a0 a2 v12 h13) (And.intro h14 (And.intro (impl_FindThing_ok a0 a2 v15 h16) (And.intro (gi_map Thing.enc h18) (And.intro h19 (And.intro h20 (And.intro (And.intro (con_sw 1000 1 (impl_around_ok a0 a2 v21 h22)) (rfl : ([] : List Nat) = [])) (And.intro (impl_hasInt_ok v21 a1 v23 h24) (And.intro h25 (And.intro (impl_FindThing_ok a0 a1 v26 h27) (And.intro (gi_lt Thing.enc h29) (And.intro (And.intro (gi_map Thing.enc h29).2 (set_map Thing.enc v1 (Int.toNat v26) (Thing.mk v28.Id v28.Own v28.Room a2 v28.Box v28.Sealed))) (And.intro (impl_areDeep_ok (List.set v1 (Int.toNat v26) (Thing.mk v28.Id v28.Own v28.Room a2 v28.Box v28.Sealed)) v30 h31) (And.intro h32 (And.intro (And.intro (con_sw 1000 2 (impl_copyThings_ok a0 v33 h34)) (rfl : ([] : List Nat) = [])) True.intro)))))))))))))))))))))) (by kernel_rfl)
                · obtain ⟨v35, h36, hM⟩ := bind_some hM
                  rcases cond_cases hM with ⟨h37, hM⟩ | ⟨h37, hM⟩
                  · obtain ⟨v38, h39, hM⟩ := bind_some hM
                    have hE : some (v38, 5) = some r := hM
                    have hE := Option.some.inj hE
                    subst hE
                    exact pr R 9999 [.call false [] (.o (.c (.sl 0))) [] [(0, .row 35 6 (v1.map Thing.enc))], .call false [] (.o (.c (.v (.bool v3)))) [] [], .as 15 false, .call false [] (.o (.c (.v (.bool v6)))) [] [], .as 20 false, .call false [] (.o (.c (.v (.bool v9)))) [] [], .as 25 false, .call false [] (.o (.c (.v (.bool v12)))) [] [], .as 30 false, .call false [] (.o (.c (.v (.int .i64 v15)))) [] [], .ix (Thing.enc v17), .as 38 false, .as 43 false, .call false [] (.o (.c (.sl 1))) [] [(1, .row 3 1 (v21.map encI))], .call false [] (.o (.c (.v (.bool v23)))) [] [], .as 49 false, .call false [] (.o (.c (.v (.int .i64 v26)))) [] [], .ix (Thing.enc v28), .nm ((List.set v1 (Int.toNat v26) (Thing.mk v28.Id v28.Own v28.Room a2 v28.Box v28.Sealed)).map Thing.enc), .call false [] (.o (.c (.v (.bool v30)))) [] [], .as 58 false, .call false [] (.o (.c (.v (.bool v35)))) [] [], .as 64 true, .call false [] (.o (.c (.sl 3))) [] [(3, .row 35 6 (v38.map Thing.enc))]] [.sw 3 1000] [] [1000] (And.intro (And.intro (con_sw 1000 0 (impl_copyThings_ok a0 v1 h2)) (rfl : ([] : List Nat) = [])) (And.intro (impl_isThing_ok a0 a1 v3 h4) (And.intro h5 (And.intro (impl_isBox_ok a0 a2 v6 h7) (And.intro h8 (And.intro (impl_IsLocked_ok a0 a1 v9 h10) (And.intro h11 (And.intro (impl_IsLocked_ok a0 a2 v12 h13) (And.intro h14 (And.intro (impl_FindThing_ok a0 a2 v15 h16) (And.intro (gi_map Thing.enc h18) (And.intro h19 (And.intro h20 (And.intro (And.intro (con_sw 1000 1 (impl_around_ok a0 a2 v21 h22)) (rfl : ([] : List Nat) = [])) (And.intro (impl_hasInt_ok v21 a1 v23 h24) (And.intro h25 (And.intro (impl_FindThing_ok a0 a1 v26 h27) (And.intro (gi_lt Thing.enc h29) (And.intro (And.intro (gi_map Thing.enc h29).2 (set_map Thing.enc v1 (Int.toNat v26) (Thing.mk v28.Id v28.Own v28.Room a2 v28.Box v28.Sealed))) (And.intro (impl_areDeep_ok (List.set v1 (Int.toNat v26) (Thing.mk v28.Id v28.Own v28.Room a2 v28.Box v28.Sealed)) v30 h31) (And.intro h32 (And.intro (impl_AreThings_ok (List.set v1 (Int.toNat v26) (Thing.mk v28.Id v28.Own v28.Room a2 v28.Box v28.Sealed)) v35 h36) (And.intro h37 (And.intro (And.intro (con_sw 1000 3 (impl_copyThings_ok a0 v38 h39)) (rfl : ([] : List Nat) = [])) True.intro)))))))))))))))))))))))) (by kernel_rfl)
                  · have hE : some (List.set v1 (Int.toNat v26) (Thing.mk v28.Id v28.Own v28.Room a2 v28.Box v28.Sealed), 0) = some r := hM
                    have hE := Option.some.inj hE
                    subst hE
                    exact pr R 9999 [.call false [] (.o (.c (.sl 0))) [] [(0, .row 35 6 (v1.map Thing.enc))], .call false [] (.o (.c (.v (.bool v3)))) [] [], .as 15 false, .call false [] (.o (.c (.v (.bool v6)))) [] [], .as 20 false, .call false [] (.o (.c (.v (.bool v9)))) [] [], .as 25 false, .call false [] (.o (.c (.v (.bool v12)))) [] [], .as 30 false, .call false [] (.o (.c (.v (.int .i64 v15)))) [] [], .ix (Thing.enc v17), .as 38 false, .as 43 false, .call false [] (.o (.c (.sl 1))) [] [(1, .row 3 1 (v21.map encI))], .call false [] (.o (.c (.v (.bool v23)))) [] [], .as 49 false, .call false [] (.o (.c (.v (.int .i64 v26)))) [] [], .ix (Thing.enc v28), .nm ((List.set v1 (Int.toNat v26) (Thing.mk v28.Id v28.Own v28.Room a2 v28.Box v28.Sealed)).map Thing.enc), .call false [] (.o (.c (.v (.bool v30)))) [] [], .as 58 false, .call false [] (.o (.c (.v (.bool v35)))) [] [], .as 64 false] [.sw 0 1000] [] [1000] (And.intro (And.intro (con_sw 1000 0 (impl_copyThings_ok a0 v1 h2)) (rfl : ([] : List Nat) = [])) (And.intro (impl_isThing_ok a0 a1 v3 h4) (And.intro h5 (And.intro (impl_isBox_ok a0 a2 v6 h7) (And.intro h8 (And.intro (impl_IsLocked_ok a0 a1 v9 h10) (And.intro h11 (And.intro (impl_IsLocked_ok a0 a2 v12 h13) (And.intro h14 (And.intro (impl_FindThing_ok a0 a2 v15 h16) (And.intro (gi_map Thing.enc h18) (And.intro h19 (And.intro h20 (And.intro (And.intro (con_sw 1000 1 (impl_around_ok a0 a2 v21 h22)) (rfl : ([] : List Nat) = [])) (And.intro (impl_hasInt_ok v21 a1 v23 h24) (And.intro h25 (And.intro (impl_FindThing_ok a0 a1 v26 h27) (And.intro (gi_lt Thing.enc h29) (And.intro (And.intro (gi_map Thing.enc h29).2 (set_map Thing.enc v1 (Int.toNat v26) (Thing.mk v28.Id v28.Own v28.Room a2 v28.Box v28.Sealed))) (And.intro (impl_areDeep_ok (List.set v1 (Int.toNat v26) (Thing.mk v28.Id v28.Own v28.Room a2 v28.Box v28.Sealed)) v30 h31) (And.intro h32 (And.intro (impl_AreThings_ok (List.set v1 (Int.toNat v26) (Thing.mk v28.Id v28.Own v28.Room a2 v28.Box v28.Sealed)) v35 h36) (And.intro h37 True.intro))))))))))))))))))))))) (by kernel_rfl)

-- loop.example/g03014/impl.PackAll
def impl_PackAll_L2_b (a2 : (List Int)) (s12 : (List Thing)) (v18 : Int) (s20 : Int) : Option (Ctl Int ((List Thing) × Bool) ((List Thing) × (List Int))) :=
  bif (decide (s20 < (a2.length : Int))) then
  (gi a2 s20).bind fun v27 =>
  (impl_PutInto s12 v18 v27).bind fun v29 =>
  bif (v29.2 == 0) then
  some (.brk (v29.1, true))
  else
  some (.next (w64 (s20 + 1)))
  else
  some (.brk (s12, false))
def impl_PackAll_L2 (a2 : (List Int)) (s12 : (List Thing)) (v18 : Int) (s : Int) : Option (Ctl Int ((List Thing) × Bool) ((List Thing) × (List Int))) := impl_PackAll_L2_b a2 s12 v18 s
def impl_PackAll_L2_s (a2 : (List Int)) (v10 : (List Int)) (s12 : (List Thing)) (s13 : (List Int)) (s14 : Int) (v18 : Int) (s20 : Int) : St := ⟨[(2, .o (.c (.rs 1 (a2.map encI)))), (8, .o (.c (.sl 1))), (9, .o (.c (.sl 2))), (12, .o (.c (.v (.int .i64 v18)))), (13, .o (.c (.v (.bool false)))), (43, .o (.c (.sl 4))), (44, .o (.c (.v (.int .i64 (v10.length : Int))))), (45, .o (.c (.v (.int .i64 s14)))), (49, .o (.c (.rs 1 (a2.map encI)))), (50, .o (.c (.v (.int .i64 (a2.length : Int))))), (51, .o (.c (.v (.int .i64 s20))))], [(1, .row 35 6 (s12.map Thing.enc)), (2, .row 3 1 (s13.map encI)), (4, .row 3 1 (v10.map encI))]⟩
def impl_PackAll_L2_S (a2 : (List Int)) (v10 : (List Int)) (s12 : (List Thing)) (s13 : (List Int)) (s14 : Int) (v18 : Int) (s : Int) : St := impl_PackAll_L2_s a2 v10 s12 s13 s14 v18 s
def impl_PackAll_L2_a (s13 : (List Int)) (s14 : Int) (v18 : Int) (s21 : (List Thing)) (s22 : Bool) : Option (Ctl ((List Thing) × (List Int) × Int) ((List Thing) × (List Int)) ((List Thing) × (List Int))) :=
  bif (!s22) then
  (ap 8 s13 ([v18] : List Int)).bind fun v24 =>
  some (.next (s21, v24, w64 (s14 + 1)))
  else
  some (.next (s21, s13, w64 (s14 + 1)))
def impl_PackAll_L2_k (s13 : (List Int)) (s14 : Int) (v18 : Int) (x : ((List Thing) × Bool) ⊕ ((List Thing) × (List Int))) : Option (Ctl ((List Thing) × (List Int) × Int) ((List Thing) × (List Int)) ((List Thing) × (List Int))) := match x with
  | .inl t => impl_PackAll_L2_a s13 s14 v18 t.1 t.2
  | .inr y => some (.ret y)
def impl_PackAll_L1_b (a2 : (List Int)) (v10 : (List Int)) (s12 : (List Thing)) (s13 : (List Int)) (s14 : Int) : Option (Ctl ((List Thing) × (List Int) × Int) ((List Thing) × (List Int)) ((List Thing) × (List Int))) :=
  bif (decide (s14 < (v10.length : Int))) then
  (gi v10 s14).bind fun v18 =>
  (loopM (impl_PackAll_L2 a2 s12 v18) big 0).bind (impl_PackAll_L2_k s13 s14 v18)
  else
  some (.brk (s12, s13))
def impl_PackAll_L1 (a2 : (List Int)) (v10 : (List Int)) (s : (List Thing) × (List Int) × Int) : Option (Ctl ((List Thing) × (List Int) × Int) ((List Thing) × (List Int)) ((List Thing) × (List Int))) := impl_PackAll_L1_b a2 v10 s.1 s.2.1 s.2.2
def impl_PackAll_L1_s (a2 : (List Int)) (v10 : (List Int)) (s12 : (List Thing)) (s13 : (List Int)) (s14 : Int) : St := ⟨[(2, .o (.c (.rs 1 (a2.map encI)))), (8, .o (.c (.sl 1))), (9, .o (.c (.sl 2))), (43, .o (.c (.sl 4))), (44, .o (.c (.v (.int .i64 (v10.length : Int))))), (45, .o (.c (.v (.int .i64 s14))))], [(1, .row 35 6 (s12.map Thing.enc)), (2, .row 3 1 (s13.map encI)), (4, .row 3 1 (v10.map encI))]⟩
def impl_PackAll_L1_S (a2 : (List Int)) (v10 : (List Int)) (s : (List Thing) × (List Int) × Int) : St := impl_PackAll_L1_s a2 v10 s.1 s.2.1 s.2.2
def impl_PackAll_L1_a (s15 : (List Thing)) (s16 : (List Int)) : Option ((List Thing) × (List Int)) :=
  some (s15, s16)
def impl_PackAll_L1_k (x : ((List Thing) × (List Int)) ⊕ ((List Thing) × (List Int))) : Option ((List Thing) × (List Int)) := match x with
  | .inl t => impl_PackAll_L1_a t.1 t.2
  | .inr y => some y
def impl_PackAll (a0 : (List Thing)) (a1 : (List Int)) (a2 : (List Int)) : Option ((List Thing) × (List Int)) :=
  (impl_copyThings a0).bind fun v1 =>
  (impl_AreThings a0).bind fun v3 =>
  bif (!v3) then
  some (v1, ([] : List Int))
  else
  bif (decide ((a1.length : Int) > 40)) then
  some (v1, ([] : List Int))
  else
  bif (decide ((a2.length : Int) > 40)) then
  some (v1, ([] : List Int))
  else
  (ap 8 ([] : List Int) a1).bind fun v8 =>
  (sort_SliceStable_at0sk_1lf30 (a0, v8)).bind fun v10 =>
  (loopM (impl_PackAll_L1 a2 v10) big (v1, ([] : List Int), 0)).bind (impl_PackAll_L1_k)
theorem impl_PackAll_ok (a0 : (List Thing)) (a1 : (List Int)) (a2 : (List Int)) (r : (List Thing) × (List Int)) (hM : impl_PackAll a0 a1 a2 = some r) :
    Con Try.prog 7 [.c (.rs 6 (a0.map Thing.enc)), .c (.rs 1 (a1.map encI)), .c (.rs 1 (a2.map encI))] [] (.tup [.c (.sl 1000), .c (.sl 1001)]) [] [(1000, .row 35 6 (r.1.map Thing.enc)), (1001, .row 3 1 (r.2.map encI))] := by
  unfold impl_PackAll at hM
  refine cn (N := 75) (pids := []) Try_mixed Try.func7 (by kernel_rfl) (by kernel_rfl) (by kernel_rfl) rfl fun ρ g w R => ?_
  obtain ⟨v1, h2, hM⟩ := bind_some hM
  obtain ⟨v3, h4, hM⟩ := bind_some hM
  rcases cond_cases hM with ⟨h5, hM⟩ | ⟨h5, hM⟩
  · have hE : some (v1, ([] : List Int)) = some r := hM
    have hE := Option.some.inj hE
    subst hE
    exact pr R 9999 [.new 0, .call false [] (.o (.c (.sl 1))) [] [(1, .row 35 6 (v1.map Thing.enc))], .new 2, .call false [] (.o (.c (.v (.bool v3)))) [] [], .as 24 true] [.sw 1 1000, .sw 2 1001] [] [1000, 1001] (And.intro (And.intro (con_sw 1000 1 (impl_copyThings_ok a0 v1 h2)) (rfl : ([] : List Nat) = [])) (And.intro (impl_AreThings_ok a0 v3 h4) (And.intro h5 True.intro))) (by kernel_rfl)
  · rcases cond_cases hM with ⟨h6, hM⟩ | ⟨h6, hM⟩
    · have hE : some (v1, ([] : List Int)) = some r := hM
      have hE := Option.some.inj hE
      subst hE
      exact pr R 9999 [.new 0, .call false [] (.o (.c (.sl 1))) [] [(1, .row 35 6 (v1.map Thing.enc))], .new 2, .call false [] (.o (.c (.v (.bool v3)))) [] [], .as 24 false, .ln (a1.length), .as 29 true] [.sw 1 1000, .sw 2 1001] [] [1000, 1001] (And.intro (And.intro (con_sw 1000 1 (impl_copyThings_ok a0 v1 h2)) (rfl : ([] : List Nat) = [])) (And.intro (impl_AreThings_ok a0 v3 h4) (And.intro h5 (And.intro (lenm encI a1) (And.intro h6 True.intro))))) (by kernel_rfl)
    · rcases cond_cases hM with ⟨h7, hM⟩ | ⟨h7, hM⟩
      · have hE : some (v1, ([] : List Int)) = some r := hM
        have hE := Option.some.inj hE
        subst hE
        exact pr R 9999 [.new 0, .call false [] (.o (.c (.sl 1))) [] [(1, .row 35 6 (v1.map Thing.enc))], .new 2, .call false [] (.o (.c (.v (.bool v3)))) [] [], .as 24 false, .ln (a1.length), .as 29 false, .ln (a2.length), .as 33 true] [.sw 1 1000, .sw 2 1001] [] [1000, 1001] (And.intro (And.intro (con_sw 1000 1 (impl_copyThings_ok a0 v1 h2)) (rfl : ([] : List Nat) = [])) (And.intro (impl_AreThings_ok a0 v3 h4) (And.intro h5 (And.intro (lenm encI a1) (And.intro h6 (And.intro (lenm encI a2) (And.intro h7 True.intro))))))) (by kernel_rfl)
      · obtain ⟨v8, h9, hM⟩ := bind_some hM
        obtain ⟨v10, h11, hM⟩ := bind_some hM
        have K1 : ∀ (s15 : (List Thing)) (s16 : (List Int)), impl_PackAll_L1_a s15 s16 = some r → Gr R [.code (cAt Try.f7 [1, 1, 1, 1, 1, 1, 1])] (⟨[(8, .o (.c (.sl 1))), (9, .o (.c (.sl 2)))], [(1, .row 35 6 (s15.map Thing.enc)), (2, .row 3 1 (s16.map encI))]⟩) := by
          intro s15 s16 hM
          unfold impl_PackAll_L1_a at hM
          have hE : some (s15, s16) = some r := hM
          have hE := Option.some.inj hE
          subst hE
          exact pr R 9999 [] [.sw 1 1000, .sw 2 1001] [] [1000, 1001] True.intro (by kernel_rfl)
        refine pc R 9999 [.new 0, .call false [] (.o (.c (.sl 1))) [] [(1, .row 35 6 (v1.map Thing.enc))], .new 2, .call false [] (.o (.c (.v (.bool v3)))) [] [], .as 24 false, .ln (a1.length), .as 29 false, .ln (a2.length), .as 33 false, .new 3, .new 4, .nm (v8.map encI), .new 5, .ad (.keep [0, 1, 2, 3, 6, 7, 8, 9, 10, 18, 19, 20, 21, 22, 23, 24, 25, 26, 27, 28, 29, 30, 31, 32, 33, 36, 37, 38, 39, 40, 41] [0, 5, 4, 1, 2]), .call true [0, 5, 4] (.tup []) [(0, .box 24 [.rs 6 (a0.map Thing.enc)]), (5, .box 25 [.sl 4]), (4, .row 3 1 (v10.map encI))] [], .ln (v10.length)] [.keep [2, 8, 9, 43, 44, 45] [1, 2, 4]] (k' := [.code (.loop (cAt Try.f7 [1, 1, 1, 1, 1, 1, 0, 1, 0, 0])), .blk 0, .code (cAt Try.f7 [1, 1, 1, 1, 1, 1, 1])]) (S' := impl_PackAll_L1_S a2 v10 (v1, ([] : List Int), 0)) (And.intro (And.intro (con_sw 1000 1 (impl_copyThings_ok a0 v1 h2)) (rfl : ([] : List Nat) = [])) (And.intro (impl_AreThings_ok a0 v3 h4) (And.intro h5 (And.intro (lenm encI a1) (And.intro h6 (And.intro (lenm encI a2) (And.intro h7 (And.intro (ap_ok encI h9) (And.intro (And.intro (con_sw 940 4 (con_sw 920 5 (con_sw 900 0 (sort_SliceStable_at0sk_1lf30_ok (a0, v8) v10 h11)))) (rfl : ([0, 5, 4] : List Nat) = [0, 5, 4])) (And.intro (lenm encI v10) True.intro)))))))))) (by kernel_rfl) ?_
        refine lq (impl_PackAll_L1_S a2 v10) (body := impl_PackAll_L1 a2 v10) (k := impl_PackAll_L1_k) hM fun m1 s c1 hM hK1 => ?_
        obtain ⟨s12, s13, s14⟩ := s
        have hM : impl_PackAll_L1_b a2 v10 s12 s13 s14 = some c1 := hM
        unfold impl_PackAll_L1_b at hM
        rcases cond_cases hM with ⟨h17, hM⟩ | ⟨h17, hM⟩
        · obtain ⟨v18, h19, hM⟩ := bind_some hM
          have K2 : ∀ (s21 : (List Thing)) (s22 : Bool), impl_PackAll_L2_a s13 s14 v18 s21 s22 = some c1 → Gr R [.code (cAt Try.f7 [1, 1, 1, 1, 1, 1, 0, 1, 0, 0, 1, 1, 0, 0, 1, 1, 1]), .blk 1, .code (cAt Try.f7 [1, 1, 1, 1, 1, 1, 0, 1, 0, 0, 1, 1, 1]), .inv (Jr R (impl_PackAll_L1_S a2 v10) (Mk (impl_PackAll_L1 a2 v10) (impl_PackAll_L1_k) r) (m1 + 1)), .blk 0, .code (cAt Try.f7 [1, 1, 1, 1, 1, 1, 1])] (⟨[(2, .o (.c (.rs 1 (a2.map encI)))), (8, .o (.c (.sl 6))), (9, .o (.c (.sl 2))), (12, .o (.c (.v (.int .i64 v18)))), (13, .o (.c (.v (.bool s22)))), (43, .o (.c (.sl 4))), (44, .o (.c (.v (.int .i64 (v10.length : Int))))), (45, .o (.c (.v (.int .i64 s14))))], [(6, .row 35 6 (s21.map Thing.enc)), (2, .row 3 1 (s13.map encI)), (4, .row 3 1 (v10.map encI))]⟩) := by
            intro s21 s22 hM
            unfold impl_PackAll_L2_a at hM
            rcases cond_cases hM with ⟨h23, hM⟩ | ⟨h23, hM⟩
            · obtain ⟨v24, h25, hM⟩ := bind_some hM
              have hE : some (Ctl.next (s21, v24, w64 (s14 + 1))) = some c1 := hM
              have hE := Option.some.inj hE
              subst hE
              exact pc R 9999 [.as 67 true, .new 7, .new 8, .nm (v24.map encI)] [.sw 6 1, .sw 8 2, .keep [2, 8, 9, 43, 44, 45] [1, 2, 4]] (And.intro h23 (And.intro (ap_ok encI h25) True.intro)) (by kernel_rfl) (li (Sf := impl_PackAll_L1_S a2 v10) (M := Mk (impl_PackAll_L1 a2 v10) (impl_PackAll_L1_k) r) (k := [.blk 0, .code (cAt Try.f7 [1, 1, 1, 1, 1, 1, 1])]) (Nat.lt_succ_self m1) hK1)
            · have hE : some (Ctl.next (s21, s13, w64 (s14 + 1))) = some c1 := hM
              have hE := Option.some.inj hE
              subst hE
              exact pc R 9999 [.as 67 false] [.sw 6 1, .keep [2, 8, 9, 43, 44, 45] [1, 2, 4]] (And.intro h23 True.intro) (by kernel_rfl) (li (Sf := impl_PackAll_L1_S a2 v10) (M := Mk (impl_PackAll_L1 a2 v10) (impl_PackAll_L1_k) r) (k := [.blk 0, .code (cAt Try.f7 [1, 1, 1, 1, 1, 1, 1])]) (Nat.lt_succ_self m1) hK1)
          refine pc R 9999 [.as 46 true, .ix (encI v18), .ln (a2.length)] [.keep [2, 8, 9, 12, 13, 43, 44, 45, 49, 50, 51] [1, 2, 4]] (k' := [.code (.loop (cAt Try.f7 [1, 1, 1, 1, 1, 1, 0, 1, 0, 0, 1, 1, 0, 0, 1, 1, 0, 1, 0, 0])), .blk 2, .code (cAt Try.f7 [1, 1, 1, 1, 1, 1, 0, 1, 0, 0, 1, 1, 0, 0, 1, 1, 1]), .blk 1, .code (cAt Try.f7 [1, 1, 1, 1, 1, 1, 0, 1, 0, 0, 1, 1, 1]), .inv (Jr R (impl_PackAll_L1_S a2 v10) (Mk (impl_PackAll_L1 a2 v10) (impl_PackAll_L1_k) r) (m1 + 1)), .blk 0, .code (cAt Try.f7 [1, 1, 1, 1, 1, 1, 1])]) (S' := impl_PackAll_L2_S a2 v10 s12 s13 s14 v18 0) (And.intro h17 (And.intro (gi_lt encI h19) (And.intro ((gi_map encI h19).2) (And.intro (lenm encI a2) True.intro)))) (by kernel_rfl) ?_
          refine lq (impl_PackAll_L2_S a2 v10 s12 s13 s14 v18) (body := impl_PackAll_L2 a2 s12 v18) (k := impl_PackAll_L2_k s13 s14 v18) hM fun m2 s c2 hM hK2 => ?_
          obtain ⟨s20, hs⟩ : ∃ z, z = s := ⟨_, rfl⟩
          subst hs
          have hM : impl_PackAll_L2_b a2 s12 v18 s20 = some c2 := hM
          unfold impl_PackAll_L2_b at hM
          rcases cond_cases hM with ⟨h26, hM⟩ | ⟨h26, hM⟩
          · obtain ⟨v27, h28, hM⟩ := bind_some hM
            obtain ⟨v29, h30, hM⟩ := bind_some hM
            rcases cond_cases hM with ⟨h31, hM⟩ | ⟨h31, hM⟩
            · have hE : some (Ctl.brk (v29.1, true)) = some c2 := hM
              have hE := Option.some.inj hE
              subst hE
              exact pc R 19 [.as 52 true, .ix (encI v27), .call false [] (.tup [.c (.sl 9), .c (.v (.int .i64 v29.2))]) [] [(9, .row 35 6 (v29.1.map Thing.enc))], .as 63 true] [.sw 9 6, .keep [2, 8, 9, 12, 13, 43, 44, 45] [6, 2, 4]] (And.intro h26 (And.intro (gi_map encI h28) (And.intro (And.intro (con_sw 1000 9 (impl_PutInto_ok s12 v18 v27 v29 h30)) (rfl : ([] : List Nat) = [])) (And.intro h31 True.intro)))) (by kernel_rfl) (K2 v29.1 true hK2)
            · have hE : some (Ctl.next (w64 (s20 + 1))) = some c2 := hM
              have hE := Option.some.inj hE
              subst hE
              exact pc R 9999 [.as 52 true, .ix (encI v27), .call false [] (.tup [.c (.sl 9), .c (.v (.int .i64 v29.2))]) [] [(9, .row 35 6 (v29.1.map Thing.enc))], .as 63 false] [.keep [2, 8, 9, 12, 13, 43, 44, 45, 49, 50, 51] [1, 2, 4]] (And.intro h26 (And.intro (gi_map encI h28) (And.intro (And.intro (con_sw 1000 9 (impl_PutInto_ok s12 v18 v27 v29 h30)) (rfl : ([] : List Nat) = [])) (And.intro h31 True.intro)))) (by kernel_rfl) (li (Sf := impl_PackAll_L2_S a2 v10 s12 s13 s14 v18) (M := Mk (impl_PackAll_L2 a2 s12 v18) (impl_PackAll_L2_k s13 s14 v18) c1) (k := [.blk 2, .code (cAt Try.f7 [1, 1, 1, 1, 1, 1, 0, 1, 0, 0, 1, 1, 0, 0, 1, 1, 1]), .blk 1, .code (cAt Try.f7 [1, 1, 1, 1, 1, 1, 0, 1, 0, 0, 1, 1, 1]), .inv (Jr R (impl_PackAll_L1_S a2 v10) (Mk (impl_PackAll_L1 a2 v10) (impl_PackAll_L1_k) r) (m1 + 1)), .blk 0, .code (cAt Try.f7 [1, 1, 1, 1, 1, 1, 1])]) (Nat.lt_succ_self m2) hK2)
          · have hE : some (Ctl.brk (s12, false)) = some c2 := hM
            have hE := Option.some.inj hE
            subst hE
            exact pc R 5 [.as 52 false] [.sw 1 6, .keep [2, 8, 9, 12, 13, 43, 44, 45] [6, 2, 4]] (And.intro h26 True.intro) (by kernel_rfl) (K2 s12 false hK2)
        · have hE : some (Ctl.brk (s12, s13)) = some c1 := hM
          have hE := Option.some.inj hE
          subst hE
          exact pc R 5 [.as 46 false] [.keep [8, 9] [1, 2]] (And.intro h17 True.intro) (by kernel_rfl) (K1 s12 s13 hK1)

-- loop.example/g03014/laws.eqThing
def laws_eqThing (a0 : Thing) (a1 : Thing) : Option Bool :=
  bif (a0.Id != a1.Id) then
  some false
  else
  bif (a0.Own != a1.Own) then
  some false
  else
  bif (a0.Room != a1.Room) then
  some false
  else
  bif (a0.In != a1.In) then
  some false
  else
  bif (!(a0.Box == a1.Box)) then
  some false
  else
  bif (!(a0.Sealed == a1.Sealed)) then
  some false
  else
  some true
theorem laws_eqThing_ok (a0 : Thing) (a1 : Thing) (r : Bool) (hM : laws_eqThing a0 a1 = some r) :
    Con Try.prog 44 [.c (.v (.agg (Thing.enc a0).toArray)), .c (.v (.agg (Thing.enc a1).toArray))] [] (.o (.c (.v (.bool r)))) [] [] := by
  unfold laws_eqThing at hM
  refine cn (N := 35) (pids := []) Try_mixed Try.func44 (by kernel_rfl) (by kernel_rfl) (by kernel_rfl) rfl fun ρ g w R => ?_
  rcases cond_cases hM with ⟨h1, hM⟩ | ⟨h1, hM⟩
  · have hE : some false = some r := hM
    have hE := Option.some.inj hE
    subst hE
    exact pr R 9999 [.new 0, .new 1, .as 9 true] [] [] [] (And.intro h1 True.intro) (by kernel_rfl)
  · rcases cond_cases hM with ⟨h2, hM⟩ | ⟨h2, hM⟩
    · have hE : some false = some r := hM
      have hE := Option.some.inj hE
      subst hE
      exact pr R 9999 [.new 0, .new 1, .as 9 false, .as 14 true] [] [] [] (And.intro h1 (And.intro h2 True.intro)) (by kernel_rfl)
    · rcases cond_cases hM with ⟨h3, hM⟩ | ⟨h3, hM⟩
      · have hE : some false = some r := hM
        have hE := Option.some.inj hE
        subst hE
        exact pr R 9999 [.new 0, .new 1, .as 9 false, .as 14 false, .as 19 true] [] [] [] (And.intro h1 (And.intro h2 (And.intro h3 True.intro))) (by kernel_rfl)
      · rcases cond_cases hM with ⟨h4, hM⟩ | ⟨h4, hM⟩
        · have hE : some false = some r := hM
          have hE := Option.some.inj hE
          subst hE
          exact pr R 9999 [.new 0, .new 1, .as 9 false, .as 14 false, .as 19 false, .as 24 true] [] [] [] (And.intro h1 (And.intro h2 (And.intro h3 (And.intro h4 True.intro)))) (by kernel_rfl)
        · rcases cond_cases hM with ⟨h5, hM⟩ | ⟨h5, hM⟩
          · have hE : some false = some r := hM
            have hE := Option.some.inj hE
            subst hE
            exact pr R 9999 [.new 0, .new 1, .as 9 false, .as 14 false, .as 19 false, .as 24 false, .as 29 true] [] [] [] (And.intro h1 (And.intro h2 (And.intro h3 (And.intro h4 (And.intro h5 True.intro))))) (by kernel_rfl)
          · rcases cond_cases hM with ⟨h6, hM⟩ | ⟨h6, hM⟩
            · have hE : some false = some r := hM
              have hE := Option.some.inj hE
              subst hE
              exact pr R 9999 [.new 0, .new 1, .as 9 false, .as 14 false, .as 19 false, .as 24 false, .as 29 false, .as 34 true] [] [] [] (And.intro h1 (And.intro h2 (And.intro h3 (And.intro h4 (And.intro h5 (And.intro h6 True.intro)))))) (by kernel_rfl)
            · have hE : some true = some r := hM
              have hE := Option.some.inj hE
              subst hE
              exact pr R 9999 [.new 0, .new 1, .as 9 false, .as 14 false, .as 19 false, .as 24 false, .as 29 false, .as 34 false] [] [] [] (And.intro h1 (And.intro h2 (And.intro h3 (And.intro h4 (And.intro h5 (And.intro h6 True.intro)))))) (by kernel_rfl)

-- loop.example/g03014/laws.eqThingS
def laws_eqThingS_L1_b (a0 : (List Thing)) (a1 : (List Thing)) (s2 : Int) : Option (Ctl Int Unit Bool) :=
  bif (decide (s2 < (a0.length : Int))) then
  (gi a0 s2).bind fun v4 =>
  (gi a1 s2).bind fun v6 =>
  (laws_eqThing v4 v6).bind fun v8 =>
  bif (!v8) then
  some (.ret false)
  else
  some (.next (w64 (s2 + 1)))
  else
  some (.brk ())
def laws_eqThingS_L1 (a0 : (List Thing)) (a1 : (List Thing)) (s : Int) : Option (Ctl Int Unit Bool) := laws_eqThingS_L1_b a0 a1 s
def laws_eqThingS_L1_s (a0 : (List Thing)) (a1 : (List Thing)) (s2 : Int) : St := ⟨[(0, .o (.c (.rs 6 (a0.map Thing.enc)))), (1, .o (.c (.rs 6 (a1.map Thing.enc)))), (5, .o (.c (.v (.int .i64 s2))))], []⟩
def laws_eqThingS_L1_S (a0 : (List Thing)) (a1 : (List Thing)) (s : Int) : St := laws_eqThingS_L1_s a0 a1 s
def laws_eqThingS_L1_a : Option Bool :=
  some true
def laws_eqThingS_L1_k (x : (Unit) ⊕ (Bool)) : Option Bool := match x with
  | .inl t => laws_eqThingS_L1_a
  | .inr y => some y
def laws_eqThingS (a0 : (List Thing)) (a1 : (List Thing)) : Option Bool :=
  bif ((a0.length : Int) != (a1.length : Int)) then
  some false
  else
  (loopM (laws_eqThingS_L1 a0 a1) big 0).bind (laws_eqThingS_L1_k)
theorem laws_eqThingS_ok (a0 : (List Thing)) (a1 : (List Thing)) (r : Bool) (hM : laws_eqThingS a0 a1 = some r) :
    Con Try.prog 17 [.c (.rs 6 (a0.map Thing.enc)), .c (.rs 6 (a1.map Thing.enc))] [] (.o (.c (.v (.bool r)))) [] [] := by
  unfold laws_eqThingS at hM
  refine cn (N := 27) (pids := []) Try_mixed Try.func17 (by kernel_rfl) (by kernel_rfl) (by kernel_rfl) rfl fun ρ g w R => ?_
  rcases cond_cases hM with ⟨h1, hM⟩ | ⟨h1, hM⟩
  · have hE : some false = some r := hM
    have hE := Option.some.inj hE
    subst hE
    exact pr R 9999 [.ln (a0.length), .ln (a1.length), .as 10 true] [] [] [] (And.intro (lenm Thing.enc a0) (And.intro (lenm Thing.enc a1) (And.intro h1 True.intro))) (by kernel_rfl)
  · have K1 : ∀ (_ : Unit), laws_eqThingS_L1_a = some r → Gr R [.code (cAt Try.f17 [1, 1, 1])] (⟨[], []⟩) := by
      intro _ hM
      unfold laws_eqThingS_L1_a at hM
      have hE : some true = some r := hM
      have hE := Option.some.inj hE
      subst hE
      exact pr R 9999 [] [] [] [] True.intro (by kernel_rfl)
    refine pc R 9999 [.ln (a0.length), .ln (a1.length), .as 10 false] [.keep [0, 1, 5] []] (k' := [.code (.loop (cAt Try.f17 [1, 1, 0, 1, 0, 0])), .blk 0, .code (cAt Try.f17 [1, 1, 1])]) (S' := laws_eqThingS_L1_S a0 a1 0) (And.intro (lenm Thing.enc a0) (And.intro (lenm Thing.enc a1) (And.intro h1 True.intro))) (by kernel_rfl) ?_
    refine lq (laws_eqThingS_L1_S a0 a1) (body := laws_eqThingS_L1 a0 a1) (k := laws_eqThingS_L1_k) hM fun m1 s c1 hM hK1 => ?_
    obtain ⟨s2, hs⟩ : ∃ z, z = s := ⟨_, rfl⟩
    subst hs
    have hM : laws_eqThingS_L1_b a0 a1 s2 = some c1 := hM
    unfold laws_eqThingS_L1_b at hM
    rcases cond_cases hM with ⟨h3, hM⟩ | ⟨h3, hM⟩
    · obtain ⟨v4, h5, hM⟩ := bind_some hM
      obtain ⟨v6, h7, hM⟩ := bind_some hM
      obtain ⟨v8, h9, hM⟩ := bind_some hM
      rcases cond_cases hM with ⟨h10, hM⟩ | ⟨h10, hM⟩
      · have hE : some (Ctl.ret false) = some c1 := hM
        have hE := Option.some.inj hE
        subst hE
        have hE : some false = some r := hK1
        have hE := Option.some.inj hE
        subst hE
        exact pr R 9999 [.ln (a0.length), .as 14 true, .ix (Thing.enc v4), .ix (Thing.enc v6), .call false [] (.o (.c (.v (.bool v8)))) [] [], .as 26 true] [] [] [] (And.intro (lenm Thing.enc a0) (And.intro h3 (And.intro (gi_map Thing.enc h5) (And.intro (gi_map Thing.enc h7) (And.intro (laws_eqThing_ok v4 v6 v8 h9) (And.intro h10 True.intro)))))) (by kernel_rfl)
      · have hE : some (Ctl.next (w64 (s2 + 1))) = some c1 := hM
        have hE := Option.some.inj hE
        subst hE
        exact pc R 9999 [.ln (a0.length), .as 14 true, .ix (Thing.enc v4), .ix (Thing.enc v6), .call false [] (.o (.c (.v (.bool v8)))) [] [], .as 26 false] [.keep [0, 1, 5] []] (And.intro (lenm Thing.enc a0) (And.intro h3 (And.intro (gi_map Thing.enc h5) (And.intro (gi_map Thing.enc h7) (And.intro (laws_eqThing_ok v4 v6 v8 h9) (And.intro h10 True.intro)))))) (by kernel_rfl) (li (Sf := laws_eqThingS_L1_S a0 a1) (M := Mk (laws_eqThingS_L1 a0 a1) (laws_eqThingS_L1_k) r) (k := [.blk 0, .code (cAt Try.f17 [1, 1, 1])]) (Nat.lt_succ_self m1) hK1)
    · have hE : some (Ctl.brk ()) = some c1 := hM
      have hE := Option.some.inj hE
      subst hE
      exact pc R 5 [.ln (a0.length), .as 14 false] [.keep [] []] (And.intro (lenm Thing.enc a0) (And.intro h3 True.intro)) (by kernel_rfl) (K1 () hK1)

-- loop.example/g03014/laws.eqIntS
def laws_eqIntS_L1_b (a0 : (List Int)) (a1 : (List Int)) (s2 : Int) : Option (Ctl Int Unit Bool) :=
  bif (decide (s2 < (a0.length : Int))) then
  (gi a0 s2).bind fun v4 =>
  (gi a1 s2).bind fun v6 =>
  bif (v4 != v6) then
  some (.ret false)
  else
  some (.next (w64 (s2 + 1)))
  else
  some (.brk ())
def laws_eqIntS_L1 (a0 : (List Int)) (a1 : (List Int)) (s : Int) : Option (Ctl Int Unit Bool) := laws_eqIntS_L1_b a0 a1 s
def laws_eqIntS_L1_s (a0 : (List Int)) (a1 : (List Int)) (s2 : Int) : St := ⟨[(0, .o (.c (.rs 1 (a0.map encI)))), (1, .o (.c (.rs 1 (a1.map encI)))), (5, .o (.c (.v (.int .i64 s2))))], []⟩
def laws_eqIntS_L1_S (a0 : (List Int)) (a1 : (List Int)) (s : Int) : St := laws_eqIntS_L1_s a0 a1 s
def laws_eqIntS_L1_a : Option Bool :=
  some true
def laws_eqIntS_L1_k (x : (Unit) ⊕ (Bool)) : Option Bool := match x with
  | .inl t => laws_eqIntS_L1_a
  | .inr y => some y
def laws_eqIntS (a0 : (List Int)) (a1 : (List Int)) : Option Bool :=
  bif ((a0.length : Int) != (a1.length : Int)) then
  some false
  else
  (loopM (laws_eqIntS_L1 a0 a1) big 0).bind (laws_eqIntS_L1_k)
theorem laws_eqIntS_ok (a0 : (List Int)) (a1 : (List Int)) (r : Bool) (hM : laws_eqIntS a0 a1 = some r) :
    Con Try.prog 18 [.c (.rs 1 (a0.map encI)), .c (.rs 1 (a1.map encI))] [] (.o (.c (.v (.bool r)))) [] [] := by
  unfold laws_eqIntS at hM
  refine cn (N := 26) (pids := []) Try_mixed Try.func18 (by kernel_rfl) (by kernel_rfl) (by kernel_rfl) rfl fun ρ g w R => ?_
  rcases cond_cases hM with ⟨h1, hM⟩ | ⟨h1, hM⟩
  · have hE : some false = some r := hM
    have hE := Option.some.inj hE
    subst hE
    exact pr R 9999 [.ln (a0.length), .ln (a1.length), .as 10 true] [] [] [] (And.intro (lenm encI a0) (And.intro (lenm encI a1) (And.intro h1 True.intro))) (by kernel_rfl)
  · have K1 : ∀ (_ : Unit), laws_eqIntS_L1_a = some r → Gr R [.code (cAt Try.f18 [1, 1, 1])] (⟨[], []⟩) := by
      intro _ hM
      unfold laws_eqIntS_L1_a at hM
      have hE : some true = some r := hM
      have hE := Option.some.inj hE
      subst hE
      exact pr R 9999 [] [] [] [] True.intro (by kernel_rfl)
    refine pc R 9999 [.ln (a0.length), .ln (a1.length), .as 10 false] [.keep [0, 1, 5] []] (k' := [.code (.loop (cAt Try.f18 [1, 1, 0, 1, 0, 0])), .blk 0, .code (cAt Try.f18 [1, 1, 1])]) (S' := laws_eqIntS_L1_S a0 a1 0) (And.intro (lenm encI a0) (And.intro (lenm encI a1) (And.intro h1 True.intro))) (by kernel_rfl) ?_
    refine lq (laws_eqIntS_L1_S a0 a1) (body := laws_eqIntS_L1 a0 a1) (k := laws_eqIntS_L1_k) hM fun m1 s c1 hM hK1 => ?_
    obtain ⟨s2, hs⟩ : ∃ z, z = s := ⟨_, rfl⟩
    subst hs
    have hM : laws_eqIntS_L1_b a0 a1 s2 = some c1 := hM
    unfold laws_eqIntS_L1_b at hM
    rcases cond_cases hM with ⟨h3, hM⟩ | ⟨h3, hM⟩
    · obtain ⟨v4, h5, hM⟩ := bind_some hM
      obtain ⟨v6, h7, hM⟩ := bind_some hM
      rcases cond_cases hM with ⟨h8, hM⟩ | ⟨h8, hM⟩
      · have hE : some (Ctl.ret false) = some c1 := hM
        have hE := Option.some.inj hE
        subst hE
        have hE : some false = some r := hK1
        have hE := Option.some.inj hE
        subst hE
        exact pr R 9999 [.ln (a0.length), .as 14 true, .ix (encI v4), .ix (encI v6), .as 25 true] [] [] [] (And.intro (lenm encI a0) (And.intro h3 (And.intro (gi_map encI h5) (And.intro (gi_map encI h7) (And.intro h8 True.intro))))) (by kernel_rfl)
      · have hE : some (Ctl.next (w64 (s2 + 1))) = some c1 := hM
        have hE := Option.some.inj hE
        subst hE
        exact pc R 9999 [.ln (a0.length), .as 14 true, .ix (encI v4), .ix (encI v6), .as 25 false] [.keep [0, 1, 5] []] (And.intro (lenm encI a0) (And.intro h3 (And.intro (gi_map encI h5) (And.intro (gi_map encI h7) (And.intro h8 True.intro))))) (by kernel_rfl) (li (Sf := laws_eqIntS_L1_S a0 a1) (M := Mk (laws_eqIntS_L1 a0 a1) (laws_eqIntS_L1_k) r) (k := [.blk 0, .code (cAt Try.f18 [1, 1, 1])]) (Nat.lt_succ_self m1) hK1)
    · have hE : some (Ctl.brk ()) = some c1 := hM
      have hE := Option.some.inj hE
      subst hE
      exact pc R 5 [.ln (a0.length), .as 14 false] [.keep [] []] (And.intro (lenm encI a0) (And.intro h3 True.intro)) (by kernel_rfl) (K1 () hK1)

-- loop.example/g03014/laws.markThingS
def laws_markThingS_L1_b (s1 : (List Thing)) (s2 : Int) (s3 : Int) : Option (Ctl ((List Thing) × Int × Int) ((List Thing) × Int) (Int × (List Thing))) :=
  bif (decide (s3 < (s1.length : Int))) then
  (gi s1 s3).bind fun v7 =>
  (gi (List.set s1 (Int.toNat s3) (Thing.mk s2 v7.Own v7.Room v7.In v7.Box v7.Sealed)) s3).bind fun v9 =>
  (gi (List.set (List.set s1 (Int.toNat s3) (Thing.mk s2 v7.Own v7.Room v7.In v7.Box v7.Sealed)) (Int.toNat s3) (Thing.mk v9.Id (w64 (s2 + 1)) v9.Room v9.In v9.Box v9.Sealed)) s3).bind fun v11 =>
  (gi (List.set (List.set (List.set s1 (Int.toNat s3) (Thing.mk s2 v7.Own v7.Room v7.In v7.Box v7.Sealed)) (Int.toNat s3) (Thing.mk v9.Id (w64 (s2 + 1)) v9.Room v9.In v9.Box v9.Sealed)) (Int.toNat s3) (Thing.mk v11.Id v11.Own (w64 ((w64 (s2 + 1)) + 1)) v11.In v11.Box v11.Sealed)) s3).bind fun v13 =>
  (gi (List.set (List.set (List.set (List.set s1 (Int.toNat s3) (Thing.mk s2 v7.Own v7.Room v7.In v7.Box v7.Sealed)) (Int.toNat s3) (Thing.mk v9.Id (w64 (s2 + 1)) v9.Room v9.In v9.Box v9.Sealed)) (Int.toNat s3) (Thing.mk v11.Id v11.Own (w64 ((w64 (s2 + 1)) + 1)) v11.In v11.Box v11.Sealed)) (Int.toNat s3) (Thing.mk v13.Id v13.Own v13.Room (w64 ((w64 ((w64 (s2 + 1)) + 1)) + 1)) v13.Box v13.Sealed)) s3).bind fun v15 =>
  (gi (List.set (List.set (List.set (List.set (List.set s1 (Int.toNat s3) (Thing.mk s2 v7.Own v7.Room v7.In v7.Box v7.Sealed)) (Int.toNat s3) (Thing.mk v9.Id (w64 (s2 + 1)) v9.Room v9.In v9.Box v9.Sealed)) (Int.toNat s3) (Thing.mk v11.Id v11.Own (w64 ((w64 (s2 + 1)) + 1)) v11.In v11.Box v11.Sealed)) (Int.toNat s3) (Thing.mk v13.Id v13.Own v13.Room (w64 ((w64 ((w64 (s2 + 1)) + 1)) + 1)) v13.Box v13.Sealed)) (Int.toNat s3) (Thing.mk v15.Id v15.Own v15.Room v15.In ((Int.tmod (w64 ((w64 ((w64 ((w64 (s2 + 1)) + 1)) + 1)) + 1)) 3) == 0) v15.Sealed)) s3).bind fun v17 =>
  some (.next (List.set (List.set (List.set (List.set (List.set (List.set s1 (Int.toNat s3) (Thing.mk s2 v7.Own v7.Room v7.In v7.Box v7.Sealed)) (Int.toNat s3) (Thing.mk v9.Id (w64 (s2 + 1)) v9.Room v9.In v9.Box v9.Sealed)) (Int.toNat s3) (Thing.mk v11.Id v11.Own (w64 ((w64 (s2 + 1)) + 1)) v11.In v11.Box v11.Sealed)) (Int.toNat s3) (Thing.mk v13.Id v13.Own v13.Room (w64 ((w64 ((w64 (s2 + 1)) + 1)) + 1)) v13.Box v13.Sealed)) (Int.toNat s3) (Thing.mk v15.Id v15.Own v15.Room v15.In ((Int.tmod (w64 ((w64 ((w64 ((w64 (s2 + 1)) + 1)) + 1)) + 1)) 3) == 0) v15.Sealed)) (Int.toNat s3) (Thing.mk v17.Id v17.Own v17.Room v17.In v17.Box ((Int.tmod (w64 ((w64 ((w64 ((w64 ((w64 (s2 + 1)) + 1)) + 1)) + 1)) + 1)) 3) == 0)), w64 ((w64 ((w64 ((w64 ((w64 ((w64 (s2 + 1)) + 1)) + 1)) + 1)) + 1)) + 1), w64 (s3 + 1)))
  else
  some (.brk (s1, s2))
def laws_markThingS_L1 (s : (List Thing) × Int × Int) : Option (Ctl ((List Thing) × Int × Int) ((List Thing) × Int) (Int × (List Thing))) := laws_markThingS_L1_b s.1 s.2.1 s.2.2
def laws_markThingS_L1_s (s1 : (List Thing)) (s2 : Int) (s3 : Int) : St := ⟨[(0, .o (.c (.sl 900))), (1, .o (.c (.v (.int .i64 s2)))), (5, .o (.c (.v (.int .i64 s3))))], [(900, .row 35 6 (s1.map Thing.enc))]⟩
def laws_markThingS_L1_S (s : (List Thing) × Int × Int) : St := laws_markThingS_L1_s s.1 s.2.1 s.2.2
def laws_markThingS_L1_a (s4 : (List Thing)) (s5 : Int) : Option (Int × (List Thing)) :=
  some (s5, s4)
def laws_markThingS_L1_k (x : ((List Thing) × Int) ⊕ (Int × (List Thing))) : Option (Int × (List Thing)) := match x with
  | .inl t => laws_markThingS_L1_a t.1 t.2
  | .inr y => some y
def laws_markThingS (a0 : (List Thing)) (a1 : Int) : Option (Int × (List Thing)) :=
  (loopM (laws_markThingS_L1) big (a0, a1, 0)).bind (laws_markThingS_L1_k)
theorem laws_markThingS_ok (a0 : (List Thing)) (a1 : Int) (r : Int × (List Thing)) (hM : laws_markThingS a0 a1 = some r) :
    Con Try.prog 19 [.c (.sl 900), .c (.v (.int .i64 a1))] [(900, .row 35 6 (a0.map Thing.enc))] (.o (.c (.v (.int .i64 r.1)))) [(900, .row 35 6 (r.2.map Thing.enc))] [] := by
  unfold laws_markThingS at hM
  refine cn (N := 59) (pids := [900]) Try_mixed Try.func19 (by kernel_rfl) (by kernel_rfl) (by kernel_rfl) rfl fun ρ g w R => ?_
  have K1 : ∀ (s4 : (List Thing)) (s5 : Int), laws_markThingS_L1_a s4 s5 = some r → Gr R [.code (cAt Try.f19 [1, 1])] (⟨[(0, .o (.c (.sl 900))), (1, .o (.c (.v (.int .i64 s5))))], [(900, .row 35 6 (s4.map Thing.enc))]⟩) := by
    intro s4 s5 hM
    unfold laws_markThingS_L1_a at hM
    have hE : some (s5, s4) = some r := hM
    have hE := Option.some.inj hE
    subst hE
    exact pr R 9999 [] [] [900] [] True.intro (by kernel_rfl)
  refine pc R 9999 [] [.keep [0, 1, 5] [900]] (k' := [.code (.loop (cAt Try.f19 [1, 0, 1, 0, 0])), .blk 0, .code (cAt Try.f19 [1, 1])]) (S' := laws_markThingS_L1_S (a0, a1, 0)) True.intro (by kernel_rfl) ?_
  refine lq (laws_markThingS_L1_S) (body := laws_markThingS_L1) (k := laws_markThingS_L1_k) hM fun m1 s c1 hM hK1 => ?_
  obtain ⟨s1, s2, s3⟩ := s
  have hM : laws_markThingS_L1_b s1 s2 s3 = some c1 := hM
  unfold laws_markThingS_L1_b at hM
  rcases cond_cases hM with ⟨h6, hM⟩ | ⟨h6, hM⟩
  · obtain ⟨v7, h8, hM⟩ := bind_some hM
    obtain ⟨v9, h10, hM⟩ := bind_some hM
    obtain ⟨v11, h12, hM⟩ := bind_some hM
    obtain ⟨v13, h14, hM⟩ := bind_some hM
    obtain ⟨v15, h16, hM⟩ := bind_some hM
    obtain ⟨v17, h18, hM⟩ := bind_some hM
    have hE : some (Ctl.next (List.set (List.set (List.set (List.set (List.set (List.set s1 (Int.toNat s3) (Thing.mk s2 v7.Own v7.Room v7.In v7.Box v7.Sealed)) (Int.toNat s3) (Thing.mk v9.Id (w64 (s2 + 1)) v9.Room v9.In v9.Box v9.Sealed)) (Int.toNat s3) (Thing.mk v11.Id v11.Own (w64 ((w64 (s2 + 1)) + 1)) v11.In v11.Box v11.Sealed)) (Int.toNat s3) (Thing.mk v13.Id v13.Own v13.Room (w64 ((w64 ((w64 (s2 + 1)) + 1)) + 1)) v13.Box v13.Sealed)) (Int.toNat s3) (Thing.mk v15.Id v15.Own v15.Room v15.In ((Int.tmod (w64 ((w64 ((w64 ((w64 (s2 + 1)) + 1)) + 1)) + 1)) 3) == 0) v15.Sealed)) (Int.toNat s3) (Thing.mk v17.Id v17.Own v17.Room v17.In v17.Box ((Int.tmod (w64 ((w64 ((w64 ((w64 ((w64 (s2 + 1)) + 1)) + 1)) + 1)) + 1)) 3) == 0)), w64 ((w64 ((w64 ((w64 ((w64 ((w64 (s2 + 1)) + 1)) + 1)) + 1)) + 1)) + 1), w64 (s3 + 1))) = some c1 := hM
    have hE := Option.some.inj hE
    subst hE
    exact pc R 9999 [.ln (s1.length), .as 9 true, .ix (Thing.enc v7), .nm ((List.set s1 (Int.toNat s3) (Thing.mk s2 v7.Own v7.Room v7.In v7.Box v7.Sealed)).map Thing.enc), .ix (Thing.enc v9), .nm ((List.set (List.set s1 (Int.toNat s3) (Thing.mk s2 v7.Own v7.Room v7.In v7.Box v7.Sealed)) (Int.toNat s3) (Thing.mk v9.Id (w64 (s2 + 1)) v9.Room v9.In v9.Box v9.Sealed)).map Thing.enc), .ix (Thing.enc v11), .nm ((List.set (List.set (List.set s1 (Int.toNat s3) (Thing.mk s2 v7.Own v7.Room v7.In v7.Box v7.Sealed)) (Int.toNat s3) (Thing.mk v9.Id (w64 (s2 + 1)) v9.Room v9.In v9.Box v9.Sealed)) (Int.toNat s3) (Thing.mk v11.Id v11.Own (w64 ((w64 (s2 + 1)) + 1)) v11.In v11.Box v11.Sealed)).map Thing.enc), .ix (Thing.enc v13), .nm ((List.set (List.set (List.set (List.set s1 (Int.toNat s3) (Thing.mk s2 v7.Own v7.Room v7.In v7.Box v7.Sealed)) (Int.toNat s3) (Thing.mk v9.Id (w64 (s2 + 1)) v9.Room v9.In v9.Box v9.Sealed)) (Int.toNat s3) (Thing.mk v11.Id v11.Own (w64 ((w64 (s2 + 1)) + 1)) v11.In v11.Box v11.Sealed)) (Int.toNat s3) (Thing.mk v13.Id v13.Own v13.Room (w64 ((w64 ((w64 (s2 + 1)) + 1)) + 1)) v13.Box v13.Sealed)).map Thing.enc), .ix (Thing.enc v15), .nm ((List.set (List.set (List.set (List.set (List.set s1 (Int.toNat s3) (Thing.mk s2 v7.Own v7.Room v7.In v7.Box v7.Sealed)) (Int.toNat s3) (Thing.mk v9.Id (w64 (s2 + 1)) v9.Room v9.In v9.Box v9.Sealed)) (Int.toNat s3) (Thing.mk v11.Id v11.Own (w64 ((w64 (s2 + 1)) + 1)) v11.In v11.Box v11.Sealed)) (Int.toNat s3) (Thing.mk v13.Id v13.Own v13.Room (w64 ((w64 ((w64 (s2 + 1)) + 1)) + 1)) v13.Box v13.Sealed)) (Int.toNat s3) (Thing.mk v15.Id v15.Own v15.Room v15.In ((Int.tmod (w64 ((w64 ((w64 ((w64 (s2 + 1)) + 1)) + 1)) + 1)) 3) == 0) v15.Sealed)).map Thing.enc), .ix (Thing.enc v17), .nm ((List.set (List.set (List.set (List.set (List.set (List.set s1 (Int.toNat s3) (Thing.mk s2 v7.Own v7.Room v7.In v7.Box v7.Sealed)) (Int.toNat s3) (Thing.mk v9.Id (w64 (s2 + 1)) v9.Room v9.In v9.Box v9.Sealed)) (Int.toNat s3) (Thing.mk v11.Id v11.Own (w64 ((w64 (s2 + 1)) + 1)) v11.In v11.Box v11.Sealed)) (Int.toNat s3) (Thing.mk v13.Id v13.Own v13.Room (w64 ((w64 ((w64 (s2 + 1)) + 1)) + 1)) v13.Box v13.Sealed)) (Int.toNat s3) (Thing.mk v15.Id v15.Own v15.Room v15.In ((Int.tmod (w64 ((w64 ((w64 ((w64 (s2 + 1)) + 1)) + 1)) + 1)) 3) == 0) v15.Sealed)) (Int.toNat s3) (Thing.mk v17.Id v17.Own v17.Room v17.In v17.Box ((Int.tmod (w64 ((w64 ((w64 ((w64 ((w64 (s2 + 1)) + 1)) + 1)) + 1)) + 1)) 3) == 0))).map Thing.enc)] [.keep [0, 1, 5] [900]] (And.intro (lenm Thing.enc s1) (And.intro h6 (And.intro (gi_lt Thing.enc h8) (And.intro (And.intro (gi_map Thing.enc h8).2 (set_map Thing.enc s1 (Int.toNat s3) (Thing.mk s2 v7.Own v7.Room v7.In v7.Box v7.Sealed))) (And.intro (gi_lt Thing.enc h10) (And.intro (And.intro (gi_map Thing.enc h10).2 (set_map Thing.enc (List.set s1 (Int.toNat s3) (Thing.mk s2 v7.Own v7.Room v7.In v7.Box v7.Sealed)) (Int.toNat s3) (Thing.mk v9.Id (w64 (s2 + 1)) v9.Room v9.In v9.Box v9.Sealed))) (And.intro (gi_lt Thing.enc h12) (And.intro (And.intro (gi_map Thing.enc h12).2 (set_map Thing.enc (List.set (List.set s1 (Int.toNat s3) (Thing.mk s2 v7.Own v7.Room v7.In v7.Box v7.Sealed)) (Int.toNat s3) (Thing.mk v9.Id (w64 (s2 + 1)) v9.Room v9.In v9.Box v9.Sealed)) (Int.toNat s3) (Thing.mk v11.Id v11.Own (w64 ((w64 (s2 + 1)) + 1)) v11.In v11.Box v11.Sealed))) (And.intro (gi_lt Thing.enc h14) (And.intro (And.intro (gi_map Thing.enc h14).2 (set_map Thing.enc (List.set (List.set (List.set s1 (Int.toNat s3) (Thing.mk s2 v7.Own v7.Room v7.In v7.Box v7.Sealed)) (Int.toNat s3) (Thing.mk v9.Id (w64 (s2 + 1)) v9.Room v9.In v9.Box v9.Sealed)) (Int.toNat s3) (Thing.mk v11.Id v11.Own (w64 ((w64 (s2 + 1)) + 1)) v11.In v11.Box v11.Sealed)) (Int.toNat s3) (Thing.mk v13.Id v13.Own v13.Room (w64 ((w64 ((w64 (s2 + 1)) + 1)) + 1)) v13.Box v13.Sealed))) (And.intro (gi_lt Thing.enc h16) (And.intro (And.intro (gi_map Thing.enc h16).2 (set_map Thing.enc (List.set (List.set (List.set (List.set s1 (Int.toNat s3) (Thing.mk s2 v7.Own v7.Room v7.In v7.Box v7.Sealed)) (Int.toNat s3) (Thing.mk v9.Id (w64 (s2 + 1)) v9.Room v9.In v9.Box v9.Sealed)) (Int.toNat s3) (Thing.mk v11.Id v11.Own (w64 ((w64 (s2 + 1)) + 1)) v11.In v11.Box v11.Sealed)) (Int.toNat s3) (Thing.mk v13.Id v13.Own v13.Room (w64 ((w64 ((w64 (s2 + 1)) + 1)) + 1)) v13.Box v13.Sealed)) (Int.toNat s3) (Thing.mk v15.Id v15.Own v15.Room v15.In ((Int.tmod (w64 ((w64 ((w64 ((w64 (s2 + 1)) + 1)) + 1)) + 1)) 3) == 0) v15.Sealed))) (And.intro (gi_lt Thing.enc h18) (And.intro (And.intro (gi_map Thing.enc h18).2 (set_map Thing.enc (List.set (List.set (List.set (List.set (List.set s1 (Int.toNat s3) (Thing.mk s2 v7.Own v7.Room v7.In v7.Box v7.Sealed)) (Int.toNat s3) (Thing.mk v9.Id (w64 (s2 + 1)) v9.Room v9.In v9.Box v9.Sealed)) (Int.toNat s3) (Thing.mk v11.Id v11.Own (w64 ((w64 (s2 + 1)) + 1)) v11.In v11.Box v11.Sealed)) (Int.toNat s3) (Thing.mk v13.Id v13.Own v13.Room (w64 ((w64 ((w64 (s2 + 1)) + 1)) + 1)) v13.Box v13.Sealed)) (Int.toNat s3) (Thing.mk v15.Id v15.Own v15.Room v15.In ((Int.tmod (w64 ((w64 ((w64 ((w64 (s2 + 1)) + 1)) + 1)) + 1)) 3) == 0) v15.Sealed)) (Int.toNat s3) (Thing.mk v17.Id v17.Own v17.Room v17.In v17.Box ((Int.tmod (w64 ((w64 ((w64 ((w64 ((w64 (s2 + 1)) + 1)) + 1)) + 1)) + 1)) 3) == 0)))) True.intro)))))))))))))) (by kernel_rfl) (li (Sf := laws_markThingS_L1_S) (M := Mk (laws_markThingS_L1) (laws_markThingS_L1_k) r) (k := [.blk 0, .code (cAt Try.f19 [1, 1])]) (Nat.lt_succ_self m1) hK1)
  · have hE : some (Ctl.brk (s1, s2)) = some c1 := hM
    have hE := Option.some.inj hE
    subst hE
    exact pc R 5 [.ln (s1.length), .as 9 false] [.keep [0, 1] [900]] (And.intro (lenm Thing.enc s1) (And.intro h6 True.intro)) (by kernel_rfl) (K1 s1 s2 hK1)

-- loop.example/g03014/laws.markIntS
def laws_markIntS_L1_b (s1 : (List Int)) (s2 : Int) (s3 : Int) : Option (Ctl ((List Int) × Int × Int) ((List Int) × Int) (Int × (List Int))) :=
  bif (decide (s3 < (s1.length : Int))) then
  (gi s1 s3).bind fun v7 =>
  some (.next (List.set s1 (Int.toNat s3) s2, w64 (s2 + 1), w64 (s3 + 1)))
  else
  some (.brk (s1, s2))
def laws_markIntS_L1 (s : (List Int) × Int × Int) : Option (Ctl ((List Int) × Int × Int) ((List Int) × Int) (Int × (List Int))) := laws_markIntS_L1_b s.1 s.2.1 s.2.2
def laws_markIntS_L1_s (s1 : (List Int)) (s2 : Int) (s3 : Int) : St := ⟨[(0, .o (.c (.sl 900))), (1, .o (.c (.v (.int .i64 s2)))), (5, .o (.c (.v (.int .i64 s3))))], [(900, .row 3 1 (s1.map encI))]⟩
def laws_markIntS_L1_S (s : (List Int) × Int × Int) : St := laws_markIntS_L1_s s.1 s.2.1 s.2.2
def laws_markIntS_L1_a (s4 : (List Int)) (s5 : Int) : Option (Int × (List Int)) :=
  some (s5, s4)
def laws_markIntS_L1_k (x : ((List Int) × Int) ⊕ (Int × (List Int))) : Option (Int × (List Int)) := match x with
  | .inl t => laws_markIntS_L1_a t.1 t.2
  | .inr y => some y
def laws_markIntS (a0 : (List Int)) (a1 : Int) : Option (Int × (List Int)) :=
  (loopM (laws_markIntS_L1) big (a0, a1, 0)).bind (laws_markIntS_L1_k)
theorem laws_markIntS_ok (a0 : (List Int)) (a1 : Int) (r : Int × (List Int)) (hM : laws_markIntS a0 a1 = some r) :
    Con Try.prog 20 [.c (.sl 900), .c (.v (.int .i64 a1))] [(900, .row 3 1 (a0.map encI))] (.o (.c (.v (.int .i64 r.1)))) [(900, .row 3 1 (r.2.map encI))] [] := by
  unfold laws_markIntS at hM
  refine cn (N := 19) (pids := [900]) Try_mixed Try.func20 (by kernel_rfl) (by kernel_rfl) (by kernel_rfl) rfl fun ρ g w R => ?_
  have K1 : ∀ (s4 : (List Int)) (s5 : Int), laws_markIntS_L1_a s4 s5 = some r → Gr R [.code (cAt Try.f20 [1, 1])] (⟨[(0, .o (.c (.sl 900))), (1, .o (.c (.v (.int .i64 s5))))], [(900, .row 3 1 (s4.map encI))]⟩) := by
    intro s4 s5 hM
    unfold laws_markIntS_L1_a at hM
    have hE : some (s5, s4) = some r := hM
    have hE := Option.some.inj hE
    subst hE
    exact pr R 9999 [] [] [900] [] True.intro (by kernel_rfl)
  refine pc R 9999 [] [.keep [0, 1, 5] [900]] (k' := [.code (.loop (cAt Try.f20 [1, 0, 1, 0, 0])), .blk 0, .code (cAt Try.f20 [1, 1])]) (S' := laws_markIntS_L1_S (a0, a1, 0)) True.intro (by kernel_rfl) ?_
  refine lq (laws_markIntS_L1_S) (body := laws_markIntS_L1) (k := laws_markIntS_L1_k) hM fun m1 s c1 hM hK1 => ?_
  obtain ⟨s1, s2, s3⟩ := s
  have hM : laws_markIntS_L1_b s1 s2 s3 = some c1 := hM
  unfold laws_markIntS_L1_b at hM
  rcases cond_cases hM with ⟨h6, hM⟩ | ⟨h6, hM⟩
  · obtain ⟨v7, h8, hM⟩ := bind_some hM
    have hE : some (Ctl.next (List.set s1 (Int.toNat s3) s2, w64 (s2 + 1), w64 (s3 + 1))) = some c1 := hM
    have hE := Option.some.inj hE
    subst hE
    exact pc R 9999 [.ln (s1.length), .as 9 true, .ix (encI v7), .nm ((List.set s1 (Int.toNat s3) s2).map encI)] [.keep [0, 1, 5] [900]] (And.intro (lenm encI s1) (And.intro h6 (And.intro (gi_lt encI h8) (And.intro (And.intro (gi_map encI h8).2 (set_map encI s1 (Int.toNat s3) s2)) True.intro)))) (by kernel_rfl) (li (Sf := laws_markIntS_L1_S) (M := Mk (laws_markIntS_L1) (laws_markIntS_L1_k) r) (k := [.blk 0, .code (cAt Try.f20 [1, 1])]) (Nat.lt_succ_self m1) hK1)
  · have hE : some (Ctl.brk (s1, s2)) = some c1 := hM
    have hE := Option.some.inj hE
    subst hE
    exact pc R 5 [.ln (s1.length), .as 9 false] [.keep [0, 1] [900]] (And.intro (lenm encI s1) (And.intro h6 True.intro)) (by kernel_rfl) (K1 s1 s2 hK1)

-- loop.example/g03014/laws.heldThingS
def laws_heldThingS_L1_b (a0 : (List Thing)) (s1 : Int) (s2 : Int) : Option (Ctl (Int × Int) Int Int) :=
  bif (decide (s2 < (a0.length : Int))) then
  (gi a0 s2).bind fun v5 =>
  bif (v5.Id != s1) then
  some (.ret (-1))
  else
  (gi a0 s2).bind fun v8 =>
  bif (v8.Own != (w64 (s1 + 1))) then
  some (.ret (-1))
  else
  (gi a0 s2).bind fun v11 =>
  bif (v11.Room != (w64 ((w64 (s1 + 1)) + 1))) then
  some (.ret (-1))
  else
  (gi a0 s2).bind fun v14 =>
  bif (v14.In != (w64 ((w64 ((w64 (s1 + 1)) + 1)) + 1))) then
  some (.ret (-1))
  else
  (gi a0 s2).bind fun v17 =>
  bif (!(v17.Box == ((Int.tmod (w64 ((w64 ((w64 ((w64 (s1 + 1)) + 1)) + 1)) + 1)) 3) == 0))) then
  some (.ret (-1))
  else
  (gi a0 s2).bind fun v20 =>
  bif (!(v20.Sealed == ((Int.tmod (w64 ((w64 ((w64 ((w64 ((w64 (s1 + 1)) + 1)) + 1)) + 1)) + 1)) 3) == 0))) then
  some (.ret (-1))
  else
  some (.next (w64 ((w64 ((w64 ((w64 ((w64 ((w64 (s1 + 1)) + 1)) + 1)) + 1)) + 1)) + 1), w64 (s2 + 1)))
  else
  some (.brk s1)
def laws_heldThingS_L1 (a0 : (List Thing)) (s : Int × Int) : Option (Ctl (Int × Int) Int Int) := laws_heldThingS_L1_b a0 s.1 s.2
def laws_heldThingS_L1_s (a0 : (List Thing)) (s1 : Int) (s2 : Int) : St := ⟨[(0, .o (.c (.rs 6 (a0.map Thing.enc)))), (1, .o (.c (.v (.int .i64 s1)))), (5, .o (.c (.v (.int .i64 s2))))], []⟩
def laws_heldThingS_L1_S (a0 : (List Thing)) (s : Int × Int) : St := laws_heldThingS_L1_s a0 s.1 s.2
def laws_heldThingS_L1_a (s3 : Int) : Option Int :=
  some s3
def laws_heldThingS_L1_k (x : (Int) ⊕ (Int)) : Option Int := match x with
  | .inl t => laws_heldThingS_L1_a t
  | .inr y => some y
def laws_heldThingS (a0 : (List Thing)) (a1 : Int) : Option Int :=
  (loopM (laws_heldThingS_L1 a0) big (a1, 0)).bind (laws_heldThingS_L1_k)
theorem laws_heldThingS_ok (a0 : (List Thing)) (a1 : Int) (r : Int) (hM : laws_heldThingS a0 a1 = some r) :
    Con Try.prog 21 [.c (.rs 6 (a0.map Thing.enc)), .c (.v (.int .i64 a1))] [] (.o (.c (.v (.int .i64 r)))) [] [] := by
  unfold laws_heldThingS at hM
  refine cn (N := 71) (pids := []) Try_mixed Try.func21 (by kernel_rfl) (by kernel_rfl) (by kernel_rfl) rfl fun ρ g w R => ?_
  have K1 : ∀ (s3 : Int), laws_heldThingS_L1_a s3 = some r → Gr R [.code (cAt Try.f21 [1, 1])] (⟨[(1, .o (.c (.v (.int .i64 s3))))], []⟩) := by
    intro s3 hM
    unfold laws_heldThingS_L1_a at hM
    have hE : some s3 = some r := hM
    have hE := Option.some.inj hE
    subst hE
    exact pr R 9999 [] [] [] [] True.intro (by kernel_rfl)
  refine pc R 9999 [] [.keep [0, 1, 5] []] (k' := [.code (.loop (cAt Try.f21 [1, 0, 1, 0, 0])), .blk 0, .code (cAt Try.f21 [1, 1])]) (S' := laws_heldThingS_L1_S a0 (a1, 0)) True.intro (by kernel_rfl) ?_
  refine lq (laws_heldThingS_L1_S a0) (body := laws_heldThingS_L1 a0) (k := laws_heldThingS_L1_k) hM fun m1 s c1 hM hK1 => ?_
  obtain ⟨s1, s2⟩ := s
  have hM : laws_heldThingS_L1_b a0 s1 s2 = some c1 := hM
  unfold laws_heldThingS_L1_b at hM
  rcases cond_cases hM with ⟨h4, hM⟩ | ⟨h4, hM⟩
  · obtain ⟨v5, h6, hM⟩ := bind_some hM
    rcases cond_cases hM with ⟨h7, hM⟩ | ⟨h7, hM⟩
    · have hE : some (Ctl.ret (-1)) = some c1 := hM
      have hE := Option.some.inj hE
      subst hE
      have hE : some (-1) = some r := hK1
      have hE := Option.some.inj hE
      subst hE
      exact pr R 9999 [.ln (a0.length), .as 9 true, .ix (Thing.enc v5), .as 18 true] [] [] [] (And.intro (lenm Thing.enc a0) (And.intro h4 (And.intro (gi_map Thing.enc h6) (And.intro h7 True.intro)))) (by kernel_rfl)
    · obtain ⟨v8, h9, hM⟩ := bind_some hM
      rcases cond_cases hM with ⟨h10, hM⟩ | ⟨h10, hM⟩
      · have hE : some (Ctl.ret (-1)) = some c1 := hM
        have hE := Option.some.inj hE
        subst hE
        have hE : some (-1) = some r := hK1
        have hE := Option.some.inj hE
        subst hE
        exact pr R 9999 [.ln (a0.length), .as 9 true, .ix (Thing.enc v5), .as 18 false, .ix (Thing.enc v8), .as 27 true] [] [] [] (And.intro (lenm Thing.enc a0) (And.intro h4 (And.intro (gi_map Thing.enc h6) (And.intro h7 (And.intro (gi_map Thing.enc h9) (And.intro h10 True.intro)))))) (by kernel_rfl)
      · obtain ⟨v11, h12, hM⟩ := bind_some hM
        rcases cond_cases hM with ⟨h13, hM⟩ | ⟨h13, hM⟩
        · have hE : some (Ctl.ret (-1)) = some c1 := hM
          have hE := Option.some.inj hE
          subst hE
          have hE : some (-1) = some r := hK1
          have hE := Option.some.inj hE
          subst hE
          exact pr R 9999 [.ln (a0.length), .as 9 true, .ix (Thing.enc v5), .as 18 false, .ix (Thing.enc v8), .as 27 false, .ix (Thing.enc v11), .as 36 true] [] [] [] (And.intro (lenm Thing.enc a0) (And.intro h4 (And.intro (gi_map Thing.enc h6) (And.intro h7 (And.intro (gi_map Thing.enc h9) (And.intro h10 (And.intro (gi_map Thing.enc h12) (And.intro h13 True.intro)))))))) (by kernel_rfl)
        · obtain ⟨v14, h15, hM⟩ := bind_some hM
          rcases cond_cases hM with ⟨h16, hM⟩ | ⟨h16, hM⟩
          · have hE : some (Ctl.ret (-1)) = some c1 := hM
            have hE := Option.some.inj hE
            subst hE
            have hE : some (-1) = some r := hK1
            have hE := Option.some.inj hE
            subst hE
            exact pr R 9999 [.ln (a0.length), .as 9 true, .ix (Thing.enc v5), .as 18 false, .ix (Thing.enc v8), .as 27 false, .ix (Thing.enc v11), .as 36 false, .ix (Thing.enc v14), .as 45 true] [] [] [] (And.intro (lenm Thing.enc a0) (And.intro h4 (And.intro (gi_map Thing.enc h6) (And.intro h7 (And.intro (gi_map Thing.enc h9) (And.intro h10 (And.intro (gi_map Thing.enc h12) (And.intro h13 (And.intro (gi_map Thing.enc h15) (And.intro h16 True.intro)))))))))) (by kernel_rfl)
          · obtain ⟨v17, h18, hM⟩ := bind_some hM
            rcases cond_cases hM with ⟨h19, hM⟩ | ⟨h19, hM⟩
            · have hE : some (Ctl.ret (-1)) = some c1 := hM
              have hE := Option.some.inj hE
              subst hE
              have hE : some (-1) = some r := hK1
              have hE := Option.some.inj hE
              subst hE
              exact pr R 9999 [.ln (a0.length), .as 9 true, .ix (Thing.enc v5), .as 18 false, .ix (Thing.enc v8), .as 27 false, .ix (Thing.enc v11), .as 36 false, .ix (Thing.enc v14), .as 45 false, .ix (Thing.enc v17), .as 56 true] [] [] [] (And.intro (lenm Thing.enc a0) (And.intro h4 (And.intro (gi_map Thing.enc h6) (And.intro h7 (And.intro (gi_map Thing.enc h9) (And.intro h10 (And.intro (gi_map Thing.enc h12) (And.intro h13 (And.intro (gi_map Thing.enc h15) (And.intro h16 (And.intro (gi_map Thing.enc h18) (And.intro h19 True.intro)))))))))))) (by kernel_rfl)
            · obtain ⟨v20, h21, hM⟩ := bind_some hM
              rcases cond_cases hM with ⟨h22, hM⟩ | ⟨h22, hM⟩
              · have hE : some (Ctl.ret (-1)) = some c1 := hM
                have hE := Option.some.inj hE
                subst hE
                have hE : some (-1) = some r := hK1
                have hE := Option.some.inj hE
                subst hE
                exact pr R 9999 [.ln (a0.length), .as 9 true, .ix (Thing.enc v5), .as 18 false, .ix (Thing.enc v8), .as 27 false, .ix (Thing.enc v11), .as 36 false, .ix (Thing.enc v14), .as 45 false, .ix (Thing.enc v17), .as 56 false, .ix (Thing.enc v20), .as 67 true] [] [] [] (And.intro (lenm Thing.enc a0) (And.intro h4 (And.intro (gi_map Thing.enc h6) (And.intro h7 (And.intro (gi_map Thing.enc h9) (And.intro h10 (And.intro (gi_map Thing.enc h12) (And.intro h13 (And.intro (gi_map Thing.enc h15) (And.intro h16 (And.intro (gi_map Thing.enc h18) (And.intro h19 (And.intro (gi_map Thing.enc h21) (And.intro h22 True.intro)))))))))))))) (by kernel_rfl)
              · have hE : some (Ctl.next (w64 ((w64 ((w64 ((w64 ((w64 ((w64 (s1 + 1)) + 1)) + 1)) + 1)) + 1)) + 1), w64 (s2 + 1))) = some c1 := hM
                have hE := Option.some.inj hE
                subst hE
                exact pc R 9999 [.ln (a0.length), .as 9 true, .ix (Thing.enc v5), .as 18 false, .ix (Thing.enc v8), .as 27 false, .ix (Thing.enc v11), .as 36 false, .ix (Thing.enc v14), .as 45 false, .ix (Thing.enc v17), .as 56 false, .ix (Thing.enc v20), .as 67 false] [.keep [0, 1, 5] []] (And.intro (lenm Thing.enc a0) (And.intro h4 (And.intro (gi_map Thing.enc h6) (And.intro h7 (And.intro (gi_map Thing.enc h9) (And.intro h10 (And.intro (gi_map Thing.enc h12) (And.intro h13 (And.intro (gi_map Thing.enc h15) (And.intro h16 (And.intro (gi_map Thing.enc h18) (And.intro h19 (And.intro (gi_map Thing.enc h21) (And.intro h22 True.intro)))))))))))))) (by kernel_rfl) (li (Sf := laws_heldThingS_L1_S a0) (M := Mk (laws_heldThingS_L1 a0) (laws_heldThingS_L1_k) r) (k := [.blk 0, .code (cAt Try.f21 [1, 1])]) (Nat.lt_succ_self m1) hK1)
  · have hE : some (Ctl.brk s1) = some c1 := hM
    have hE := Option.some.inj hE
    subst hE
    exact pc R 5 [.ln (a0.length), .as 9 false] [.keep [1] []] (And.intro (lenm Thing.enc a0) (And.intro h4 True.intro)) (by kernel_rfl) (K1 s1 hK1)

-- loop.example/g03014/laws.heldIntS
def laws_heldIntS_L1_b (a0 : (List Int)) (s1 : Int) (s2 : Int) : Option (Ctl (Int × Int) Int Int) :=
  bif (decide (s2 < (a0.length : Int))) then
  (gi a0 s2).bind fun v5 =>
  bif (v5 != s1) then
  some (.ret (-1))
  else
  some (.next (w64 (s1 + 1), w64 (s2 + 1)))
  else
  some (.brk s1)
def laws_heldIntS_L1 (a0 : (List Int)) (s : Int × Int) : Option (Ctl (Int × Int) Int Int) := laws_heldIntS_L1_b a0 s.1 s.2
def laws_heldIntS_L1_s (a0 : (List Int)) (s1 : Int) (s2 : Int) : St := ⟨[(0, .o (.c (.rs 1 (a0.map encI)))), (1, .o (.c (.v (.int .i64 s1)))), (5, .o (.c (.v (.int .i64 s2))))], []⟩
def laws_heldIntS_L1_S (a0 : (List Int)) (s : Int × Int) : St := laws_heldIntS_L1_s a0 s.1 s.2
def laws_heldIntS_L1_a (s3 : Int) : Option Int :=
  some s3
def laws_heldIntS_L1_k (x : (Int) ⊕ (Int)) : Option Int := match x with
  | .inl t => laws_heldIntS_L1_a t
  | .inr y => some y
def laws_heldIntS (a0 : (List Int)) (a1 : Int) : Option Int :=
  (loopM (laws_heldIntS_L1 a0) big (a1, 0)).bind (laws_heldIntS_L1_k)
theorem laws_heldIntS_ok (a0 : (List Int)) (a1 : Int) (r : Int) (hM : laws_heldIntS a0 a1 = some r) :
    Con Try.prog 22 [.c (.rs 1 (a0.map encI)), .c (.v (.int .i64 a1))] [] (.o (.c (.v (.int .i64 r)))) [] [] := by
  unfold laws_heldIntS at hM
  refine cn (N := 21) (pids := []) Try_mixed Try.func22 (by kernel_rfl) (by kernel_rfl) (by kernel_rfl) rfl fun ρ g w R => ?_
  have K1 : ∀ (s3 : Int), laws_heldIntS_L1_a s3 = some r → Gr R [.code (cAt Try.f22 [1, 1])] (⟨[(1, .o (.c (.v (.int .i64 s3))))], []⟩) := by
    intro s3 hM
    unfold laws_heldIntS_L1_a at hM
    have hE : some s3 = some r := hM
    have hE := Option.some.inj hE
    subst hE
    exact pr R 9999 [] [] [] [] True.intro (by kernel_rfl)
  refine pc R 9999 [] [.keep [0, 1, 5] []] (k' := [.code (.loop (cAt Try.f22 [1, 0, 1, 0, 0])), .blk 0, .code (cAt Try.f22 [1, 1])]) (S' := laws_heldIntS_L1_S a0 (a1, 0)) True.intro (by kernel_rfl) ?_
  refine lq (laws_heldIntS_L1_S a0) (body := laws_heldIntS_L1 a0) (k := laws_heldIntS_L1_k) hM fun m1 s c1 hM hK1 => ?_
  obtain ⟨s1, s2⟩ := s
  have hM : laws_heldIntS_L1_b a0 s1 s2 = some c1 := hM
  unfold laws_heldIntS_L1_b at hM
  rcases cond_cases hM with ⟨h4, hM⟩ | ⟨h4, hM⟩
  · obtain ⟨v5, h6, hM⟩ := bind_some hM
    rcases cond_cases hM with ⟨h7, hM⟩ | ⟨h7, hM⟩
    · have hE : some (Ctl.ret (-1)) = some c1 := hM
      have hE := Option.some.inj hE
      subst hE
      have hE : some (-1) = some r := hK1
      have hE := Option.some.inj hE
      subst hE
      exact pr R 9999 [.ln (a0.length), .as 9 true, .ix (encI v5), .as 17 true] [] [] [] (And.intro (lenm encI a0) (And.intro h4 (And.intro (gi_map encI h6) (And.intro h7 True.intro)))) (by kernel_rfl)
    · have hE : some (Ctl.next (w64 (s1 + 1), w64 (s2 + 1))) = some c1 := hM
      have hE := Option.some.inj hE
      subst hE
      exact pc R 9999 [.ln (a0.length), .as 9 true, .ix (encI v5), .as 17 false] [.keep [0, 1, 5] []] (And.intro (lenm encI a0) (And.intro h4 (And.intro (gi_map encI h6) (And.intro h7 True.intro)))) (by kernel_rfl) (li (Sf := laws_heldIntS_L1_S a0) (M := Mk (laws_heldIntS_L1 a0) (laws_heldIntS_L1_k) r) (k := [.blk 0, .code (cAt Try.f22 [1, 1])]) (Nat.lt_succ_self m1) hK1)
  · have hE : some (Ctl.brk s1) = some c1 := hM
    have hE := Option.some.inj hE
    subst hE
    exact pc R 5 [.ln (a0.length), .as 9 false] [.keep [1] []] (And.intro (lenm encI a0) (And.intro h4 True.intro)) (by kernel_rfl) (K1 s1 hK1)

-- loop.example/g03014/laws.FnExactPackAll
def laws_FnExactPackAll (a0 : (List Thing)) (a1 : (List Int)) (a2 : (List Int)) : Option Bool :=
  bif (decide ((a1.length : Int) > 1048576)) then
  some true
  else
  bif (decide ((a2.length : Int) > 1048576)) then
  some true
  else
  (laws_szThingS a0 1048576).bind fun v3 =>
  bif (decide (v3 < 0)) then
  some true
  else
  (laws_toThingS a0).bind fun v6 =>
  (laws_toIntS a1).bind fun v8 =>
  (laws_toIntS a2).bind fun v10 =>
  (spec_PackAll v6 v8 v10).bind fun v12 =>
  (laws_toThingS a0).bind fun v14 =>
  (laws_toIntS a1).bind fun v16 =>
  (laws_toIntS a2).bind fun v18 =>
  (impl_PackAll v14 v16 v18).bind fun v20 =>
  (laws_eqThingS v20.1 v12.1).bind fun v22 =>
  bif (!v22) then
  some false
  else
  (laws_eqIntS v20.2 v12.2).bind fun v25 =>
  bif (!v25) then
  some false
  else
  (laws_toThingS a0).bind fun v28 =>
  (laws_eqThingS v14 v28).bind fun v30 =>
  bif (!v30) then
  some false
  else
  (laws_toIntS a1).bind fun v33 =>
  (laws_eqIntS v16 v33).bind fun v35 =>
  bif (!v35) then
  some false
  else
  (laws_toIntS a2).bind fun v38 =>
  (laws_eqIntS v18 v38).bind fun v40 =>
  bif (!v40) then
  some false
  else
  (laws_markThingS v14 1).bind fun v43 =>
  (laws_markIntS v16 v43.1).bind fun v45 =>
  (laws_markIntS v18 v45.1).bind fun v47 =>
  bif (decide (v47.1 < 0)) then
  some false
  else
  (laws_eqThingS v20.1 v12.1).bind fun v50 =>
  bif (!v50) then
  some false
  else
  (laws_eqIntS v20.2 v12.2).bind fun v53 =>
  bif (!v53) then
  some false
  else
  (laws_markThingS v20.1 1).bind fun v56 =>
  (laws_markIntS v20.2 v56.1).bind fun v58 =>
  (laws_heldThingS v56.2 1).bind fun v60 =>
  bif (decide (v60 < 0)) then
  some false
  else
  (laws_heldIntS v58.2 v60).bind fun v63 =>
  bif (decide (v63 < 0)) then
  some false
  else
  bif (v63 != v58.1) then
  some false
  else
  (laws_toThingS a0).bind fun v67 =>
  (laws_toIntS a1).bind fun v69 =>
  (laws_toIntS a2).bind fun v71 =>
  (impl_PackAll v67 v69 v71).bind fun v73 =>
  (laws_eqThingS v73.1 v12.1).bind fun v75 =>
  bif (!v75) then
  some false
  else
  (laws_eqIntS v73.2 v12.2).bind fun v78 =>
  bif (!v78) then
  some false
  else
  (laws_heldThingS v56.2 1).bind fun v81 =>
  bif (decide (v81 < 0)) then
  some false
  else
  (laws_heldIntS v58.2 v81).bind fun v84 =>
  bif (decide (v84 < 0)) then
  some false
  else
  bif (v84 != v58.1) then
  some false
  else
  some true
theorem laws_FnExactPackAll_ok (a0 : (List Thing)) (a1 : (List Int)) (a2 : (List Int)) (r : Bool) (hM : laws_FnExactPackAll a0 a1 a2 = some r) :
    Con Try.prog 4 [.c (.rs 6 (a0.map Thing.enc)), .c (.rs 1 (a1.map encI)), .c (.rs 1 (a2.map encI))] [] (.o (.c (.v (.bool r)))) [] [] := by
  unfold laws_FnExactPackAll at hM
  refine cn (N := 154) (pids := []) Try_mixed Try.func4 (by kernel_rfl) (by kernel_rfl) (by kernel_rfl) rfl fun ρ g w R => ?_
  rcases cond_cases hM with ⟨h1, hM⟩ | ⟨h1, hM⟩
  · have hE : some true = some r := hM
    have hE := Option.some.inj hE
    subst hE
    exact pr R 9999 [.ln (a1.length), .as 22 true] [] [] [] (And.intro (lenm encI a1) (And.intro h1 True.intro)) (by kernel_rfl)
  · rcases cond_cases hM with ⟨h2, hM⟩ | ⟨h2, hM⟩
    · have hE : some true = some r := hM
      have hE := Option.some.inj hE
      subst hE
      exact pr R 9999 [.ln (a1.length), .as 22 false, .ln (a2.length), .as 25 true] [] [] [] (And.intro (lenm encI a1) (And.intro h1 (And.intro (lenm encI a2) (And.intro h2 True.intro)))) (by kernel_rfl)
    · obtain ⟨v3, h4, hM⟩ := bind_some hM
      rcases cond_cases hM with ⟨h5, hM⟩ | ⟨h5, hM⟩
      · have hE : some true = some r := hM
        have hE := Option.some.inj hE
        subst hE
        exact pr R 9999 [.ln (a1.length), .as 22 false, .ln (a2.length), .as 25 false, .call false [] (.o (.c (.v (.int .i64 v3)))) [] [], .as 30 true] [] [] [] (And.intro (lenm encI a1) (And.intro h1 (And.intro (lenm encI a2) (And.intro h2 (And.intro (laws_szThingS_ok a0 1048576 v3 h4) (And.intro h5 True.intro)))))) (by kernel_rfl)
      · obtain ⟨v6, h7, hM⟩ := bind_some hM
        obtain ⟨v8, h9, hM⟩ := bind_some hM
        obtain ⟨v10, h11, hM⟩ := bind_some hM
        obtain ⟨v12, h13, hM⟩ := bind_some hM
        obtain ⟨v14, h15, hM⟩ := bind_some hM
        obtain ⟨v16, h17, hM⟩ := bind_some hM
        obtain ⟨v18, h19, hM⟩ := bind_some hM
        obtain ⟨v20, h21, hM⟩ := bind_some hM
        obtain ⟨v22, h23, hM⟩ := bind_some hM
        rcases cond_cases hM with ⟨h24, hM⟩ | ⟨h24, hM⟩
        · have hE : some false = some r := hM
          have hE := Option.some.inj hE
          subst hE
          exact pr R 9999 [.ln (a1.length), .as 22 false, .ln (a2.length), .as 25 false, .call false [] (.o (.c (.v (.int .i64 v3)))) [] [], .as 30 false, .call false [] (.o (.c (.sl 0))) [] [(0, .row 35 6 (v6.map Thing.enc))], .call false [] (.o (.c (.sl 1))) [] [(1, .row 3 1 (v8.map encI))], .call false [] (.o (.c (.sl 2))) [] [(2, .row 3 1 (v10.map encI))], .call false [] (.tup [.c (.sl 3), .c (.sl 4)]) [] [(3, .row 35 6 (v12.1.map Thing.enc)), (4, .row 3 1 (v12.2.map encI))], .call false [] (.o (.c (.sl 5))) [] [(5, .row 35 6 (v14.map Thing.enc))], .call false [] (.o (.c (.sl 6))) [] [(6, .row 3 1 (v16.map encI))], .call false [] (.o (.c (.sl 7))) [] [(7, .row 3 1 (v18.map encI))], .call false [] (.tup [.c (.sl 8), .c (.sl 9)]) [] [(8, .row 35 6 (v20.1.map Thing.enc)), (9, .row 3 1 (v20.2.map encI))], .call false [] (.o (.c (.v (.bool v22)))) [] [], .as 58 true] [] [] [] (And.intro (lenm encI a1) (And.intro h1 (And.intro (lenm encI a2) (And.intro h2 (And.intro (laws_szThingS_ok a0 1048576 v3 h4) (And.intro h5 (And.intro (And.intro (con_sw 1000 0 (laws_toThingS_ok a0 v6 h7)) (rfl : ([] : List Nat) = [])) (And.intro (And.intro (con_sw 1000 1 (laws_toIntS_ok a1 v8 h9)) (rfl : ([] : List Nat) = [])) (And.intro (And.intro (con_sw 1000 2 (laws_toIntS_ok a2 v10 h11)) (rfl : ([] : List Nat) = [])) (And.intro (And.intro (con_sw 1001 4 (con_sw 1000 3 (spec_PackAll_ok v6 v8 v10 v12 h13))) (rfl : ([] : List Nat) = [])) (And.intro (And.intro (con_sw 1000 5 (laws_toThingS_ok a0 v14 h15)) (rfl : ([] : List Nat) = [])) (And.intro (And.intro (con_sw 1000 6 (laws_toIntS_ok a1 v16 h17)) (rfl : ([] : List Nat) = [])) (And.intro (And.intro (con_sw 1000 7 (laws_toIntS_ok a2 v18 h19)) (rfl : ([] : List Nat) = [])) (And.intro (And.intro (con_sw 1001 9 (con_sw 1000 8 (impl_PackAll_ok v14 v16 v18 v20 h21))) (rfl : ([] : List Nat) = [])) (And.intro (laws_eqThingS_ok v20.1 v12.1 v22 h23) (And.intro h24 True.intro)))))))))))))))) (by kernel_rfl)
        · obtain ⟨v25, h26, hM⟩ := bind_some hM
          rcases cond_cases hM with ⟨h27, hM⟩ | ⟨h27, hM⟩
          · have hE : some false = some r := hM
            have hE := Option.some.inj hE
            subst hE
            exact pr R 9999 [.ln (a1.length), .as 22 false, .ln (a2.length), .as 25 false, .call false [] (.o (.c (.v (.int .i64 v3)))) [] [], .as 30 false, .call false [] (.o (.c (.sl 0))) [] [(0, .row 35 6 (v6.map Thing.enc))], .call false [] (.o (.c (.sl 1))) [] [(1, .row 3 1 (v8.map encI))], .call false [] (.o (.c (.sl 2))) [] [(2, .row 3 1 (v10.map encI))], .call false [] (.tup [.c (.sl 3), .c (.sl 4)]) [] [(3, .row 35 6 (v12.1.map Thing.enc)), (4, .row 3 1 (v12.2.map encI))], .call false [] (.o (.c (.sl 5))) [] [(5, .row 35 6 (v14.map Thing.enc))], .call false [] (.o (.c (.sl 6))) [] [(6, .row 3 1 (v16.map encI))], .call false [] (.o (.c (.sl 7))) [] [(7, .row 3 1 (v18.map encI))], .call false [] (.tup [.c (.sl 8), .c (.sl 9)]) [] [(8, .row 35 6 (v20.1.map Thing.enc)), (9, .row 3 1 (v20.2.map encI))], .call false [] (.o (.c (.v (.bool v22)))) [] [], .as 58 false, .call false [] (.o (.c (.v (.bool v25)))) [] [], .as 63 true] [] [] [] (And.intro (lenm encI a1) (And.intro h1 (And.intro (lenm encI a2) (And.intro h2 (And.intro (laws_szThingS_ok a0 1048576 v3 h4) (And.intro h5 (And.intro (And.intro (con_sw 1000 0 (laws_toThingS_ok a0 v6 h7)) (rfl : ([] : List Nat) = [])) (And.intro (And.intro (con_sw 1000 1 (laws_toIntS_ok a1 v8 h9)) (rfl : ([] : List Nat) = [])) (And.intro (And.intro (con_sw 1000 2 (laws_toIntS_ok a2 v10 h11)) (rfl : ([] : List Nat) = [])) (And.intro (And.intro (con_sw 1001 4 (con_sw 1000 3 (spec_PackAll_ok v6 v8 v10 v12 h13))) (rfl : ([] : List Nat) = [])) (And.intro (And.intro (con_sw 1000 5 (laws_toThingS_ok a0 v14 h15)) (rfl : ([] : List Nat) = [])) (And.intro (And.intro (con_sw 1000 6 (laws_toIntS_ok a1 v16 h17)) (rfl : ([] : List Nat) = [])) (And.intro (And.intro (con_sw 1000 7 (laws_toIntS_ok a2 v18 h19)) (rfl : ([] : List Nat) = [])) (And.intro (And.intro (con_sw 1001 9 (con_sw 1000 8 (impl_PackAll_ok v14 v16 v18 v20 h21))) (rfl : ([] : List Nat) = [])) (And.intro (laws_eqThingS_ok v20.1 v12.1 v22 h23) (And.intro h24 (And.intro (laws_eqIntS_ok v20.2 v12.2 v25 h26) (And.intro h27 True.intro)))))))))))))))))) (by kernel_rfl)
          · obtain ⟨v28, h29, hM⟩ := bind_some hM
            obtain ⟨v30, h31, hM⟩ := bind_some hM
            rcases cond_cases hM with ⟨h32, hM⟩ | ⟨h32, hM⟩
            · have hE : some false = some r := hM
              have hE := Option.some.inj hE
              subst hE
              exact pr R 9999 [.ln (a1.length), .as 22 false, .ln (a2.length), .as 25 false, .call false [] (.o (.c (.v (.int .i64 v3)))) [] [], .as 30 false, .call false [] (.o (.c (.sl 0))) [] [(0, .row 35 6 (v6.map Thing.enc))], .call false [] (.o (.c (.sl 1))) [] [(1, .row 3 1 (v8.map encI))], .call false [] (.o (.c (.sl 2))) [] [(2, .row 3 1 (v10.map encI))], .call false [] (.tup [.c (.sl 3), .c (.sl 4)]) [] [(3, .row 35 6 (v12.1.map Thing.enc)), (4, .row 3 1 (v12.2.map encI))], .call false [] (.o (.c (.sl 5))) [] [(5, .row 35 6 (v14.map Thing.enc))], .call false [] (.o (.c (.sl 6))) [] [(6, .row 3 1 (v16.map encI))], .call false [] (.o (.c (.sl 7))) [] [(7, .row 3 1 (v18.map encI))], .call false [] (.tup [.c (.sl 8), .c (.sl 9)]) [] [(8, .row 35 6 (v20.1.map Thing.enc)), (9, .row 3 1 (v20.2.map encI))], .call false [] (.o (.c (.v (.bool v22)))) [] [], .as 58 false, .call false [] (.o (.c (.v (.bool v25)))) [] [], .as 63 false, .call false [] (.o (.c (.sl 10))) [] [(10, .row 35 6 (v28.map Thing.enc))], .call false [] (.o (.c (.v (.bool v30)))) [] [], .as 68 true] [] [] [] (And.intro (lenm encI a1) (And.intro h1 (And.intro (lenm encI a2) (And.intro h2 (And.intro (laws_szThingS_ok a0 1048576 v3 h4) (And.intro h5 (And.intro (And.intro (con_sw 1000 0 (laws_toThingS_ok a0 v6 h7)) (rfl : ([] : List Nat) = [])) (And.intro (And.intro (con_sw 1000 1 (laws_toIntS_ok a1 v8 h9)) (rfl : ([] : List Nat) = [])) (And.intro (And.intro (con_sw 1000 2 (laws_toIntS_ok a2 v10 h11)) (rfl : ([] : List Nat) = [])) (And.intro (And.intro (con_sw 1001 4 (con_sw 1000 3 (spec_PackAll_ok v6 v8 v10 v12 h13))) (rfl : ([] : List Nat) = [])) (And.intro (And.intro (con_sw 1000 5 (laws_toThingS_ok a0 v14 h15)) (rfl : ([] : List Nat) = [])) (And.intro (And.intro (con_sw 1000 6 (laws_toIntS_ok a1 v16 h17)) (rfl : ([] : List Nat) = [])) (And.intro (And.intro (con_sw 1000 7 (laws_toIntS_ok a2 v18 h19)) (rfl : ([] : List Nat) = [])) (And.intro (And.intro (con_sw 1001 9 (con_sw 1000 8 (impl_PackAll_ok v14 v16 v18 v20 h21))) (rfl : ([] : List Nat) = [])) (And.intro (laws_eqThingS_ok v20.1 v12.1 v22 h23) (And.intro h24 (And.intro (laws_eqIntS_ok v20.2 v12.2 v25 h26) (And.intro h27 (And.intro (And.intro (con_sw 1000 10 (laws_toThingS_ok a0 v28 h29)) (rfl : ([] : List Nat) = [])) (And.intro (laws_eqThingS_ok v14 v28 v30 h31) (And.intro h32 True.intro))))))))))))))))))))) (by kernel_rfl)
            · obtain ⟨v33, h34, hM⟩ := bind_some hM
              obtain ⟨v35, h36, hM⟩ := bind_some hM
              rcases cond_cases hM with ⟨h37, hM⟩ | ⟨h37, hM⟩
              · have hE : some false = some r := hM
                have hE := Option.some.inj hE
                subst hE
                exact pr R 9999 [.ln (a1.length), .as 22 false, .ln (a2.length), .as 25 false, .call false [] (.o (.c (.v (.int .i64 v3)))) [] [], .as 30 false, .call false [] (.o (.c (.sl 0))) [] [(0, .row 35 6 (v6.map Thing.enc))], .call false [] (.o (.c (.sl 1))) [] [(1, .row 3 1 (v8.map encI))], .call false [] (.o (.c (.sl 2))) [] [(2, .row 3 1 (v10.map encI))], .call false [] (.tup [.c (.sl 3), .c (.sl 4)]) [] [(3, .row 35 6 (v12.1.map Thing.enc)), (4, .row 3 1 (v12.2.map encI))], .call false [] (.o (.c (.sl 5))) [] [(5, .row 35 6 (v14.map Thing.enc))], .call false [] (.o (.c (.sl 6))) [] [(6, .row 3 1 (v16.map encI))], .call false [] (.o (.c (.sl 7))) [] [(7, .row 3 1 (v18.map encI))], .call false [] (.tup [.c (.sl 8), .c (.sl 9)]) [] [(8, .row 35 6 (v20.1.map Thing.enc)), (9, .row 3 1 (v20.2.map encI))], .call false [] (.o (.c (.v (.bool v22)))) [] [], .as 58 false, .call false [] (.o (.c (.v (.bool v25)))) [] [], .as 63 false, .call false [] (.o (.c (.sl 10))) [] [(10, .row 35 6 (v28.map Thing.enc))], .call false [] (.o (.c (.v (.bool v30)))) [] [], .as 68 false, .call false [] (.o (.c (.sl 11))) [] [(11, .row 3 1 (v33.map encI))], .call false [] (.o (.c (.v (.bool v35)))) [] [], .as 73 true] [] [] [] (And.intro (lenm encI a1) (And.intro h1 (And.intro (lenm encI a2) (And.intro h2 (And.intro (laws_szThingS_ok a0 1048576 v3 h4) (And.intro h5 (And.intro (And.intro (con_sw 1000 0 (laws_toThingS_ok a0 v6 h7)) (rfl : ([] : List Nat) = [])) (And.intro (And.intro (con_sw 1000 1 (laws_toIntS_ok a1 v8 h9)) (rfl : ([] : List Nat) = [])) (And.intro (And.intro (con_sw 1000 2 (laws_toIntS_ok a2 v10 h11)) (rfl : ([] : List Nat) = [])) (And.intro (And.intro (con_sw 1001 4 (con_sw 1000 3 (spec_PackAll_ok v6 v8 v10 v12 h13))) (rfl : ([] : List Nat) = [])) (And.intro (And.intro (con_sw 1000 5 (laws_toThingS_ok a0 v14 h15)) (rfl : ([] : List Nat) = [])) (And.intro (And.intro (con_sw 1000 6 (laws_toIntS_ok a1 v16 h17)) (rfl : ([] : List Nat) = [])) (And.intro (And.intro (con_sw 1000 7 (laws_toIntS_ok a2 v18 h19)) (rfl : ([] : List Nat) = [])) (And.intro (And.intro (con_sw 1001 9 (con_sw 1000 8 (impl_PackAll_ok v14 v16 v18 v20 h21))) (rfl : ([] : List Nat) = [])) (And.intro (laws_eqThingS_ok v20.1 v12.1 v22 h23) (And.intro h24 (And.intro (laws_eqIntS_ok v20.2 v12.2 v25 h26) (And.intro h27 (And.intro (And.intro (con_sw 1000 10 (laws_toThingS_ok a0 v28 h29)) (rfl : ([] : List Nat) = [])) (And.intro (laws_eqThingS_ok v14 v28 v30 h31) (And.intro h32 (And.intro (And.intro (con_sw 1000 11 (laws_toIntS_ok a1 v33 h34)) (rfl : ([] : List Nat) = [])) (And.intro (laws_eqIntS_ok v16 v33 v35 h36) (And.intro h37 True.intro)))))))))))))))))))))))) (by kernel_rfl)
              · obtain ⟨v38, h39, hM⟩ := bind_some hM
                obtain ⟨v40, h41, hM⟩ := bind_some hM
                rcases cond_cases hM with ⟨h42, hM⟩ | ⟨h42, hM⟩
                · have hE : some false = some r := hM
                  have hE := Option.some.inj hE
                  subst hE
                  exact pr R 9999 [.ln (a1.length), .as 22 false, .ln (a2.length), .as 25 false, .call false [] (.o (.c (.v (.int .i64 v3)))) [] [], .as 30 false, .call false [] (.o (.c (.sl 0))) [] [(0, .row 35 6 (v6.map Thing.enc))], .call false [] (.o (.c (.sl 1))) [] [(1, .row 3 1 (v8.map encI))], .call false [] (.o (.c (.sl 2))) [] [(2, .row 3 1 (v10.map encI))], .call false [] (.tup [.c (.sl 3), .c (.sl 4)]) [] [(3, .row 35 6 (v12.1.map Thing.enc)), (4, .row 3 1 (v12.2.map encI))], .call false [] (.o (.c (.sl 5))) [] [(5, .row 35 6 (v14.map Thing.enc))], .call false [] (.o (.c (.sl 6))) [] [(6, .row 3 1 (v16.map encI))], .call false [] (.o (.c (.sl 7))) [] [(7, .row 3 1 (v18.map encI))], .call false [] (.tup [.c (.sl 8), .c (.sl 9)]) [] [(8, .row 35 6 (v20.1.map Thing.enc)), (9, .row 3 1 (v20.2.map encI))], .call false [] (.o (.c (.v (.bool v22)))) [] [], .as 58 false, .call false [] (.o (.c (.v (.bool v25)))) [] [], .as 63 false, .call false [] (.o (.c (.sl 10))) [] [(10, .row 35 6 (v28.map Thing.enc))], .call false [] (.o (.c (.v (.bool v30)))) [] [], .as 68 false, .call false [] (.o (.c (.sl 11))) [] [(11, .row 3 1 (v33.map encI))], .call false [] (.o (.c (.v (.bool v35)))) [] [], .as 73 false, .call false [] (.o (.c (.sl 12))) [] [(12, .row 3 1 (v38.map encI))], .call false [] (.o (.c (.v (.bool v40)))) [] [], .as 78 true] [] [] [] (And.intro (lenm encI a1) (And.intro h1 (And.intro (lenm encI a2) (And.intro h2 (And.intro (laws_szThingS_ok a0 1048576 v3 h4) (And.intro h5 (And.intro (And.intro (con_sw 1000 0 (laws_toThingS_ok a0 v6 h7)) (rfl : ([] : List Nat) = [])) (And.intro (And.intro (con_sw 1000 1 (laws_toIntS_ok a1 v8 h9)) (rfl : ([] : List Nat) = [])) (And.intro (And.intro (con_sw 1000 2 (laws_toIntS_ok a2 v10 h11)) (rfl : ([] : List Nat) = [])) (And.intro (And.intro (con_sw 1001 4 (con_sw 1000 3 (spec_PackAll_ok v6 v8 v10 v12 h13))) (rfl : ([] : List Nat) = [])) (And.intro (And.intro (con_sw 1000 5 (laws_toThingS_ok a0 v14 h15)) (rfl : ([] : List Nat) = [])) (And.intro (And.intro (con_sw 1000 6 (laws_toIntS_ok a1 v16 h17)) (rfl : ([] : List Nat) = [])) (And.intro (And.intro (con_sw 1000 7 (laws_toIntS_ok a2 v18 h19)) (rfl : ([] : List Nat) = [])) (And.intro (And.intro (con_sw 1001 9 (con_sw 1000 8 (impl_PackAll_ok v14 v16 v18 v20 h21))) (rfl : ([] : List Nat) = [])) (And.intro (laws_eqThingS_ok v20.1 v12.1 v22 h23) (And.intro h24 (And.intro (laws_eqIntS_ok v20.2 v12.2 v25 h26) (And.intro h27 (And.intro (And.intro (con_sw 1000 10 (laws_toThingS_ok a0 v28 h29)) (rfl : ([] : List Nat) = [])) (And.intro (laws_eqThingS_ok v14 v28 v30 h31) (And.intro h32 (And.intro (And.intro (con_sw 1000 11 (laws_toIntS_ok a1 v33 h34)) (rfl : ([] : List Nat) = [])) (And.intro (laws_eqIntS_ok v16 v33 v35 h36) (And.intro h37 (And.intro (And.intro (con_sw 1000 12 (laws_toIntS_ok a2 v38 h39)) (rfl : ([] : List Nat) = [])) (And.intro (laws_eqIntS_ok v18 v38 v40 h41) (And.intro h42 True.intro))))))))))))))))))))))))))) (by kernel_rfl)
                · obtain ⟨v43, h44, hM⟩ := bind_some hM
                  obtain ⟨v45, h46, hM⟩ := bind_some hM
                  obtain ⟨v47, h48, hM⟩ := bind_some hM
                  rcases cond_cases hM with ⟨h49, hM⟩ | ⟨h49, hM⟩
                  · have hE : some false = some r := hM
                    have hE := Option.some.inj hE
                    subst hE
                    exact pr R 9999 [.ln (a1.length), .as 22 false, .ln (a2.length), .as 25 false, .call false [] (.o (.c (.v (.int .i64 v3)))) [] [], .as 30 false, .call false [] (.o (.c (.sl 0))) [] [(0, .row 35 6 (v6.map Thing.enc))], .call false [] (.o (.c (.sl 1))) [] [(1, .row 3 1 (v8.map encI))], .call false [] (.o (.c (.sl 2))) [] [(2, .row 3 1 (v10.map encI))], .call false [] (.tup [.c (.sl 3), .c (.sl 4)]) [] [(3, .row 35 6 (v12.1.map Thing.enc)), (4, .row 3 1 (v12.2.map encI))], .call false [] (.o (.c (.sl 5))) [] [(5, .row 35 6 (v14.map Thing.enc))], .call false [] (.o (.c (.sl 6))) [] [(6, .row 3 1 (v16.map encI))], .call false [] (.o (.c (.sl 7))) [] [(7, .row 3 1 (v18.map encI))], .call false [] (.tup [.c (.sl 8), .c (.sl 9)]) [] [(8, .row 35 6 (v20.1.map Thing.enc)), (9, .row 3 1 (v20.2.map encI))], .call false [] (.o (.c (.v (.bool v22)))) [] [], .as 58 false, .call false [] (.o (.c (.v (.bool v25)))) [] [], .as 63 false, .call false [] (.o (.c (.sl 10))) [] [(10, .row 35 6 (v28.map Thing.enc))], .call false [] (.o (.c (.v (.bool v30)))) [] [], .as 68 false, .call false [] (.o (.c (.sl 11))) [] [(11, .row 3 1 (v33.map encI))], .call false [] (.o (.c (.v (.bool v35)))) [] [], .as 73 false, .call false [] (.o (.c (.sl 12))) [] [(12, .row 3 1 (v38.map encI))], .call false [] (.o (.c (.v (.bool v40)))) [] [], .as 78 false, .call false [5] (.o (.c (.v (.int .i64 v43.1)))) [(5, .row 35 6 (v43.2.map Thing.enc))] [], .call false [6] (.o (.c (.v (.int .i64 v45.1)))) [(6, .row 3 1 (v45.2.map encI))] [], .call false [7] (.o (.c (.v (.int .i64 v47.1)))) [(7, .row 3 1 (v47.2.map encI))] [], .as 90 true] [] [] [] (And.intro (lenm encI a1) (And.intro h1 (And.intro (lenm encI a2) (And.intro h2 (And.intro (laws_szThingS_ok a0 1048576 v3 h4) (And.intro h5 (And.intro (And.intro (con_sw 1000 0 (laws_toThingS_ok a0 v6 h7)) (rfl : ([] : List Nat) = [])) (And.intro (And.intro (con_sw 1000 1 (laws_toIntS_ok a1 v8 h9)) (rfl : ([] : List Nat) = [])) (And.intro (And.intro (con_sw 1000 2 (laws_toIntS_ok a2 v10 h11)) (rfl : ([] : List Nat) = [])) (And.intro (And.intro (con_sw 1001 4 (con_sw 1000 3 (spec_PackAll_ok v6 v8 v10 v12 h13))) (rfl : ([] : List Nat) = [])) (And.intro (And.intro (con_sw 1000 5 (laws_toThingS_ok a0 v14 h15)) (rfl : ([] : List Nat) = [])) (And.intro (And.intro (con_sw 1000 6 (laws_toIntS_ok a1 v16 h17)) (rfl : ([] : List Nat) = [])) (And.intro (And.intro (con_sw 1000 7 (laws_toIntS_ok a2 v18 h19)) (rfl : ([] : List Nat) = [])) (And.intro (And.intro (con_sw 1001 9 (con_sw 1000 8 (impl_PackAll_ok v14 v16 v18 v20 h21))) (rfl : ([] : List Nat) = [])) (And.intro (laws_eqThingS_ok v20.1 v12.1 v22 h23) (And.intro h24 (And.intro (laws_eqIntS_ok v20.2 v12.2 v25 h26) (And.intro h27 (And.intro (And.intro (con_sw 1000 10 (laws_toThingS_ok a0 v28 h29)) (rfl : ([] : List Nat) = [])) (And.intro (laws_eqThingS_ok v14 v28 v30 h31) (And.intro h32 (And.intro (And.intro (con_sw 1000 11 (laws_toIntS_ok a1 v33 h34)) (rfl : ([] : List Nat) = [])) (And.intro (laws_eqIntS_ok v16 v33 v35 h36) (And.intro h37 (And.intro (And.intro (con_sw 1000 12 (laws_toIntS_ok a2 v38 h39)) (rfl : ([] : List Nat) = [])) (And.intro (laws_eqIntS_ok v18 v38 v40 h41) (And.intro h42 (And.intro (And.intro (con_sw 900 5 (laws_markThingS_ok v14 1 v43 h44)) (rfl : ([5] : List Nat) = [5])) (And.intro (And.intro (con_sw 900 6 (laws_markIntS_ok v16 v43.1 v45 h46)) (rfl : ([6] : List Nat) = [6])) (And.intro (And.intro (con_sw 900 7 (laws_markIntS_ok v18 v45.1 v47 h48)) (rfl : ([7] : List Nat) = [7])) (And.intro h49 True.intro))))))))))))))))))))))))))))))) (by kernel_rfl)
                  · obtain ⟨v50, h51, hM⟩ := bind_some hM
                    rcases cond_cases hM with ⟨h52, hM⟩ | ⟨h52, hM⟩
                    · have hE : some false = some r := hM
                      have hE := Option.some.inj hE
                      subst hE
                      exact pr R 9999 [.ln (a1.length), .as 22 false, .ln (a2.length), .as 25 false, .call false [] (.o (.c (.v (.int .i64 v3)))) [] [], .as 30 false, .call false [] (.o (.c (.sl 0))) [] [(0, .row 35 6 (v6.map Thing.enc))], .call false [] (.o (.c (.sl 1))) [] [(1, .row 3 1 (v8.map encI))], .call false [] (.o (.c (.sl 2))) [] [(2, .row 3 1 (v10.map encI))], .call false [] (.tup [.c (.sl 3), .c (.sl 4)]) [] [(3, .row 35 6 (v12.1.map Thing.enc)), (4, .row 3 1 (v12.2.map encI))], .call false [] (.o (.c (.sl 5))) [] [(5, .row 35 6 (v14.map Thing.enc))], .call false [] (.o (.c (.sl 6))) [] [(6, .row 3 1 (v16.map encI))], .call false [] (.o (.c (.sl 7))) [] [(7, .row 3 1 (v18.map encI))], .call false [] (.tup [.c (.sl 8), .c (.sl 9)]) [] [(8, .row 35 6 (v20.1.map Thing.enc)), (9, .row 3 1 (v20.2.map encI))], .call false [] (.o (.c (.v (.bool v22)))) [] [], .as 58 false, .call false [] (.o (.c (.v (.bool v25)))) [] [], .as 63 false, .call false [] (.o (.c (.sl 10))) [] [(10, .row 35 6 (v28.map Thing.enc))], .call false [] (.o (.c (.v (.bool v30)))) [] [], .as 68 false, .call false [] (.o (.c (.sl 11))) [] [(11, .row 3 1 (v33.map encI))], .call false [] (.o (.c (.v (.bool v35)))) [] [], .as 73 false, .call false [] (.o (.c (.sl 12))) [] [(12, .row 3 1 (v38.map encI))], .call false [] (.o (.c (.v (.bool v40)))) [] [], .as 78 false, .call false [5] (.o (.c (.v (.int .i64 v43.1)))) [(5, .row 35 6 (v43.2.map Thing.enc))] [], .call false [6] (.o (.c (.v (.int .i64 v45.1)))) [(6, .row 3 1 (v45.2.map encI))] [], .call false [7] (.o (.c (.v (.int .i64 v47.1)))) [(7, .row 3 1 (v47.2.map encI))] [], .as 90 false, .call false [] (.o (.c (.v (.bool v50)))) [] [], .as 96 true] [] [] [] (And.intro (lenm encI a1) (And.intro h1 (And.intro (lenm encI a2) (And.intro h2 (And.intro (laws_szThingS_ok a0 1048576 v3 h4) (And.intro h5 (And.intro (And.intro (con_sw 1000 0 (laws_toThingS_ok a0 v6 h7)) (rfl : ([] : List Nat) = [])) (And.intro (And.intro (con_sw 1000 1 (laws_toIntS_ok a1 v8 h9)) (rfl : ([] : List Nat) = [])) (And.intro (And.intro (con_sw 1000 2 (laws_toIntS_ok a2 v10 h11)) (rfl : ([] : List Nat) = [])) (And.intro (And.intro (con_sw 1001 4 (con_sw 1000 3 (spec_PackAll_ok v6 v8 v10 v12 h13))) (rfl : ([] : List Nat) = [])) (And.intro (And.intro (con_sw 1000 5 (laws_toThingS_ok a0 v14 h15)) (rfl : ([] : List Nat) = [])) (And.intro (And.intro (con_sw 1000 6 (laws_toIntS_ok a1 v16 h17)) (rfl : ([] : List Nat) = [])) (And.intro (And.intro (con_sw 1000 7 (laws_toIntS_ok a2 v18 h19)) (rfl : ([] : List Nat) = [])) (And.intro (And.intro (con_sw 1001 9 (con_sw 1000 8 (impl_PackAll_ok v14 v16 v18 v20 h21))) (rfl : ([] : List Nat) = [])) (And.intro (laws_eqThingS_ok v20.1 v12.1 v22 h23) (And.intro h24 (And.intro (laws_eqIntS_ok v20.2 v12.2 v25 h26) (And.intro h27 (And.intro (And.intro (con_sw 1000 10 (laws_toThingS_ok a0 v28 h29)) (rfl : ([] : List Nat) = [])) (And.intro (laws_eqThingS_ok v14 v28 v30 h31) (And.intro h32 (And.intro (And.intro (con_sw 1000 11 (laws_toIntS_ok a1 v33 h34)) (rfl : ([] : List Nat) = [])) (And.intro (laws_eqIntS_ok v16 v33 v35 h36) (And.intro h37 (And.intro (And.intro (con_sw 1000 12 (laws_toIntS_ok a2 v38 h39)) (rfl : ([] : List Nat) = [])) (And.intro (laws_eqIntS_ok v18 v38 v40 h41) (And.intro h42 (And.intro (And.intro (con_sw 900 5 (laws_markThingS_ok v14 1 v43 h44)) (rfl : ([5] : List Nat) = [5])) (And.intro (And.intro (con_sw 900 6 (laws_markIntS_ok v16 v43.1 v45 h46)) (rfl : ([6] : List Nat) = [6])) (And.intro (And.intro (con_sw 900 7 (laws_markIntS_ok v18 v45.1 v47 h48)) (rfl : ([7] : List Nat) = [7])) (And.intro h49 (And.intro (laws_eqThingS_ok v20.1 v12.1 v50 h51) (And.intro h52 True.intro))))))))))))))))))))))))))))))))) (by kernel_rfl)
                    · obtain ⟨v53, h54, hM⟩ := bind_some hM
                      rcases cond_cases hM with ⟨h55, hM⟩ | ⟨h55, hM⟩
                      · have hE : some false = some r := hM
                        have hE := Option.some.inj hE
                        subst hE
                        exact pr R 9999 [.ln (a1.length), .as 22 false, .ln (a2.length), .as 25 false, .call false [] (.o (.c (.v (.int .i64 v3)))) [] [], .as 30 false, .call false [] (.o (.c (.sl 0))) [] [(0, .row 35 6 (v6.map Thing.enc))], .call false [] (.o (.c (.sl 1))) [] [(1, .row 3 1 (v8.map encI))], .call false [] (.o (.c (.sl 2))) [] [(2, .row 3 1 (v10.map encI))], .call false [] (.tup [.c (.sl 3), .c (.sl 4)]) [] [(3, .row 35 6 (v12.1.map Thing.enc)), (4, .row 3 1 (v12.2.map encI))], .call false [] (.o (.c (.sl 5))) [] [(5, .row 35 6 (v14.map Thing.enc))], .call false [] (.o (.c (.sl 6))) [] [(6, .row 3 1 (v16.map encI))], .call false [] (.o (.c (.sl 7))) [] [(7, .row 3 1 (v18.map encI))], .call false [] (.tup [.c (.sl 8), .c (.sl 9)]) [] [(8, .row 35 6 (v20.1.map Thing.enc)), (9, .row 3 1 (v20.2.map encI))], .call false [] (.o (.c (.v (.bool v22)))) [] [], .as 58 false, .call false [] (.o (.c (.v (.bool v25)))) [] [], .as 63 false, .call false [] (.o (.c (.sl 10))) [] [(10, .row 35 6 (v28.map Thing.enc))], .call false [] (.o (.c (.v (.bool v30)))) [] [], .as 68 false, .call false [] (.o (.c (.sl 11))) [] [(11, .row 3 1 (v33.map encI))], .call false [] (.o (.c (.v (.bool v35)))) [] [], .as 73 false, .call false [] (.o (.c (.sl 12))) [] [(12, .row 3 1 (v38.map encI))], .call false [] (.o (.c (.v (.bool v40)))) [] [], .as 78 false, .call false [5] (.o (.c (.v (.int .i64 v43.1)))) [(5, .row 35 6 (v43.2.map Thing.enc))] [], .call false [6] (.o (.c (.v (.int .i64 v45.1)))) [(6, .row 3 1 (v45.2.map encI))] [], .call false [7] (.o (.c (.v (.int .i64 v47.1)))) [(7, .row 3 1 (v47.2.map encI))] [], .as 90 false, .call false [] (.o (.c (.v (.bool v50)))) [] [], .as 96 false, .call false [] (.o (.c (.v (.bool v53)))) [] [], .as 101 true] [] [] [] (And.intro (lenm encI a1) (And.intro h1 (And.intro (lenm encI a2) (And.intro h2 (And.intro (laws_szThingS_ok a0 1048576 v3 h4) (And.intro h5 (And.intro (And.intro (con_sw 1000 0 (laws_toThingS_ok a0 v6 h7)) (rfl : ([] : List Nat) = [])) (And.intro (And.intro (con_sw 1000 1 (laws_toIntS_ok a1 v8 h9)) (rfl : ([] : List Nat) = [])) (And.intro (And.intro (con_sw 1000 2 (laws_toIntS_ok a2 v10 h11)) (rfl : ([] : List Nat) = [])) (And.intro (And.intro (con_sw 1001 4 (con_sw 1000 3 (spec_PackAll_ok v6 v8 v10 v12 h13))) (rfl : ([] : List Nat) = [])) (And.intro (And.intro (con_sw 1000 5 (laws_toThingS_ok a0 v14 h15)) (rfl : ([] : List Nat) = [])) (And.intro (And.intro (con_sw 1000 6 (laws_toIntS_ok a1 v16 h17)) (rfl : ([] : List Nat) = [])) (And.intro (And.intro (con_sw 1000 7 (laws_toIntS_ok a2 v18 h19)) (rfl : ([] : List Nat) = [])) (And.intro (And.intro (con_sw 1001 9 (con_sw 1000 8 (impl_PackAll_ok v14 v16 v18 v20 h21))) (rfl : ([] : List Nat) = [])) (And.intro (laws_eqThingS_ok v20.1 v12.1 v22 h23) (And.intro h24 (And.intro (laws_eqIntS_ok v20.2 v12.2 v25 h26) (And.intro h27 (And.intro (And.intro (con_sw 1000 10 (laws_toThingS_ok a0 v28 h29)) (rfl : ([] : List Nat) = [])) (And.intro (laws_eqThingS_ok v14 v28 v30 h31) (And.intro h32 (And.intro (And.intro (con_sw 1000 11 (laws_toIntS_ok a1 v33 h34)) (rfl : ([] : List Nat) = [])) (And.intro (laws_eqIntS_ok v16 v33 v35 h36) (And.intro h37 (And.intro (And.intro (con_sw 1000 12 (laws_toIntS_ok a2 v38 h39)) (rfl : ([] : List Nat) = [])) (And.intro (laws_eqIntS_ok v18 v38 v40 h41) (And.intro h42 (And.intro (And.intro (con_sw 900 5 (laws_markThingS_ok v14 1 v43 h44)) (rfl : ([5] : List Nat) = [5])) (And.intro (And.intro (con_sw 900 6 (laws_markIntS_ok v16 v43.1 v45 h46)) (rfl : ([6] : List Nat) = [6])) (And.intro (And.intro (con_sw 900 7 (laws_markIntS_ok v18 v45.1 v47 h48)) (rfl : ([7] : List Nat) = [7])) (And.intro h49 (And.intro (laws_eqThingS_ok v20.1 v12.1 v50 h51) (And.intro h52 (And.intro (laws_eqIntS_ok v20.2 v12.2 v53 h54) (And.intro h55 True.intro))))))))))))))))))))))))))))))))))) (by kernel_rfl)
                      · obtain ⟨v56, h57, hM⟩ := bind_some hM
                        obtain ⟨v58, h59, hM⟩ := bind_some hM
                        obtain ⟨v60, h61, hM⟩ := bind_some hM
                        rcases cond_cases hM with ⟨h62, hM⟩ | ⟨h62, hM⟩
                        · have hE : some false = some r := hM
                          have hE := Option.some.inj hE
                          subst hE
                          exact pr R 9999 [.ln (a1.length), .as 22 false, .ln (a2.length), .as 25 false, .call false [] (.o (.c (.v (.int .i64 v3)))) [] [], .as 30 false, .call false [] (.o (.c (.sl 0))) [] [(0, .row 35 6 (v6.map Thing.enc))], .call false [] (.o (.c (.sl 1))) [] [(1, .row 3 1 (v8.map encI))], .call false [] (.o (.c (.sl 2))) [] [(2, .row 3 1 (v10.map encI))], .call false [] (.tup [.c (.sl 3), .c (.sl 4)]) [] [(3, .row 35 6 (v12.1.map Thing.enc)), (4, .row 3 1 (v12.2.map encI))], .call false [] (.o (.c (.sl 5))) [] [(5, .row 35 6 (v14.map Thing.enc))], .call false [] (.o (.c (.sl 6))) [] [(6, .row 3 1 (v16.map encI))], .call false [] (.o (.c (.sl 7))) [] [(7, .row 3 1 (v18.map encI))], .call false [] (.tup [.c (.sl 8), .c (.sl 9)]) [] [(8, .row 35 6 (v20.1.map Thing.enc)), (9, .row 3 1 (v20.2.map encI))], .call false [] (.o (.c (.v (.bool v22)))) [] [], .as 58 false, .call false [] (.o (.c (.v (.bool v25)))) [] [], .as 63 false, .call false [] (.o (.c (.sl 10))) [] [(10, .row 35 6 (v28.map Thing.enc))], .call false [] (.o (.c (.v (.bool v30)))) [] [], .as 68 false, .call false [] (.o (.c (.sl 11))) [] [(11, .row 3 1 (v33.map encI))], .call false [] (.o (.c (.v (.bool v35)))) [] [], .as 73 false, .call false [] (.o (.c (.sl 12))) [] [(12, .row 3 1 (v38.map encI))], .call false [] (.o (.c (.v (.bool v40)))) [] [], .as 78 false, .call false [5] (.o (.c (.v (.int .i64 v43.1)))) [(5, .row 35 6 (v43.2.map Thing.enc))] [], .call false [6] (.o (.c (.v (.int .i64 v45.1)))) [(6, .row 3 1 (v45.2.map encI))] [], .call false [7] (.o (.c (.v (.int .i64 v47.1)))) [(7, .row 3 1 (v47.2.map encI))] [], .as 90 false, .call false [] (.o (.c (.v (.bool v50)))) [] [], .as 96 false, .call false [] (.o (.c (.v (.bool v53)))) [] [], .as 101 false, .call false [8] (.o (.c (.v (.int .i64 v56.1)))) [(8, .row 35 6 (v56.2.map Thing.enc))] [], .call false [9] (.o (.c (.v (.int .i64 v58.1)))) [(9, .row 3 1 (v58.2.map encI))] [], .call false [] (.o (.c (.v (.int .i64 v60)))) [] [], .as 112 true] [] [] [] (And.intro (lenm encI a1) (And.intro h1 (And.intro (lenm encI a2) (And.intro h2 (And.intro (laws_szThingS_ok a0 1048576 v3 h4) (And.intro h5 (And.intro (And.intro (con_sw 1000 0 (laws_toThingS_ok a0 v6 h7)) (rfl : ([] : List Nat) = [])) (And.intro (And.intro (con_sw 1000 1 (laws_toIntS_ok a1 v8 h9)) (rfl : ([] : List Nat) = [])) (And.intro (And.intro (con_sw 1000 2 (laws_toIntS_ok a2 v10 h11)) (rfl : ([] : List Nat) = [])) (And.intro (And.intro (con_sw 1001 4 (con_sw 1000 3 (spec_PackAll_ok v6 v8 v10 v12 h13))) (rfl : ([] : List Nat) = [])) (And.intro (And.intro (con_sw 1000 5 (laws_toThingS_ok a0 v14 h15)) (rfl : ([] : List Nat) = [])) (And.intro (And.intro (con_sw 1000 6 (laws_toIntS_ok a1 v16 h17)) (rfl : ([] : List Nat) = [])) (And.intro (And.intro (con_sw 1000 7 (laws_toIntS_ok a2 v18 h19)) (rfl : ([] : List Nat) = [])) (And.intro (And.intro (con_sw 1001 9 (con_sw 1000 8 (impl_PackAll_ok v14 v16 v18 v20 h21))) (rfl : ([] : List Nat) = [])) (And.intro (laws_eqThingS_ok v20.1 v12.1 v22 h23) (And.intro h24 (And.intro (laws_eqIntS_ok v20.2 v12.2 v25 h26) (And.intro h27 (And.intro (And.intro (con_sw 1000 10 (laws_toThingS_ok a0 v28 h29)) (rfl : ([] : List Nat) = [])) (And.intro (laws_eqThingS_ok v14 v28 v30 h31) (And.intro h32 (And.intro (And.intro (con_sw 1000 11 (laws_toIntS_ok a1 v33 h34)) (rfl : ([] : List Nat) = [])) (And.intro (laws_eqIntS_ok v16 v33 v35 h36) (And.intro h37 (And.intro (And.intro (con_sw 1000 12 (laws_toIntS_ok a2 v38 h39)) (rfl : ([] : List Nat) = [])) (And.intro (laws_eqIntS_ok v18 v38 v40 h41) (And.intro h42 (And.intro (And.intro (con_sw 900 5 (laws_markThingS_ok v14 1 v43 h44)) (rfl : ([5] : List Nat) = [5])) (And.intro (And.intro (con_sw 900 6 (laws_markIntS_ok v16 v43.1 v45 h46)) (rfl : ([6] : List Nat) = [6])) (And.intro (And.intro (con_sw 900 7 (laws_markIntS_ok v18 v45.1 v47 h48)) (rfl : ([7] : List Nat) = [7])) (And.intro h49 (And.intro (laws_eqThingS_ok v20.1 v12.1 v50 h51) (And.intro h52 (And.intro (laws_eqIntS_ok v20.2 v12.2 v53 h54) (And.intro h55 (And.intro (And.intro (con_sw 900 8 (laws_markThingS_ok v20.1 1 v56 h57)) (rfl : ([8] : List Nat) = [8])) (And.intro (And.intro (con_sw 900 9 (laws_markIntS_ok v20.2 v56.1 v58 h59)) (rfl : ([9] : List Nat) = [9])) (And.intro (laws_heldThingS_ok v56.2 1 v60 h61) (And.intro h62 True.intro))))))))))))))))))))))))))))))))))))))) (by kernel_rfl)
                        · obtain ⟨v63, h64, hM⟩ := bind_some hM
                          rcases cond_cases hM with ⟨h65, hM⟩ | ⟨h65, hM⟩
                          · have hE : some false = some r := hM
                            have hE := Option.some.inj hE
                            subst hE
                            exact pr R 9999 [.ln (a1.length), .as 22 false, .ln (a2.length), .as 25 false, .call false [] (.o (.c (.v (.int .i64 v3)))) [] [], .as 30 false, .call false [] (.o (.c (.sl 0))) [] [(0, .row 35 6 (v6.map Thing.enc))], .call false [] (.o (.c (.sl 1))) [] [(1, .row 3 1 (v8.map encI))], .call false [] (.o (.c (.sl 2))) [] [(2, .row 3 1 (v10.map encI))], .call false [] (.tup [.c (.sl 3), .c (.sl 4)]) [] [(3, .row 35 6 (v12.1.map Thing.enc)), (4, .row 3 1 (v12.2.map encI))], .call false [] (.o (.c (.sl 5))) [] [(5, .row 35 6 (v14.map Thing.enc))], .call false [] (.o (.c (.sl 6))) [] [(6, .row 3 1 (v16.map encI))], .call false [] (.o (.c (.sl 7))) [] [(7, .row 3 1 (v18.map encI))], .call false [] (.tup [.c (.sl 8), .c (.sl 9)]) [] [(8, .row 35 6 (v20.1.map Thing.enc)), (9, .row 3 1 (v20.2.map encI))], .call false [] (.o (.c (.v (.bool v22)))) [] [], .as 58 false, .call false [] (.o (.c (.v (.bool v25)))) [] [], .as 63 false, .call false [] (.o (.c (.sl 10))) [] [(10, .row 35 6 (v28.map Thing.enc))], .call false [] (.o (.c (.v (.bool v30)))) [] [], .as 68 false, .call false [] (.o (.c (.sl 11))) [] [(11, .row 3 1 (v33.map encI))], .call false [] (.o (.c (.v (.bool v35)))) [] [], .as 73 false, .call false [] (.o (.c (.sl 12))) [] [(12, .row 3 1 (v38.map encI))], .call false [] (.o (.c (.v (.bool v40)))) [] [], .as 78 false, .call false [5] (.o (.c (.v (.int .i64 v43.1)))) [(5, .row 35 6 (v43.2.map Thing.enc))] [], .call false [6] (.o (.c (.v (.int .i64 v45.1)))) [(6, .row 3 1 (v45.2.map encI))] [], .call false [7] (.o (.c (.v (.int .i64 v47.1)))) [(7, .row 3 1 (v47.2.map encI))] [], .as 90 false, .call false [] (.o (.c (.v (.bool v50)))) [] [], .as 96 false, .call false [] (.o (.c (.v (.bool v53)))) [] [], .as 101 false, .call false [8] (.o (.c (.v (.int .i64 v56.1)))) [(8, .row 35 6 (v56.2.map Thing.enc))] [], .call false [9] (.o (.c (.v (.int .i64 v58.1)))) [(9, .row 3 1 (v58.2.map encI))] [], .call false [] (.o (.c (.v (.int .i64 v60)))) [] [], .as 112 false, .call false [] (.o (.c (.v (.int .i64 v63)))) [] [], .as 117 true] [] [] [] (And.intro (lenm encI a1) (And.intro h1 (And.intro (lenm encI a2) (And.intro h2 (And.intro (laws_szThingS_ok a0 1048576 v3 h4) (And.intro h5 (And.intro (And.intro (con_sw 1000 0 (laws_toThingS_ok a0 v6 h7)) (rfl : ([] : List Nat) = [])) (And.intro (And.intro (con_sw 1000 1 (laws_toIntS_ok a1 v8 h9)) (rfl : ([] : List Nat) = [])) (And.intro (And.intro (con_sw 1000 2 (laws_toIntS_ok a2 v10 h11)) (rfl : ([] : List Nat) = [])) (And.intro (And.intro (con_sw 1001 4 (con_sw 1000 3 (spec_PackAll_ok v6 v8 v10 v12 h13))) (rfl : ([] : List Nat) = [])) (And.intro (And.intro (con_sw 1000 5 (laws_toThingS_ok a0 v14 h15)) (rfl : ([] : List Nat) = [])) (And.intro (And.intro (con_sw 1000 6 (laws_toIntS_ok a1 v16 h17)) (rfl : ([] : List Nat) = [])) (And.intro (And.intro (con_sw 1000 7 (laws_toIntS_ok a2 v18 h19)) (rfl : ([] : List Nat) = [])) (And.intro (And.intro (con_sw 1001 9 (con_sw 1000 8 (impl_PackAll_ok v14 v16 v18 v20 h21))) (rfl : ([] : List Nat) = [])) (And.intro (laws_eqThingS_ok v20.1 v12.1 v22 h23) (And.intro h24 (And.intro (laws_eqIntS_ok v20.2 v12.2 v25 h26) (And.intro h27 (And.intro (And.intro (con_sw 1000 10 (laws_toThingS_ok a0 v28 h29)) (rfl : ([] : List Nat) = [])) (And.intro (laws_eqThingS_ok v14 v28 v30 h31) (And.intro h32 (And.intro (And.intro (con_sw 1000 11 (laws_toIntS_ok a1 v33 h34)) (rfl : ([] : List Nat) = [])) (And.intro (laws_eqIntS_ok v16 v33 v35 h36) (And.intro h37 (And.intro (And.intro (con_sw 1000 12 (laws_toIntS_ok a2 v38 h39)) (rfl : ([] : List Nat) = [])) (And.intro (laws_eqIntS_ok v18 v38 v40 h41) (And.intro h42 (And.intro (And.intro (con_sw 900 5 (laws_markThingS_ok v14 1 v43 h44)) (rfl : ([5] : List Nat) = [5])) (And.intro (And.intro (con_sw 900 6 (laws_markIntS_ok v16 v43.1 v45 h46)) (rfl : ([6] : List Nat) = [6])) (And.intro (And.intro (con_sw 900 7 (laws_markIntS_ok v18 v45.1 v47 h48)) (rfl : ([7] : List Nat) = [7])) (And.intro h49 (And.intro (laws_eqThingS_ok v20.1 v12.1 v50 h51) (And.intro h52 (And.intro (laws_eqIntS_ok v20.2 v12.2 v53 h54) (And.intro h55 (And.intro (And.intro (con_sw 900 8 (laws_markThingS_ok v20.1 1 v56 h57)) (rfl : ([8] : List Nat) = [8])) (And.intro (And.intro (con_sw 900 9 (laws_markIntS_ok v20.2 v56.1 v58 h59)) (rfl : ([9] : List Nat) = [9])) (And.intro (laws_heldThingS_ok v56.2 1 v60 h61) (And.intro h62 (And.intro (laws_heldIntS_ok v58.2 v60 v63 h64) (And.intro h65 True.intro))))))))))))))))))))))))))))))))))))))))) (by kernel_rfl)
                          · rcases cond_cases hM with ⟨h66, hM⟩ | ⟨h66, hM⟩
                            · have hE : some false = some r := hM
                              have hE := Option.some.inj hE
                              subst hE
                              exact pr R 9999 [.ln (a1.length), .as 22 false, .ln (a2.length), .as 25 false, .call false [] (.o (.c (.v (.int .i64 v3)))) [] [], .as 30 false, .call false [] (.o (.c (.sl 0))) [] [(0, .row 35 6 (v6.map Thing.enc))], .call false [] (.o (.c (.sl 1))) [] [(1, .row 3 1 (v8.map encI))], .call false [] (.o (.c (.sl 2))) [] [(2, .row 3 1 (v10.map encI))], .call false [] (.tup [.c (.sl 3), .c (.sl 4)]) [] [(3, .row 35 6 (v12.1.map Thing.enc)), (4, .row 3 1 (v12.2.map encI))], .call false [] (.o (.c (.sl 5))) [] [(5, .row 35 6 (v14.map Thing.enc))], .call false [] (.o (.c (.sl 6))) [] [(6, .row 3 1 (v16.map encI))], .call false [] (.o (.c (.sl 7))) [] [(7, .row 3 1 (v18.map encI))], .call false [] (.tup [.c (.sl 8), .c (.sl 9)]) [] [(8, .row 35 6 (v20.1.map Thing.enc)), (9, .row 3 1 (v20.2.map encI))], .call false [] (.o (.c (.v (.bool v22)))) [] [], .as 58 false, .call false [] (.o (.c (.v (.bool v25)))) [] [], .as 63 false, .call false [] (.o (.c (.sl 10))) [] [(10, .row 35 6 (v28.map Thing.enc))], .call false [] (.o (.c (.v (.bool v30)))) [] [], .as 68 false, .call false [] (.o (.c (.sl 11))) [] [(11, .row 3 1 (v33.map encI))], .call false [] (.o (.c (.v (.bool v35)))) [] [], .as 73 false, .call false [] (.o (.c (.sl 12))) [] [(12, .row 3 1 (v38.map encI))], .call false [] (.o (.c (.v (.bool v40)))) [] [], .as 78 false, .call false [5] (.o (.c (.v (.int .i64 v43.1)))) [(5, .row 35 6 (v43.2.map Thing.enc))] [], .call false [6] (.o (.c (.v (.int .i64 v45.1)))) [(6, .row 3 1 (v45.2.map encI))] [], .call false [7] (.o (.c (.v (.int .i64 v47.1)))) [(7, .row 3 1 (v47.2.map encI))] [], .as 90 false, .call false [] (.o (.c (.v (.bool v50)))) [] [], .as 96 false, .call false [] (.o (.c (.v (.bool v53)))) [] [], .as 101 false, .call false [8] (.o (.c (.v (.int .i64 v56.1)))) [(8, .row 35 6 (v56.2.map Thing.enc))] [], .call false [9] (.o (.c (.v (.int .i64 v58.1)))) [(9, .row 3 1 (v58.2.map encI))] [], .call false [] (.o (.c (.v (.int .i64 v60)))) [] [], .as 112 false, .call false [] (.o (.c (.v (.int .i64 v63)))) [] [], .as 117 false, .as 120 true] [] [] [] (And.intro (lenm encI a1) (And.intro h1 (And.intro (lenm encI a2) (And.intro h2 (And.intro (laws_szThingS_ok a0 1048576 v3 h4) (And.intro h5 (And.intro (And.intro (con_sw 1000 0 (laws_toThingS_ok a0 v6 h7)) (rfl : ([] : List Nat) = [])) (And.intro (And.intro (con_sw 1000 1 (laws_toIntS_ok a1 v8 h9)) (rfl : ([] : List Nat) = [])) (And.intro (And.intro (con_sw 1000 2 (laws_toIntS_ok a2 v10 h11)) (rfl : ([] : List Nat) = [])) (And.intro (And.intro (con_sw 1001 4 (con_sw 1000 3 (spec_PackAll_ok v6 v8 v10 v12 h13))) (rfl : ([] : List Nat) = [])) (And.intro (And.intro (con_sw 1000 5 (laws_toThingS_ok a0 v14 h15)) (rfl : ([] : List Nat) = [])) (And.intro (And.intro (con_sw 1000 6 (laws_toIntS_ok a1 v16 h17)) (rfl : ([] : List Nat) = [])) (And.intro (And.intro (con_sw 1000 7 (laws_toIntS_ok a2 v18 h19)) (rfl : ([] : List Nat) = [])) (And.intro (And.intro (con_sw 1001 9 (con_sw 1000 8 (impl_PackAll_ok v14 v16 v18 v20 h21))) (rfl : ([] : List Nat) = [])) (And.intro (laws_eqThingS_ok v20.1 v12.1 v22 h23) (And.intro h24 (And.intro (laws_eqIntS_ok v20.2 v12.2 v25 h26) (And.intro h27 (And.intro (And.intro (con_sw 1000 10 (laws_toThingS_ok a0 v28 h29)) (rfl : ([] : List Nat) = [])) (And.intro (laws_eqThingS_ok v14 v28 v30 h31) (And.intro h32 (And.intro (And.intro (con_sw 1000 11 (laws_toIntS_ok a1 v33 h34)) (rfl : ([] : List Nat) = [])) (And.intro (laws_eqIntS_ok v16 v33 v35 h36) (And.intro h37 (And.intro (And.intro (con_sw 1000 12 (laws_toIntS_ok a2 v38 h39)) (rfl : ([] : List Nat) = [])) (And.intro (laws_eqIntS_ok v18 v38 v40 h41) (And.intro h42 (And.intro (And.intro (con_sw 900 5 (laws_markThingS_ok v14 1 v43 h44)) (rfl : ([5] : List Nat) = [5])) (And.intro (And.intro (con_sw 900 6 (laws_markIntS_ok v16 v43.1 v45 h46)) (rfl : ([6] : List Nat) = [6])) (And.intro (And.intro (con_sw 900 7 (laws_markIntS_ok v18 v45.1 v47 h48)) (rfl : ([7] : List Nat) = [7])) (And.intro h49 (And.intro (laws_eqThingS_ok v20.1 v12.1 v50 h51) (And.intro h52 (And.intro (laws_eqIntS_ok v20.2 v12.2 v53 h54) (And.intro h55 (And.intro (And.intro (con_sw 900 8 (laws_markThingS_ok v20.1 1 v56 h57)) (rfl : ([8] : List Nat) = [8])) (And.intro (And.intro (con_sw 900 9 (laws_markIntS_ok v20.2 v56.1 v58 h59)) (rfl : ([9] : List Nat) = [9])) (And.intro (laws_heldThingS_ok v56.2 1 v60 h61) (And.intro h62 (And.intro (laws_heldIntS_ok v58.2 v60 v63 h64) (And.intro h65 (And.intro h66 True.intro)))))))))))))))))))))))))))))))))))))))))) (by kernel_rfl)
                            · obtain ⟨v67, h68, hM⟩ := bind_some hM
                              obtain ⟨v69, h70, hM⟩ := bind_some hM
                              obtain ⟨v71, h72, hM⟩ := bind_some hM
                              obtain ⟨v73, h74, hM⟩ := bind_some hM
                              obtain ⟨v75, h76, hM⟩ := bind_some hM
                              rcases cond_cases hM with ⟨h77, hM⟩ | ⟨h77, hM⟩
                              · have hE : some false = some r := hM
                                have hE := Option.some.inj hE
                                subst hE
                                exact pr R 9999 [.ln (a1.length), .as 22 false, .ln (a2.length), .as 25 false, .call false [] (.o (.c (.v (.int .i64 v3)))) [] [], .as 30 false, .call false [] (.o (.c (.sl 0))) [] [(0, .row 35 6 (v6.map Thing.enc))], .call false [] (.o (.c (.sl 1))) [] [(1, .row 3 1 (v8.map encI))], .call false [] (.o (.c (.sl 2))) [] [(2, .row 3 1 (v10.map encI))], .call false [] (.tup [.c (.sl 3), .c (.sl 4)]) [] [(3, .row 35 6 (v12.1.map Thing.enc)), (4, .row 3 1 (v12.2.map encI))], .call false [] (.o (.c (.sl 5))) [] [(5, .row 35 6 (v14.map Thing.enc))], .call false [] (.o (.c (.sl 6))) [] [(6, .row 3 1 (v16.map encI))], .call false [] (.o (.c (.sl 7))) [] [(7, .row 3 1 (v18.map encI))], .call false [] (.tup [.c (.sl 8), .c (.sl 9)]) [] [(8, .row 35 6 (v20.1.map Thing.enc)), (9, .row 3 1 (v20.2.map encI))], .call false [] (.o (.c (.v (.bool v22)))) [] [], .as 58 false, .call false [] (.o (.c (.v (.bool v25)))) [] [], .as 63 false, .call false [] (.o (.c (.sl 10))) [] [(10, .row 35 6 (v28.map Thing.enc))], .call false [] (.o (.c (.v (.bool v30)))) [] [], .as 68 false, .call false [] (.o (.c (.sl 11))) [] [(11, .row 3 1 (v33.map encI))], .call false [] (.o (.c (.v (.bool v35)))) [] [], .as 73 false, .call false [] (.o (.c (.sl 12))) [] [(12, .row 3 1 (v38.map encI))], .call false [] (.o (.c (.v (.bool v40)))) [] [], .as 78 false, .call false [5] (.o (.c (.v (.int .i64 v43.1)))) [(5, .row 35 6 (v43.2.map Thing.enc))] [], .call false [6] (.o (.c (.v (.int .i64 v45.1)))) [(6, .row 3 1 (v45.2.map encI))] [], .call false [7] (.o (.c (.v (.int .i64 v47.1)))) [(7, .row 3 1 (v47.2.map encI))] [], .as 90 false, .call false [] (.o (.c (.v (.bool v50)))) [] [], .as 96 false, .call false [] (.o (.c (.v (.bool v53)))) [] [], .as 101 false, .call false [8] (.o (.c (.v (.int .i64 v56.1)))) [(8, .row 35 6 (v56.2.map Thing.enc))] [], .call false [9] (.o (.c (.v (.int .i64 v58.1)))) [(9, .row 3 1 (v58.2.map encI))] [], .call false [] (.o (.c (.v (.int .i64 v60)))) [] [], .as 112 false, .call false [] (.o (.c (.v (.int .i64 v63)))) [] [], .as 117 false, .as 120 false, .call false [] (.o (.c (.sl 13))) [] [(13, .row 35 6 (v67.map Thing.enc))], .call false [] (.o (.c (.sl 14))) [] [(14, .row 3 1 (v69.map encI))], .call false [] (.o (.c (.sl 15))) [] [(15, .row 3 1 (v71.map encI))], .call false [] (.tup [.c (.sl 16), .c (.sl 17)]) [] [(16, .row 35 6 (v73.1.map Thing.enc)), (17, .row 3 1 (v73.2.map encI))], .call false [] (.o (.c (.v (.bool v75)))) [] [], .as 135 true] [] [] [] (And.intro (lenm encI a1) (And.intro h1 (And.intro (lenm encI a2) (And.intro h2 (And.intro (laws_szThingS_ok a0 1048576 v3 h4) (And.intro h5 (And.intro (And.intro (con_sw 1000 0 (laws_toThingS_ok a0 v6 h7)) (rfl : ([] : List Nat) = [])) (And.intro (And.intro (con_sw 1000 1 (laws_toIntS_ok a1 v8 h9)) (rfl : ([] : List Nat) = [])) (And.intro (And.intro (con_sw 1000 2 (laws_toIntS_ok a2 v10 h11)) (rfl : ([] : List Nat) = [])) (And.intro (And.intro (con_sw 1001 4 (con_sw 1000 3 (spec_PackAll_ok v6 v8 v10 v12 h13))) (rfl : ([] : List Nat) = [])) (And.intro (And.intro (con_sw 1000 5 (laws_toThingS_ok a0 v14 h15)) (rfl : ([] : List Nat) = [])) (And.intro (And.intro (con_sw 1000 6 (laws_toIntS_ok a1 v16 h17)) (rfl : ([] : List Nat) = [])) (And.intro (And.intro (con_sw 1000 7 (laws_toIntS_ok a2 v18 h19)) (rfl : ([] : List Nat) = [])) (And.intro (And.intro (con_sw 1001 9 (con_sw 1000 8 (impl_PackAll_ok v14 v16 v18 v20 h21))) (rfl : ([] : List Nat) = [])) (And.intro (laws_eqThingS_ok v20.1 v12.1 v22 h23) (And.intro h24 (And.intro (laws_eqIntS_ok v20.2 v12.2 v25 h26) (And.intro h27 (And.intro (And.intro (con_sw 1000 10 (laws_toThingS_ok a0 v28 h29)) (rfl : ([] : List Nat) = [])) (And.intro (laws_eqThingS_ok v14 v28 v30 h31) (And.intro h32 (And.intro (And.intro (con_sw 1000 11 (laws_toIntS_ok a1 v33 h34)) (rfl : ([] : List Nat) = [])) (And.intro (laws_eqIntS_ok v16 v33 v35 h36) (And.intro h37 (And.intro (And.intro (con_sw 1000 12 (laws_toIntS_ok a2 v38 h39)) (rfl : ([] : List Nat) = [])) (And.intro (laws_eqIntS_ok v18 v38 v40 h41) (And.intro h42 (And.intro (And.intro (con_sw 900 5 (laws_markThingS_ok v14 1 v43 h44)) (rfl : ([5] : List Nat) = [5])) (And.intro (And.intro (con_sw 900 6 (laws_markIntS_ok v16 v43.1 v45 h46)) (rfl : ([6] : List Nat) = [6])) (And.intro (And.intro (con_sw 900 7 (laws_markIntS_ok v18 v45.1 v47 h48)) (rfl : ([7] : List Nat) = [7])) (And.intro h49 (And.intro (laws_eqThingS_ok v20.1 v12.1 v50 h51) (And.intro h52 (And.intro (laws_eqIntS_ok v20.2 v12.2 v53 h54) (And.intro h55 (And.intro (And.intro (con_sw 900 8 (laws_markThingS_ok v20.1 1 v56 h57)) (rfl : ([8] : List Nat) = [8])) (And.intro (And.intro (con_sw 900 9 (laws_markIntS_ok v20.2 v56.1 v58 h59)) (rfl : ([9] : List Nat) = [9])) (And.intro (laws_heldThingS_ok v56.2 1 v60 h61) (And.intro h62 (And.intro (laws_heldIntS_ok v58.2 v60 v63 h64) (And.intro h65 (And.intro h66 (And.intro (And.intro (con_sw 1000 13 (laws_toThingS_ok a0 v67 h68)) (rfl : ([] : List Nat) = [])) (And.intro (And.intro (con_sw 1000 14 (laws_toIntS_ok a1 v69 h70)) (rfl : ([] : List Nat) = [])) (And.intro (And.intro (con_sw 1000 15 (laws_toIntS_ok a2 v71 h72)) (rfl : ([] : List Nat) = [])) (And.intro (And.intro (con_sw 1001 17 (con_sw 1000 16 (impl_PackAll_ok v67 v69 v71 v73 h74))) (rfl : ([] : List Nat) = [])) (And.intro (laws_eqThingS_ok v73.1 v12.1 v75 h76) (And.intro h77 True.intro)))))))))))))))))))))))))))))))))))))))))))))))) (by kernel_rfl)
                              · obtain ⟨v78, h79, hM⟩ := bind_some hM
                                rcases cond_cases hM with ⟨h80, hM⟩ | ⟨h80, hM⟩
                                · have hE : some false = some r := hM
                                  have hE := Option.some.inj hE
                                  subst hE
                                  exact pr R 9999 [.ln (a1.length), .as 22 false, .ln (a2.length), .as 25 false, .call false [] (.o (.c (.v (.int .i64 v3)))) [] [], .as 30 false, .call false [] (.o (.c (.sl 0))) [] [(0, .row 35 6 (v6.map Thing.enc))], .call false [] (.o (.c (.sl 1))) [] [(1, .row 3 1 (v8.map encI))], .call false [] (.o (.c (.sl 2))) [] [(2, .row 3 1 (v10.map encI))], .call false [] (.tup [.c (.sl 3), .c (.sl 4)]) [] [(3, .row 35 6 (v12.1.map Thing.enc)), (4, .row 3 1 (v12.2.map encI))], .call false [] (.o (.c (.sl 5))) [] [(5, .row 35 6 (v14.map Thing.enc))], .call false [] (.o (.c (.sl 6))) [] [(6, .row 3 1 (v16.map encI))], .call false [] (.o (.c (.sl 7))) [] [(7, .row 3 1 (v18.map encI))], .call false [] (.tup [.c (.sl 8), .c (.sl 9)]) [] [(8, .row 35 6 (v20.1.map Thing.enc)), (9, .row 3 1 (v20.2.map encI))], .call false [] (.o (.c (.v (.bool v22)))) [] [], .as 58 false, .call false [] (.o (.c (.v (.bool v25)))) [] [], .as 63 false, .call false [] (.o (.c (.sl 10))) [] [(10, .row 35 6 (v28.map Thing.enc))], .call false [] (.o (.c (.v (.bool v30)))) [] [], .as 68 false, .call false [] (.o (.c (.sl 11))) [] [(11, .row 3 1 (v33.map encI))], .call false [] (.o (.c (.v (.bool v35)))) [] [], .as 73 false, .call false [] (.o (.c (.sl 12))) [] [(12, .row 3 1 (v38.map encI))], .call false [] (.o (.c (.v (.bool v40)))) [] [], .as 78 false, .call false [5] (.o (.c (.v (.int .i64 v43.1)))) [(5, .row 35 6 (v43.2.map Thing.enc))] [], .call false [6] (.o (.c (.v (.int .i64 v45.1)))) [(6, .row 3 1 (v45.2.map encI))] [], .call false [7] (.o (.c (.v (.int .i64 v47.1)))) [(7, .row 3 1 (v47.2.map encI))] [], .as 90 false, .call false [] (.o (.c (.v (.bool v50)))) [] [], .as 96 false, .call false [] (.o (.c (.v (.bool v53)))) [] [], .as 101 false, .call false [8] (.o (.c (.v (.int .i64 v56.1)))) [(8, .row 35 6 (v56.2.map Thing.enc))] [], .call false [9] (.o (.c (.v (.int .i64 v58.1)))) [(9, .row 3 1 (v58.2.map encI))] [], .call false [] (.o (.c (.v (.int .i64 v60)))) [] [], .as 112 false, .call false [] (.o (.c (.v (.int .i64 v63)))) [] [], .as 117 false, .as 120 false, .call false [] (.o (.c (.sl 13))) [] [(13, .row 35 6 (v67.map Thing.enc))], .call false [] (.o (.c (.sl 14))) [] [(14, .row 3 1 (v69.map encI))], .call false [] (.o (.c (.sl 15))) [] [(15, .row 3 1 (v71.map encI))], .call false [] (.tup [.c (.sl 16), .c (.sl 17)]) [] [(16, .row 35 6 (v73.1.map Thing.enc)), (17, .row 3 1 (v73.2.map encI))], .call false [] (.o (.c (.v (.bool v75)))) [] [], .as 135 false, .call false [] (.o (.c (.v (.bool v78)))) [] [], .as 140 true] [] [] [] (And.intro (lenm encI a1) (And.intro h1 (And.intro (lenm encI a2) (And.intro h2 (And.intro (laws_szThingS_ok a0 1048576 v3 h4) (And.intro h5 (And.intro (And.intro (con_sw 1000 0 (laws_toThingS_ok a0 v6 h7)) (rfl : ([] : List Nat) = [])) (And.intro (And.intro (con_sw 1000 1 (laws_toIntS_ok a1 v8 h9)) (rfl : ([] : List Nat) = [])) (And.intro (And.intro (con_sw 1000 2 (laws_toIntS_ok a2 v10 h11)) (rfl : ([] : List Nat) = [])) (And.intro (And.intro (con_sw 1001 4 (con_sw 1000 3 (spec_PackAll_ok v6 v8 v10 v12 h13))) (rfl : ([] : List Nat) = [])) (And.intro (And.intro (con_sw 1000 5 (laws_toThingS_ok a0 v14 h15)) (rfl : ([] : List Nat) = [])) (And.intro (And.intro (con_sw 1000 6 (laws_toIntS_ok a1 v16 h17)) (rfl : ([] : List Nat) = [])) (And.intro (And.intro (con_sw 1000 7 (laws_toIntS_ok a2 v18 h19)) (rfl : ([] : List Nat) = [])) (And.intro (And.intro (con_sw 1001 9 (con_sw 1000 8 (impl_PackAll_ok v14 v16 v18 v20 h21))) (rfl : ([] : List Nat) = [])) (And.intro (laws_eqThingS_ok v20.1 v12.1 v22 h23) (And.intro h24 (And.intro (laws_eqIntS_ok v20.2 v12.2 v25 h26) (And.intro h27 (And.intro (And.intro (con_sw 1000 10 (laws_toThingS_ok a0 v28 h29)) (rfl : ([] : List Nat) = [])) (And.intro (laws_eqThingS_ok v14 v28 v30 h31) (And.intro h32 (And.intro (And.intro (con_sw 1000 11 (laws_toIntS_ok a1 v33 h34)) (rfl : ([] : List Nat) = [])) (And.intro (laws_eqIntS_ok v16 v33 v35 h36) (And.intro h37 (And.intro (And.intro (con_sw 1000 12 (laws_toIntS_ok a2 v38 h39)) (rfl : ([] : List Nat) = [])) (And.intro (laws_eqIntS_ok v18 v38 v40 h41) (And.intro h42 (And.intro (And.intro (con_sw 900 5 (laws_markThingS_ok v14 1 v43 h44)) (rfl : ([5] : List Nat) = [5])) (And.intro (And.intro (con_sw 900 6 (laws_markIntS_ok v16 v43.1 v45 h46)) (rfl : ([6] : List Nat) = [6])) (And.intro (And.intro (con_sw 900 7 (laws_markIntS_ok v18 v45.1 v47 h48)) (rfl : ([7] : List Nat) = [7])) (And.intro h49 (And.intro (laws_eqThingS_ok v20.1 v12.1 v50 h51) (And.intro h52 (And.intro (laws_eqIntS_ok v20.2 v12.2 v53 h54) (And.intro h55 (And.intro (And.intro (con_sw 900 8 (laws_markThingS_ok v20.1 1 v56 h57)) (rfl : ([8] : List Nat) = [8])) (And.intro (And.intro (con_sw 900 9 (laws_markIntS_ok v20.2 v56.1 v58 h59)) (rfl : ([9] : List Nat) = [9])) (And.intro (laws_heldThingS_ok v56.2 1 v60 h61) (And.intro h62 (And.intro (laws_heldIntS_ok v58.2 v60 v63 h64) (And.intro h65 (And.intro h66 (And.intro (And.intro (con_sw 1000 13 (laws_toThingS_ok a0 v67 h68)) (rfl : ([] : List Nat) = [])) (And.intro (And.intro (con_sw 1000 14 (laws_toIntS_ok a1 v69 h70)) (rfl : ([] : List Nat) = [])) (And.intro (And.intro (con_sw 1000 15 (laws_toIntS_ok a2 v71 h72)) (rfl : ([] : List Nat) = [])) (And.intro (And.intro (con_sw 1001 17 (con_sw 1000 16 (impl_PackAll_ok v67 v69 v71 v73 h74))) (rfl : ([] : List Nat) = [])) (And.intro (laws_eqThingS_ok v73.1 v12.1 v75 h76) (And.intro h77 (And.intro (laws_eqIntS_ok v73.2 v12.2 v78 h79) (And.intro h80 True.intro)))))))))))))))))))))))))))))))))))))))))))))))))) (by kernel_rfl)
                                · obtain ⟨v81, h82, hM⟩ := bind_some hM
                                  rcases cond_cases hM with ⟨h83, hM⟩ | ⟨h83, hM⟩
                                  · have hE : some false = some r := hM
                                    have hE := Option.some.inj hE
                                    subst hE
                                    exact pr R 9999 [.ln (a1.length), .as 22 false, .ln (a2.length), .as 25 false, .call false [] (.o (.c (.v (.int .i64 v3)))) [] [], .as 30 false, .call false [] (.o (.c (.sl 0))) [] [(0, .row 35 6 (v6.map Thing.enc))], .call false [] (.o (.c (.sl 1))) [] [(1, .row 3 1 (v8.map encI))], .call false [] (.o (.c (.sl 2))) [] [(2, .row 3 1 (v10.map encI))], .call false [] (.tup [.c (.sl 3), .c (.sl 4)]) [] [(3, .row 35 6 (v12.1.map Thing.enc)), (4, .row 3 1 (v12.2.map encI))], .call false [] (.o (.c (.sl 5))) [] [(5, .row 35 6 (v14.map Thing.enc))], .call false [] (.o (.c (.sl 6))) [] [(6, .row 3 1 (v16.map encI))], .call false [] (.o (.c (.sl 7))) [] [(7, .row 3 1 (v18.map encI))], .call false [] (.tup [.c (.sl 8), .c (.sl 9)]) [] [(8, .row 35 6 (v20.1.map Thing.enc)), (9, .row 3 1 (v20.2.map encI))], .call false [] (.o (.c (.v (.bool v22)))) [] [], .as 58 false, .call false [] (.o (.c (.v (.bool v25)))) [] [], .as 63 false, .call false [] (.o (.c (.sl 10))) [] [(10, .row 35 6 (v28.map Thing.enc))], .call false [] (.o (.c (.v (.bool v30)))) [] [], .as 68 false, .call false [] (.o (.c (.sl 11))) [] [(11, .row 3 1 (v33.map encI))], .call false [] (.o (.c (.v (.bool v35)))) [] [], .as 73 false, .call false [] (.o (.c (.sl 12))) [] [(12, .row 3 1 (v38.map encI))], .call false [] (.o (.c (.v (.bool v40)))) [] [], .as 78 false, .call false [5] (.o (.c (.v (.int .i64 v43.1)))) [(5, .row 35 6 (v43.2.map Thing.enc))] [], .call false [6] (.o (.c (.v (.int .i64 v45.1)))) [(6, .row 3 1 (v45.2.map encI))] [], .call false [7] (.o (.c (.v (.int .i64 v47.1)))) [(7, .row 3 1 (v47.2.map encI))] [], .as 90 false, .call false [] (.o (.c (.v (.bool v50)))) [] [], .as 96 false, .call false [] (.o (.c (.v (.bool v53)))) [] [], .as 101 false, .call false [8] (.o (.c (.v (.int .i64 v56.1)))) [(8, .row 35 6 (v56.2.map Thing.enc))] [], .call false [9] (.o (.c (.v (.int .i64 v58.1)))) [(9, .row 3 1 (v58.2.map encI))] [], .call false [] (.o (.c (.v (.int .i64 v60)))) [] [], .as 112 false, .call false [] (.o (.c (.v (.int .i64 v63)))) [] [], .as 117 false, .as 120 false, .call false [] (.o (.c (.sl 13))) [] [(13, .row 35 6 (v67.map Thing.enc))], .call false [] (.o (.c (.sl 14))) [] [(14, .row 3 1 (v69.map encI))], .call false [] (.o (.c (.sl 15))) [] [(15, .row 3 1 (v71.map encI))], .call false [] (.tup [.c (.sl 16), .c (.sl 17)]) [] [(16, .row 35 6 (v73.1.map Thing.enc)), (17, .row 3 1 (v73.2.map encI))], .call false [] (.o (.c (.v (.bool v75)))) [] [], .as 135 false, .call false [] (.o (.c (.v (.bool v78)))) [] [], .as 140 false, .call false [] (.o (.c (.v (.int .i64 v81)))) [] [], .as 145 true] [] [] [] (And.intro (lenm encI a1) (And.intro h1 (And.intro (lenm encI a2) (And.intro h2 (And.intro (laws_szThingS_ok a0 1048576 v3 h4) (And.intro h5 (And.intro (And.intro (con_sw 1000 0 (laws_toThingS_ok a0 v6 h7)) (rfl : ([] : List Nat) = [])) (And.intro (And.intro (con_sw 1000 1 (laws_toIntS_ok a1 v8 h9)) (rfl : ([] : List Nat) = [])) (And.intro (And.intro (con_sw 1000 2 (laws_toIntS_ok a2 v10 h11)) (rfl : ([] : List Nat) = [])) (And.intro (And.intro (con_sw 1001 4 (con_sw 1000 3 (spec_PackAll_ok v6 v8 v10 v12 h13))) (rfl : ([] : List Nat) = [])) (And.intro (And.intro (con_sw 1000 5 (laws_toThingS_ok a0 v14 h15)) (rfl : ([] : List Nat) = [])) (And.intro (And.intro (con_sw 1000 6 (laws_toIntS_ok a1 v16 h17)) (rfl : ([] : List Nat) = [])) (And.intro (And.intro (con_sw 1000 7 (laws_toIntS_ok a2 v18 h19)) (rfl : ([] : List Nat) = [])) (And.intro (And.intro (con_sw 1001 9 (con_sw 1000 8 (impl_PackAll_ok v14 v16 v18 v20 h21))) (rfl : ([] : List Nat) = [])) (And.intro (laws_eqThingS_ok v20.1 v12.1 v22 h23) (And.intro h24 (And.intro (laws_eqIntS_ok v20.2 v12.2 v25 h26) (And.intro h27 (And.intro (And.intro (con_sw 1000 10 (laws_toThingS_ok a0 v28 h29)) (rfl : ([] : List Nat) = [])) (And.intro (laws_eqThingS_ok v14 v28 v30 h31) (And.intro h32 (And.intro (And.intro (con_sw 1000 11 (laws_toIntS_ok a1 v33 h34)) (rfl : ([] : List Nat) = [])) (And.intro (laws_eqIntS_ok v16 v33 v35 h36) (And.intro h37 (And.intro (And.intro (con_sw 1000 12 (laws_toIntS_ok a2 v38 h39)) (rfl : ([] : List Nat) = [])) (And.intro (laws_eqIntS_ok v18 v38 v40 h41) (And.intro h42 (And.intro (And.intro (con_sw 900 5 (laws_markThingS_ok v14 1 v43 h44)) (rfl : ([5] : List Nat) = [5])) (And.intro (And.intro (con_sw 900 6 (laws_markIntS_ok v16 v43.1 v45 h46)) (rfl : ([6] : List Nat) = [6])) (And.intro (And.intro (con_sw 900 7 (laws_markIntS_ok v18 v45.1 v47 h48)) (rfl : ([7] : List Nat) = [7])) (And.intro h49 (And.intro (laws_eqThingS_ok v20.1 v12.1 v50 h51) (And.intro h52 (And.intro (laws_eqIntS_ok v20.2 v12.2 v53 h54) (And.intro h55 (And.intro (And.intro (con_sw 900 8 (laws_markThingS_ok v20.1 1 v56 h57)) (rfl : ([8] : List Nat) = [8])) (And.intro (And.intro (con_sw 900 9 (laws_markIntS_ok v20.2 v56.1 v58 h59)) (rfl : ([9] : List Nat) = [9])) (And.intro (laws_heldThingS_ok v56.2 1 v60 h61) (And.intro h62 (And.intro (laws_heldIntS_ok v58.2 v60 v63 h64) (And.intro h65 (And.intro h66 (And.intro (And.intro (con_sw 1000 13 (laws_toThingS_ok a0 v67 h68)) (rfl : ([] : List Nat) = [])) (And.intro (And.intro (con_sw 1000 14 (laws_toIntS_ok a1 v69 h70)) (rfl : ([] : List Nat) = [])) (And.intro (And.intro (con_sw 1000 15 (laws_toIntS_ok a2 v71 h72)) (rfl : ([] : List Nat) = [])) (And.intro (And.intro (con_sw 1001 17 (con_sw 1000 16 (impl_PackAll_ok v67 v69 v71 v73 h74))) (rfl : ([] : List Nat) = [])) (And.intro (laws_eqThingS_ok v73.1 v12.1 v75 h76) (And.intro h77 (And.intro (laws_eqIntS_ok v73.2 v12.2 v78 h79) (And.intro h80 (And.intro (laws_heldThingS_ok v56.2 1 v81 h82) (And.intro h83 True.intro)))))))))))))))))))))))))))))))))))))))))))))))))))) (by kernel_rfl)
                                  · obtain ⟨v84, h85, hM⟩ := bind_some hM
                                    rcases cond_cases hM with ⟨h86, hM⟩ | ⟨h86, hM⟩
                                    · have hE : some false = some r := hM
                                      have hE := Option.some.inj hE
                                      subst hE
                                      exact pr R 9999 [.ln (a1.length), .as 22 false, .ln (a2.length), .as 25 false, .call false [] (.o (.c (.v (.int .i64 v3)))) [] [], .as 30 false, .call false [] (.o (.c (.sl 0))) [] [(0, .row 35 6 (v6.map Thing.enc))], .call false [] (.o (.c (.sl 1))) [] [(1, .row 3 1 (v8.map encI))], .call false [] (.o (.c (.sl 2))) [] [(2, .row 3 1 (v10.map encI))], .call false [] (.tup [.c (.sl 3), .c (.sl 4)]) [] [(3, .row 35 6 (v12.1.map Thing.enc)), (4, .row 3 1 (v12.2.map encI))], .call false [] (.o (.c (.sl 5))) [] [(5, .row 35 6 (v14.map Thing.enc))], .call false [] (.o (.c (.sl 6))) [] [(6, .row 3 1 (v16.map encI))], .call false [] (.o (.c (.sl 7))) [] [(7, .row 3 1 (v18.map encI))], .call false [] (.tup [.c (.sl 8), .c (.sl 9)]) [] [(8, .row 35 6 (v20.1.map Thing.enc)), (9, .row 3 1 (v20.2.map encI))], .call false [] (.o (.c (.v (.bool v22)))) [] [], .as 58 false, .call false [] (.o (.c (.v (.bool v25)))) [] [], .as 63 false, .call false [] (.o (.c (.sl 10))) [] [(10, .row 35 6 (v28.map Thing.enc))], .call false [] (.o (.c (.v (.bool v30)))) [] [], .as 68 false, .call false [] (.o (.c (.sl 11))) [] [(11, .row 3 1 (v33.map encI))], .call false [] (.o (.c (.v (.bool v35)))) [] [], .as 73 false, .call false [] (.o (.c (.sl 12))) [] [(12, .row 3 1 (v38.map encI))], .call false [] (.o (.c (.v (.bool v40)))) [] [], .as 78 false, .call false [5] (.o (.c (.v (.int .i64 v43.1)))) [(5, .row 35 6 (v43.2.map Thing.enc))] [], .call false [6] (.o (.c (.v (.int .i64 v45.1)))) [(6, .row 3 1 (v45.2.map encI))] [], .call false [7] (.o (.c (.v (.int .i64 v47.1)))) [(7, .row 3 1 (v47.2.map encI))] [], .as 90 false, .call false [] (.o (.c (.v (.bool v50)))) [] [], .as 96 false, .call false [] (.o (.c (.v (.bool v53)))) [] [], .as 101 false, .call false [8] (.o (.c (.v (.int .i64 v56.1)))) [(8, .row 35 6 (v56.2.map Thing.enc))] [], .call false [9] (.o (.c (.v (.int .i64 v58.1)))) [(9, .row 3 1 (v58.2.map encI))] [], .call false [] (.o (.c (.v (.int .i64 v60)))) [] [], .as 112 false, .call false [] (.o (.c (.v (.int .i64 v63)))) [] [], .as 117 false, .as 120 false, .call false [] (.o (.c (.sl 13))) [] [(13, .row 35 6 (v67.map Thing.enc))], .call false [] (.o (.c (.sl 14))) [] [(14, .row 3 1 (v69.map encI))], .call false [] (.o (.c (.sl 15))) [] [(15, .row 3 1 (v71.map encI))], .call false [] (.tup [.c (.sl 16), .c (.sl 17)]) [] [(16, .row 35 6 (v73.1.map Thing.enc)), (17, .row 3 1 (v73.2.map encI))], .call false [] (.o (.c (.v (.bool v75)))) [] [], .as 135 false, .call false [] (.o (.c (.v (.bool v78)))) [] [], .as 140 false, .call false [] (.o (.c (.v (.int .i64 v81)))) [] [], .as 145 false, .call false [] (.o (.c (.v (.int .i64 v84)))) [] [], .as 150 true] [] [] [] (And.intro (lenm encI a1) (And.intro h1 (And.intro (lenm encI a2) (And.intro h2 (And.intro (laws_szThingS_ok a0 1048576 v3 h4) (And.intro h5 (And.intro (And.intro (con_sw 1000 0 (laws_toThingS_ok a0 v6 h7)) (rfl : ([] : List Nat) = [])) (And.intro (And.intro (con_sw 1000 1 (laws_toIntS_ok a1 v8 h9)) (rfl : ([] : List Nat) = [])) (And.intro (And.intro (con_sw 1000 2 (laws_toIntS_ok a2 v10 h11)) (rfl : ([] : List Nat) = [])) (And.intro (And.intro (con_sw 1001 4 (con_sw 1000 3 (spec_PackAll_ok v6 v8 v10 v12 h13))) (rfl : ([] : List Nat) = [])) (And.intro (And.intro (con_sw 1000 5 (laws_toThingS_ok a0 v14 h15)) (rfl : ([] : List Nat) = [])) (And.intro (And.intro (con_sw 1000 6 (laws_toIntS_ok a1 v16 h17)) (rfl : ([] : List Nat) = [])) (And.intro (And.intro (con_sw 1000 7 (laws_toIntS_ok a2 v18 h19)) (rfl : ([] : List Nat) = [])) (And.intro (And.intro (con_sw 1001 9 (con_sw 1000 8 (impl_PackAll_ok v14 v16 v18 v20 h21))) (rfl : ([] : List Nat) = [])) (And.intro (laws_eqThingS_ok v20.1 v12.1 v22 h23) (And.intro h24 (And.intro (laws_eqIntS_ok v20.2 v12.2 v25 h26) (And.intro h27 (And.intro (And.intro (con_sw 1000 10 (laws_toThingS_ok a0 v28 h29)) (rfl : ([] : List Nat) = [])) (And.intro (laws_eqThingS_ok v14 v28 v30 h31) (And.intro h32 (And.intro (And.intro (con_sw 1000 11 (laws_toIntS_ok a1 v33 h34)) (rfl : ([] : List Nat) = [])) (And.intro (laws_eqIntS_ok v16 v33 v35 h36) (And.intro h37 (And.intro (And.intro (con_sw 1000 12 (laws_toIntS_ok a2 v38 h39)) (rfl : ([] : List Nat) = [])) (And.intro (laws_eqIntS_ok v18 v38 v40 h41) (And.intro h42 (And.intro (And.intro (con_sw 900 5 (laws_markThingS_ok v14 1 v43 h44)) (rfl : ([5] : List Nat) = [5])) (And.intro (And.intro (con_sw 900 6 (laws_markIntS_ok v16 v43.1 v45 h46)) (rfl : ([6] : List Nat) = [6])) (And.intro (And.intro (con_sw 900 7 (laws_markIntS_ok v18 v45.1 v47 h48)) (rfl : ([7] : List Nat) = [7])) (And.intro h49 (And.intro (laws_eqThingS_ok v20.1 v12.1 v50 h51) (And.intro h52 (And.intro (laws_eqIntS_ok v20.2 v12.2 v53 h54) (And.intro h55 (And.intro (And.intro (con_sw 900 8 (laws_markThingS_ok v20.1 1 v56 h57)) (rfl : ([8] : List Nat) = [8])) (And.intro (And.intro (con_sw 900 9 (laws_markIntS_ok v20.2 v56.1 v58 h59)) (rfl : ([9] : List Nat) = [9])) (And.intro (laws_heldThingS_ok v56.2 1 v60 h61) (And.intro h62 (And.intro (laws_heldIntS_ok v58.2 v60 v63 h64) (And.intro h65 (And.intro h66 (And.intro (And.intro (con_sw 1000 13 (laws_toThingS_ok a0 v67 h68)) (rfl : ([] : List Nat) = [])) (And.intro (And.intro (con_sw 1000 14 (laws_toIntS_ok a1 v69 h70)) (rfl : ([] : List Nat) = [])) (And.intro (And.intro (con_sw 1000 15 (laws_toIntS_ok a2 v71 h72)) (rfl : ([] : List Nat) = [])) (And.intro (And.intro (con_sw 1001 17 (con_sw 1000 16 (impl_PackAll_ok v67 v69 v71 v73 h74))) (rfl : ([] : List Nat) = [])) (And.intro (laws_eqThingS_ok v73.1 v12.1 v75 h76) (And.intro h77 (And.intro (laws_eqIntS_ok v73.2 v12.2 v78 h79) (And.intro h80 (And.intro (laws_heldThingS_ok v56.2 1 v81 h82) (And.intro h83 (And.intro (laws_heldIntS_ok v58.2 v81 v84 h85) (And.intro h86 True.intro)))))))))))))))))))))))))))))))))))))))))))))))))))))) (by kernel_rfl)
                                    · rcases cond_cases hM with ⟨h87, hM⟩ | ⟨h87, hM⟩
                                      · have hE : some false = some r := hM
                                        have hE := Option.some.inj hE
                                        subst hE
                                        exact pr R 9999 [.ln (a1.length), .as 22 false, .ln (a2.length), .as 25 false, .call false [] (.o (.c (.v (.int .i64 v3)))) [] [], .as 30 false, .call false [] (.o (.c (.sl 0))) [] [(0, .row 35 6 (v6.map Thing.enc))], .call false [] (.o (.c (.sl 1))) [] [(1, .row 3 1 (v8.map encI))], .call false [] (.o (.c (.sl 2))) [] [(2, .row 3 1 (v10.map encI))], .call false [] (.tup [.c (.sl 3), .c (.sl 4)]) [] [(3, .row 35 6 (v12.1.map Thing.enc)), (4, .row 3 1 (v12.2.map encI))], .call false [] (.o (.c (.sl 5))) [] [(5, .row 35 6 (v14.map Thing.enc))], .call false [] (.o (.c (.sl 6))) [] [(6, .row 3 1 (v16.map encI))], .call false [] (.o (.c (.sl 7))) [] [(7, .row 3 1 (v18.map encI))], .call false [] (.tup [.c (.sl 8), .c (.sl 9)]) [] [(8, .row 35 6 (v20.1.map Thing.enc)), (9, .row 3 1 (v20.2.map encI))], .call false [] (.o (.c (.v (.bool v22)))) [] [], .as 58 false, .call false [] (.o (.c (.v (.bool v25)))) [] [], .as 63 false, .call false [] (.o (.c (.sl 10))) [] [(10, .row 35 6 (v28.map Thing.enc))], .call false [] (.o (.c (.v (.bool v30)))) [] [], .as 68 false, .call false [] (.o (.c (.sl 11))) [] [(11, .row 3 1 (v33.map encI))], .call false [] (.o (.c (.v (.bool v35)))) [] [], .as 73 false, .call false [] (.o (.c (.sl 12))) [] [(12, .row 3 1 (v38.map encI))], .call false [] (.o (.c (.v (.bool v40)))) [] [], .as 78 false, .call false [5] (.o (.c (.v (.int .i64 v43.1)))) [(5, .row 35 6 (v43.2.map Thing.enc))] [], .call false [6] (.o (.c (.v (.int .i64 v45.1)))) [(6, .row 3 1 (v45.2.map encI))] [], .call false [7] (.o (.c (.v (.int .i64 v47.1)))) [(7, .row 3 1 (v47.2.map encI))] [], .as 90 false, .call false [] (.o (.c (.v (.bool v50)))) [] [], .as 96 false, .call false [] (.o (.c (.v (.bool v53)))) [] [], .as 101 false, .call false [8] (.o (.c (.v (.int .i64 v56.1)))) [(8, .row 35 6 (v56.2.map Thing.enc))] [], .call false [9] (.o (.c (.v (.int .i64 v58.1)))) [(9, .row 3 1 (v58.2.map encI))] [], .call false [] (.o (.c (.v (.int .i64 v60)))) [] [], .as 112 false, .call false [] (.o (.c (.v (.int .i64 v63)))) [] [], .as 117 false, .as 120 false, .call false [] (.o (.c (.sl 13))) [] [(13, .row 35 6 (v67.map Thing.enc))], .call false [] (.o (.c (.sl 14))) [] [(14, .row 3 1 (v69.map encI))], .call false [] (.o (.c (.sl 15))) [] [(15, .row 3 1 (v71.map encI))], .call false [] (.tup [.c (.sl 16), .c (.sl 17)]) [] [(16, .row 35 6 (v73.1.map Thing.enc)), (17, .row 3 1 (v73.2.map encI))], .call false [] (.o (.c (.v (.bool v75)))) [] [], .as 135 false, .call false [] (.o (.c (.v (.bool v78)))) [] [], .as 140 false, .call false [] (.o (.c (.v (.int .i64 v81)))) [] [], .as 145 false, .call false [] (.o (.c (.v (.int .i64 v84)))) [] [], .as 150 false, .as 153 true] [] [] [] (And.intro (lenm encI a1) (And.intro h1 (And.intro (lenm encI a2) (And.intro h2 (And.intro (laws_szThingS_ok a0 1048576 v3 h4) (And.intro h5 (And.intro (And.intro (con_sw 1000 0 (laws_toThingS_ok a0 v6 h7)) (rfl : ([] : List Nat) = [])) (And.intro (And.intro (con_sw 1000 1 (laws_toIntS_ok a1 v8 h9)) (rfl : ([] : List Nat) = [])) (And.intro (And.intro (con_sw 1000 2 (laws_toIntS_ok a2 v10 h11)) (rfl : ([] : List Nat) = [])) (And.intro (And.intro (con_sw 1001 4 (con_sw 1000 3 (spec_PackAll_ok v6 v8 v10 v12 h13))) (rfl : ([] : List Nat) = [])) (And.intro (And.intro (con_sw 1000 5 (laws_toThingS_ok a0 v14 h15)) (rfl : ([] : List Nat) = [])) (And.intro (And.intro (con_sw 1000 6 (laws_toIntS_ok a1 v16 h17)) (rfl : ([] : List Nat) = [])) (And.intro (And.intro (con_sw 1000 7 (laws_toIntS_ok a2 v18 h19)) (rfl : ([] : List Nat) = [])) (And.intro (And.intro (con_sw 1001 9 (con_sw 1000 8 (impl_PackAll_ok v14 v16 v18 v20 h21))) (rfl : ([] : List Nat) = [])) (And.intro (laws_eqThingS_ok v20.1 v12.1 v22 h23) (And.intro h24 (And.intro (laws_eqIntS_ok v20.2 v12.2 v25 h26) (And.intro h27 (And.intro (And.intro (con_sw 1000 10 (laws_toThingS_ok a0 v28 h29)) (rfl : ([] : List Nat) = [])) (And.intro (laws_eqThingS_ok v14 v28 v30 h31) (And.intro h32 (And.intro (And.intro (con_sw 1000 11 (laws_toIntS_ok a1 v33 h34)) (rfl : ([] : List Nat) = [])) (And.intro (laws_eqIntS_ok v16 v33 v35 h36) (And.intro h37 (And.intro (And.intro (con_sw 1000 12 (laws_toIntS_ok a2 v38 h39)) (rfl : ([] : List Nat) = [])) (And.intro (laws_eqIntS_ok v18 v38 v40 h41) (And.intro h42 (And.intro (And.intro (con_sw 900 5 (laws_markThingS_ok v14 1 v43 h44)) (rfl : ([5] : List Nat) = [5])) (And.intro (And.intro (con_sw 900 6 (laws_markIntS_ok v16 v43.1 v45 h46)) (rfl : ([6] : List Nat) = [6])) (And.intro (And.intro (con_sw 900 7 (laws_markIntS_ok v18 v45.1 v47 h48)) (rfl : ([7] : List Nat) = [7])) (And.intro h49 (And.intro (laws_eqThingS_ok v20.1 v12.1 v50 h51) (And.intro h52 (And.intro (laws_eqIntS_ok v20.2 v12.2 v53 h54) (And.intro h55 (And.intro (And.intro (con_sw 900 8 (laws_markThingS_ok v20.1 1 v56 h57)) (rfl : ([8] : List Nat) = [8])) (And.intro (And.intro (con_sw 900 9 (laws_markIntS_ok v20.2 v56.1 v58 h59)) (rfl : ([9] : List Nat) = [9])) (And.intro (laws_heldThingS_ok v56.2 1 v60 h61) (And.intro h62 (And.intro (laws_heldIntS_ok v58.2 v60 v63 h64) (And.intro h65 (And.intro h66 (And.intro (And.intro (con_sw 1000 13 (laws_toThingS_ok a0 v67 h68)) (rfl : ([] : List Nat) = [])) (And.intro (And.intro (con_sw 1000 14 (laws_toIntS_ok a1 v69 h70)) (rfl : ([] : List Nat) = [])) (And.intro (And.intro (con_sw 1000 15 (laws_toIntS_ok a2 v71 h72)) (rfl : ([] : List Nat) = [])) (And.intro (And.intro (con_sw 1001 17 (con_sw 1000 16 (impl_PackAll_ok v67 v69 v71 v73 h74))) (rfl : ([] : List Nat) = [])) (And.intro (laws_eqThingS_ok v73.1 v12.1 v75 h76) (And.intro h77 (And.intro (laws_eqIntS_ok v73.2 v12.2 v78 h79) (And.intro h80 (And.intro (laws_heldThingS_ok v56.2 1 v81 h82) (And.intro h83 (And.intro (laws_heldIntS_ok v58.2 v81 v84 h85) (And.intro h86 (And.intro h87 True.intro))))))))))))))))))))))))))))))))))))))))))))))))))))))) (by kernel_rfl)
                                      · have hE : some true = some r := hM
                                        have hE := Option.some.inj hE
                                        subst hE
                                        exact pr R 9999 [.ln (a1.length), .as 22 false, .ln (a2.length), .as 25 false, .call false [] (.o (.c (.v (.int .i64 v3)))) [] [], .as 30 false, .call false [] (.o (.c (.sl 0))) [] [(0, .row 35 6 (v6.map Thing.enc))], .call false [] (.o (.c (.sl 1))) [] [(1, .row 3 1 (v8.map encI))], .call false [] (.o (.c (.sl 2))) [] [(2, .row 3 1 (v10.map encI))], .call false [] (.tup [.c (.sl 3), .c (.sl 4)]) [] [(3, .row 35 6 (v12.1.map Thing.enc)), (4, .row 3 1 (v12.2.map encI))], .call false [] (.o (.c (.sl 5))) [] [(5, .row 35 6 (v14.map Thing.enc))], .call false [] (.o (.c (.sl 6))) [] [(6, .row 3 1 (v16.map encI))], .call false [] (.o (.c (.sl 7))) [] [(7, .row 3 1 (v18.map encI))], .call false [] (.tup [.c (.sl 8), .c (.sl 9)]) [] [(8, .row 35 6 (v20.1.map Thing.enc)), (9, .row 3 1 (v20.2.map encI))], .call false [] (.o (.c (.v (.bool v22)))) [] [], .as 58 false, .call false [] (.o (.c (.v (.bool v25)))) [] [], .as 63 false, .call false [] (.o (.c (.sl 10))) [] [(10, .row 35 6 (v28.map Thing.enc))], .call false [] (.o (.c (.v (.bool v30)))) [] [], .as 68 false, .call false [] (.o (.c (.sl 11))) [] [(11, .row 3 1 (v33.map encI))], .call false [] (.o (.c (.v (.bool v35)))) [] [], .as 73 false, .call false [] (.o (.c (.sl 12))) [] [(12, .row 3 1 (v38.map encI))], .call false [] (.o (.c (.v (.bool v40)))) [] [], .as 78 false, .call false [5] (.o (.c (.v (.int .i64 v43.1)))) [(5, .row 35 6 (v43.2.map Thing.enc))] [], .call false [6] (.o (.c (.v (.int .i64 v45.1)))) [(6, .row 3 1 (v45.2.map encI))] [], .call false [7] (.o (.c (.v (.int .i64 v47.1)))) [(7, .row 3 1 (v47.2.map encI))] [], .as 90 false, .call false [] (.o (.c (.v (.bool v50)))) [] [], .as 96 false, .call false [] (.o (.c (.v (.bool v53)))) [] [], .as 101 false, .call false [8] (.o (.c (.v (.int .i64 v56.1)))) [(8, .row 35 6 (v56.2.map Thing.enc))] [], .call false [9] (.o (.c (.v (.int .i64 v58.1)))) [(9, .row 3 1 (v58.2.map encI))] [], .call false [] (.o (.c (.v (.int .i64 v60)))) [] [], .as 112 false, .call false [] (.o (.c (.v (.int .i64 v63)))) [] [], .as 117 false, .as 120 false, .call false [] (.o (.c (.sl 13))) [] [(13, .row 35 6 (v67.map Thing.enc))], .call false [] (.o (.c (.sl 14))) [] [(14, .row 3 1 (v69.map encI))], .call false [] (.o (.c (.sl 15))) [] [(15, .row 3 1 (v71.map encI))], .call false [] (.tup [.c (.sl 16), .c (.sl 17)]) [] [(16, .row 35 6 (v73.1.map Thing.enc)), (17, .row 3 1 (v73.2.map encI))], .call false [] (.o (.c (.v (.bool v75)))) [] [], .as 135 false, .call false [] (.o (.c (.v (.bool v78)))) [] [], .as 140 false, .call false [] (.o (.c (.v (.int .i64 v81)))) [] [], .as 145 false, .call false [] (.o (.c (.v (.int .i64 v84)))) [] [], .as 150 false, .as 153 false] [] [] [] (And.intro (lenm encI a1) (And.intro h1 (And.intro (lenm encI a2) (And.intro h2 (And.intro (laws_szThingS_ok a0 1048576 v3 h4) (And.intro h5 (And.intro (And.intro (con_sw 1000 0 (laws_toThingS_ok a0 v6 h7)) (rfl : ([] : List Nat) = [])) (And.intro (And.intro (con_sw 1000 1 (laws_toIntS_ok a1 v8 h9)) (rfl : ([] : List Nat) = [])) (And.intro (And.intro (con_sw 1000 2 (laws_toIntS_ok a2 v10 h11)) (rfl : ([] : List Nat) = [])) (And.intro (And.intro (con_sw 1001 4 (con_sw 1000 3 (spec_PackAll_ok v6 v8 v10 v12 h13))) (rfl : ([] : List Nat) = [])) (And.intro (And.intro (con_sw 1000 5 (laws_toThingS_ok a0 v14 h15)) (rfl : ([] : List Nat) = [])) (And.intro (And.intro (con_sw 1000 6 (laws_toIntS_ok a1 v16 h17)) (rfl : ([] : List Nat) = [])) (And.intro (And.intro (con_sw 1000 7 (laws_toIntS_ok a2 v18 h19)) (rfl : ([] : List Nat) = [])) (And.intro (And.intro (con_sw 1001 9 (con_sw 1000 8 (impl_PackAll_ok v14 v16 v18 v20 h21))) (rfl : ([] : List Nat) = [])) (And.intro (laws_eqThingS_ok v20.1 v12.1 v22 h23) (And.intro h24 (And.intro (laws_eqIntS_ok v20.2 v12.2 v25 h26) (And.intro h27 (And.intro (And.intro (con_sw 1000 10 (laws_toThingS_ok a0 v28 h29)) (rfl : ([] : List Nat) = [])) (And.intro (laws_eqThingS_ok v14 v28 v30 h31) (And.intro h32 (And.intro (And.intro (con_sw 1000 11 (laws_toIntS_ok a1 v33 h34)) (rfl : ([] : List Nat) = [])) (And.intro (laws_eqIntS_ok v16 v33 v35 h36) (And.intro h37 (And.intro (And.intro (con_sw 1000 12 (laws_toIntS_ok a2 v38 h39)) (rfl : ([] : List Nat) = [])) (And.intro (laws_eqIntS_ok v18 v38 v40 h41) (And.intro h42 (And.intro (And.intro (con_sw 900 5 (laws_markThingS_ok v14 1 v43 h44)) (rfl : ([5] : List Nat) = [5])) (And.intro (And.intro (con_sw 900 6 (laws_markIntS_ok v16 v43.1 v45 h46)) (rfl : ([6] : List Nat) = [6])) (And.intro (And.intro (con_sw 900 7 (laws_markIntS_ok v18 v45.1 v47 h48)) (rfl : ([7] : List Nat) = [7])) (And.intro h49 (And.intro (laws_eqThingS_ok v20.1 v12.1 v50 h51) (And.intro h52 (And.intro (laws_eqIntS_ok v20.2 v12.2 v53 h54) (And.intro h55 (And.intro (And.intro (con_sw 900 8 (laws_markThingS_ok v20.1 1 v56 h57)) (rfl : ([8] : List Nat) = [8])) (And.intro (And.intro (con_sw 900 9 (laws_markIntS_ok v20.2 v56.1 v58 h59)) (rfl : ([9] : List Nat) = [9])) (And.intro (laws_heldThingS_ok v56.2 1 v60 h61) (And.intro h62 (And.intro (laws_heldIntS_ok v58.2 v60 v63 h64) (And.intro h65 (And.intro h66 (And.intro (And.intro (con_sw 1000 13 (laws_toThingS_ok a0 v67 h68)) (rfl : ([] : List Nat) = [])) (And.intro (And.intro (con_sw 1000 14 (laws_toIntS_ok a1 v69 h70)) (rfl : ([] : List Nat) = [])) (And.intro (And.intro (con_sw 1000 15 (laws_toIntS_ok a2 v71 h72)) (rfl : ([] : List Nat) = [])) (And.intro (And.intro (con_sw 1001 17 (con_sw 1000 16 (impl_PackAll_ok v67 v69 v71 v73 h74))) (rfl : ([] : List Nat) = [])) (And.intro (laws_eqThingS_ok v73.1 v12.1 v75 h76) (And.intro h77 (And.intro (laws_eqIntS_ok v73.2 v12.2 v78 h79) (And.intro h80 (And.intro (laws_heldThingS_ok v56.2 1 v81 h82) (And.intro h83 (And.intro (laws_heldIntS_ok v58.2 v81 v84 h85) (And.intro h86 (And.intro h87 True.intro))))))))))))))))))))))))))))))))))))))))))))))))))))))) (by kernel_rfl)

-- loop.example/g03014/laws.big
def laws_big (a0 : (List Int)) : Option Bool :=
  some (decide ((a0.length : Int) > 4096))
theorem laws_big_ok (a0 : (List Int)) (r : Bool) (hM : laws_big a0 = some r) :
    Con Try.prog 5 [.c (.rs 1 (a0.map encU8))] [] (.o (.c (.v (.bool r)))) [] [] := by
  unfold laws_big at hM
  refine cn (N := 6) (pids := []) Try_mixed Try.func5 (by kernel_rfl) (by kernel_rfl) (by kernel_rfl) rfl fun ρ g w R => ?_
  have hE : some (decide ((a0.length : Int) > 4096)) = some r := hM
  have hE := Option.some.inj hE
  subst hE
  exact pr R 9999 [.ln (a0.length)] [] [] [] (And.intro (lenm encU8 a0) True.intro) (by kernel_rfl)

-- loop.example/g03014/spec.l1New
def spec_l1New_L1_b (a0 : (List Int)) (s1 : Int) (s2 : Int) : Option (Ctl (Int × Int) Int l1Cur) :=
  bif (decide (s2 < (a0.length : Int))) then
  bif (decide (s2 < 4000)) then
  (gi a0 s2).bind fun v6 =>
  some (.next (w64 ((BitVec.ofInt 64 (w64 ((w64 ((w64 (s1 * 167)) + (w64 v6))) + 29)) &&& BitVec.ofInt 64 1073741823).toNat), w64 (s2 + 1)))
  else
  some (.brk s1)
  else
  some (.brk s1)
def spec_l1New_L1 (a0 : (List Int)) (s : Int × Int) : Option (Ctl (Int × Int) Int l1Cur) := spec_l1New_L1_b a0 s.1 s.2
def spec_l1New_L1_s (a0 : (List Int)) (s1 : Int) (s2 : Int) : St := ⟨[(0, .o (.c (.rs 1 (a0.map encU8)))), (3, .o (.c (.v (.int .i64 s1)))), (4, .o (.c (.v (.int .i64 s2))))], []⟩
def spec_l1New_L1_S (a0 : (List Int)) (s : Int × Int) : St := spec_l1New_L1_s a0 s.1 s.2
def spec_l1New_L1_a (a0 : (List Int)) (s3 : Int) : Option l1Cur :=
  some (l1Cur.mk a0 0 s3)
def spec_l1New_L1_k (a0 : (List Int)) (x : (Int) ⊕ (l1Cur)) : Option l1Cur := match x with
  | .inl t => spec_l1New_L1_a a0 t
  | .inr y => some y
def spec_l1New (a0 : (List Int)) : Option l1Cur :=
  (loopM (spec_l1New_L1 a0) big (w64 (744201 + (w64 (3 * (a0.length : Int)))), 0)).bind (spec_l1New_L1_k a0)
theorem spec_l1New_ok (a0 : (List Int)) (r : l1Cur) (hM : spec_l1New a0 = some r) :
    Con Try.prog 23 [.c (.rs 1 (a0.map encU8))] [] (.o (.c (.ptr 1000 0))) [] [(1000, .box 62 [.rs 1 (r.b.map encU8), .v (.int .i64 r.i), .v (.int .i64 r.h)])] := by
  unfold spec_l1New at hM
  refine cn (N := 33) (pids := []) Try_mixed Try.func23 (by kernel_rfl) (by kernel_rfl) (by kernel_rfl) rfl fun ρ g w R => ?_
  have K1 : ∀ (s3 : Int), spec_l1New_L1_a a0 s3 = some r → Gr R [.code (cAt Try.f23 [1, 1, 1])] (⟨[(0, .o (.c (.rs 1 (a0.map encU8)))), (3, .o (.c (.v (.int .i64 s3))))], []⟩) := by
    intro s3 hM
    unfold spec_l1New_L1_a at hM
    have hE : some (l1Cur.mk a0 0 s3) = some r := hM
    have hE := Option.some.inj hE
    subst hE
    exact pr R 9999 [.new 0] [.sw 0 1000] [] [1000] True.intro (by kernel_rfl)
  refine pc R 9999 [.ln (a0.length)] [.keep [0, 3, 4] []] (k' := [.code (.loop (cAt Try.f23 [1, 1, 0, 1, 0, 0])), .blk 0, .code (cAt Try.f23 [1, 1, 1])]) (S' := spec_l1New_L1_S a0 (w64 (744201 + (w64 (3 * (a0.length : Int)))), 0)) (And.intro (lenm encU8 a0) True.intro) (by kernel_rfl) ?_
  refine lq (spec_l1New_L1_S a0) (body := spec_l1New_L1 a0) (k := spec_l1New_L1_k a0) hM fun m1 s c1 hM hK1 => ?_
  obtain ⟨s1, s2⟩ := s
  have hM : spec_l1New_L1_b a0 s1 s2 = some c1 := hM
  unfold spec_l1New_L1_b at hM
  rcases cond_cases hM with ⟨h4, hM⟩ | ⟨h4, hM⟩
  · rcases cond_cases hM with ⟨h5, hM⟩ | ⟨h5, hM⟩
    · obtain ⟨v6, h7, hM⟩ := bind_some hM
      have hE : some (Ctl.next (w64 ((BitVec.ofInt 64 (w64 ((w64 ((w64 (s1 * 167)) + (w64 v6))) + 29)) &&& BitVec.ofInt 64 1073741823).toNat), w64 (s2 + 1))) = some c1 := hM
      have hE := Option.some.inj hE
      subst hE
      exact pc R 9999 [.ln (a0.length), .as 13 true, .as 16 true, .ix (encU8 v6)] [.keep [0, 3, 4] []] (And.intro (lenm encU8 a0) (And.intro h4 (And.intro h5 (And.intro (gi_map encU8 h7) True.intro)))) (by kernel_rfl) (li (Sf := spec_l1New_L1_S a0) (M := Mk (spec_l1New_L1 a0) (spec_l1New_L1_k a0) r) (k := [.blk 0, .code (cAt Try.f23 [1, 1, 1])]) (Nat.lt_succ_self m1) hK1)
    · have hE : some (Ctl.brk s1) = some c1 := hM
      have hE := Option.some.inj hE
      subst hE
      exact pc R 5 [.ln (a0.length), .as 13 true, .as 16 false] [.keep [0, 3] []] (And.intro (lenm encU8 a0) (And.intro h4 (And.intro h5 True.intro))) (by kernel_rfl) (K1 s1 hK1)
  · have hE : some (Ctl.brk s1) = some c1 := hM
    have hE := Option.some.inj hE
    subst hE
    exact pc R 5 [.ln (a0.length), .as 13 false] [.keep [0, 3] []] (And.intro (lenm encU8 a0) (And.intro h4 True.intro)) (by kernel_rfl) (K1 s1 hK1)
end Go.Sx
