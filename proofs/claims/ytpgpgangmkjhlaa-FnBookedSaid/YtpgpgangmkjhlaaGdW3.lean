/- The functions of the program as plain Lean, and that each runs so (printed by wip/gen). -/
import Derived.Test.YtpgpgangmkjhlaaGdW2
namespace Go.Sx
open Go.Proofs
set_option linter.unusedVariables false
set_option maxRecDepth 100000

-- sort.symMerge_func
def sort_symMerge_func_at0ls41_L2_b (s4 : Int) (s5 : (List Booking)) (s6 : Int) : Option (Ctl ((List Booking) × Int) (List Booking) (List Booking)) :=
  bif (decide (s6 < (w64 (s4 - 1)))) then
  (gi s5 s6).bind fun v9 =>
  (gi s5 (w64 (s6 + 1))).bind fun v11 =>
  some (.next (List.set (List.set s5 (Int.toNat s6) v11) (Int.toNat (w64 (s6 + 1))) v9, w64 (s6 + 1)))
  else
  some (.brk s5)
def sort_symMerge_func_at0ls41_L2 (s4 : Int) (s : (List Booking) × Int) : Option (Ctl ((List Booking) × Int) (List Booking) (List Booking)) := sort_symMerge_func_at0ls41_L2_b s4 s.1 s.2
def sort_symMerge_func_at0ls41_L2_s (s4 : Int) (s5 : (List Booking)) (s6 : Int) : St := ⟨[(0, .o (.agg [.fn 41 [900], .of (fun s => .func (.func 99) #[] #[s, .pointer (some ⟨0, 57, none⟩)]) 920])), (4, .o (.c (.ptr 0 0))), (8, .o (.c (.v (.int .i64 s4)))), (11, .o (.c (.v (.int .i64 s6))))], [(900, .box 31 [.sl 920]), (920, .row 57 4 (s5.map Booking.enc)), (0, .box 112 [.fn 41 [900], .of (fun s => .func (.func 99) #[] #[s, .pointer (some ⟨0, 57, none⟩)]) 920])]⟩
def sort_symMerge_func_at0ls41_L2_S (s4 : Int) (s : (List Booking) × Int) : St := sort_symMerge_func_at0ls41_L2_s s4 s.1 s.2
def sort_symMerge_func_at0ls41_L2_a (s7 : (List Booking)) : Option (List Booking) :=
  some s7
def sort_symMerge_func_at0ls41_L2_k (x : ((List Booking)) ⊕ ((List Booking))) : Option (List Booking) := match x with
  | .inl t => sort_symMerge_func_at0ls41_L2_a t
  | .inr y => some y
def sort_symMerge_func_at0ls41_L1_b (a0 : ((List Booking))) (a1 : Int) (s2 : Int) (s3 : Int) : Option (Ctl (Int × Int) Int (List Booking)) :=
  bif (decide (s2 < s3)) then
  (impl_BookWay_c1 (w64 (Int.fdiv (IntKind.u64.wrap (w64 (s2 + s3))) (2 ^ 1))) a1 a0).bind fun v14 =>
  bif v14 then
  some (.next (w64 ((w64 (Int.fdiv (IntKind.u64.wrap (w64 (s2 + s3))) (2 ^ 1))) + 1), s3))
  else
  some (.next (s2, w64 (Int.fdiv (IntKind.u64.wrap (w64 (s2 + s3))) (2 ^ 1))))
  else
  some (.brk s2)
def sort_symMerge_func_at0ls41_L1 (a0 : ((List Booking))) (a1 : Int) (s : Int × Int) : Option (Ctl (Int × Int) Int (List Booking)) := sort_symMerge_func_at0ls41_L1_b a0 a1 s.1 s.2
def sort_symMerge_func_at0ls41_L1_s (a0 : ((List Booking))) (a1 : Int) (s2 : Int) (s3 : Int) : St := ⟨[(0, .o (.agg [.fn 41 [900], .of (fun s => .func (.func 99) #[] #[s, .pointer (some ⟨0, 57, none⟩)]) 920])), (1, .o (.c (.v (.int .i64 a1)))), (4, .o (.c (.ptr 0 0))), (8, .o (.c (.v (.int .i64 s2)))), (9, .o (.c (.v (.int .i64 s3))))], [(900, .box 31 [.sl 920]), (920, .row 57 4 (a0.map Booking.enc)), (0, .box 112 [.fn 41 [900], .of (fun s => .func (.func 99) #[] #[s, .pointer (some ⟨0, 57, none⟩)]) 920])]⟩
def sort_symMerge_func_at0ls41_L1_S (a0 : ((List Booking))) (a1 : Int) (s : Int × Int) : St := sort_symMerge_func_at0ls41_L1_s a0 a1 s.1 s.2
def sort_symMerge_func_at0ls41_L1_a (a0 : ((List Booking))) (a1 : Int) (s4 : Int) : Option (List Booking) :=
  (loopM (sort_symMerge_func_at0ls41_L2 s4) big (a0, a1)).bind (sort_symMerge_func_at0ls41_L2_k)
def sort_symMerge_func_at0ls41_L1_k (a0 : ((List Booking))) (a1 : Int) (x : (Int) ⊕ ((List Booking))) : Option (List Booking) := match x with
  | .inl t => sort_symMerge_func_at0ls41_L1_a a0 a1 t
  | .inr y => some y
def sort_symMerge_func_at0ls41_L4_b (s20 : Int) (s21 : (List Booking)) (s22 : Int) : Option (Ctl ((List Booking) × Int) (List Booking) (List Booking)) :=
  bif (decide (s22 > s20)) then
  (gi s21 s22).bind fun v25 =>
  (gi s21 (w64 (s22 - 1))).bind fun v27 =>
  some (.next (List.set (List.set s21 (Int.toNat s22) v27) (Int.toNat (w64 (s22 - 1))) v25, w64 (s22 - 1)))
  else
  some (.brk s21)
def sort_symMerge_func_at0ls41_L4 (s20 : Int) (s : (List Booking) × Int) : Option (Ctl ((List Booking) × Int) (List Booking) (List Booking)) := sort_symMerge_func_at0ls41_L4_b s20 s.1 s.2
def sort_symMerge_func_at0ls41_L4_s (s20 : Int) (s21 : (List Booking)) (s22 : Int) : St := ⟨[(0, .o (.agg [.fn 41 [900], .of (fun s => .func (.func 99) #[] #[s, .pointer (some ⟨0, 57, none⟩)]) 920])), (4, .o (.c (.ptr 0 0))), (12, .o (.c (.v (.int .i64 s20)))), (15, .o (.c (.v (.int .i64 s22))))], [(900, .box 31 [.sl 920]), (920, .row 57 4 (s21.map Booking.enc)), (0, .box 112 [.fn 41 [900], .of (fun s => .func (.func 99) #[] #[s, .pointer (some ⟨0, 57, none⟩)]) 920])]⟩
def sort_symMerge_func_at0ls41_L4_S (s20 : Int) (s : (List Booking) × Int) : St := sort_symMerge_func_at0ls41_L4_s s20 s.1 s.2
def sort_symMerge_func_at0ls41_L4_a (s23 : (List Booking)) : Option (List Booking) :=
  some s23
def sort_symMerge_func_at0ls41_L4_k (x : ((List Booking)) ⊕ ((List Booking))) : Option (List Booking) := match x with
  | .inl t => sort_symMerge_func_at0ls41_L4_a t
  | .inr y => some y
def sort_symMerge_func_at0ls41_L3_b (a0 : ((List Booking))) (a2 : Int) (s18 : Int) (s19 : Int) : Option (Ctl (Int × Int) Int (List Booking)) :=
  bif (decide (s18 < s19)) then
  (impl_BookWay_c1 a2 (w64 (Int.fdiv (IntKind.u64.wrap (w64 (s18 + s19))) (2 ^ 1))) a0).bind fun v30 =>
  bif (!v30) then
  some (.next (w64 ((w64 (Int.fdiv (IntKind.u64.wrap (w64 (s18 + s19))) (2 ^ 1))) + 1), s19))
  else
  some (.next (s18, w64 (Int.fdiv (IntKind.u64.wrap (w64 (s18 + s19))) (2 ^ 1))))
  else
  some (.brk s18)
def sort_symMerge_func_at0ls41_L3 (a0 : ((List Booking))) (a2 : Int) (s : Int × Int) : Option (Ctl (Int × Int) Int (List Booking)) := sort_symMerge_func_at0ls41_L3_b a0 a2 s.1 s.2
def sort_symMerge_func_at0ls41_L3_s (a0 : ((List Booking))) (a2 : Int) (s18 : Int) (s19 : Int) : St := ⟨[(0, .o (.agg [.fn 41 [900], .of (fun s => .func (.func 99) #[] #[s, .pointer (some ⟨0, 57, none⟩)]) 920])), (2, .o (.c (.v (.int .i64 a2)))), (4, .o (.c (.ptr 0 0))), (12, .o (.c (.v (.int .i64 s18)))), (13, .o (.c (.v (.int .i64 s19))))], [(900, .box 31 [.sl 920]), (920, .row 57 4 (a0.map Booking.enc)), (0, .box 112 [.fn 41 [900], .of (fun s => .func (.func 99) #[] #[s, .pointer (some ⟨0, 57, none⟩)]) 920])]⟩
def sort_symMerge_func_at0ls41_L3_S (a0 : ((List Booking))) (a2 : Int) (s : Int × Int) : St := sort_symMerge_func_at0ls41_L3_s a0 a2 s.1 s.2
def sort_symMerge_func_at0ls41_L3_a (a0 : ((List Booking))) (a2 : Int) (s20 : Int) : Option (List Booking) :=
  (loopM (sort_symMerge_func_at0ls41_L4 s20) big (a0, a2)).bind (sort_symMerge_func_at0ls41_L4_k)
def sort_symMerge_func_at0ls41_L3_k (a0 : ((List Booking))) (a2 : Int) (x : (Int) ⊕ ((List Booking))) : Option (List Booking) := match x with
  | .inl t => sort_symMerge_func_at0ls41_L3_a a0 a2 t
  | .inr y => some y
def sort_symMerge_func_at0ls41_j3 (self : ((List Booking)) → Int → Int → Int → Option (List Booking)) (a1 : Int) (a2 : Int) (a3 : Int) (s37 : Int) (s41 : (List Booking)) : Option (List Booking) :=
  bif (decide ((w64 (Int.fdiv (IntKind.u64.wrap (w64 (a1 + a3))) (2 ^ 1))) < (w64 ((w64 ((w64 (Int.fdiv (IntKind.u64.wrap (w64 (a1 + a3))) (2 ^ 1))) + a2)) - s37)))) then
  bif (decide ((w64 ((w64 ((w64 (Int.fdiv (IntKind.u64.wrap (w64 (a1 + a3))) (2 ^ 1))) + a2)) - s37)) < a3)) then
  (self s41 (w64 (Int.fdiv (IntKind.u64.wrap (w64 (a1 + a3))) (2 ^ 1))) (w64 ((w64 ((w64 (Int.fdiv (IntKind.u64.wrap (w64 (a1 + a3))) (2 ^ 1))) + a2)) - s37)) a3).bind fun v44 =>
  some v44
  else
  some s41
  else
  some s41
def sort_symMerge_func_at0ls41_j2 (self : ((List Booking)) → Int → Int → Int → Option (List Booking)) (a1 : Int) (a2 : Int) (a3 : Int) (s37 : Int) (s39 : (List Booking)) : Option (List Booking) :=
  bif (decide (a1 < s37)) then
  bif (decide (s37 < (w64 (Int.fdiv (IntKind.u64.wrap (w64 (a1 + a3))) (2 ^ 1))))) then
  (self s39 a1 s37 (w64 (Int.fdiv (IntKind.u64.wrap (w64 (a1 + a3))) (2 ^ 1)))).bind fun v47 =>
  sort_symMerge_func_at0ls41_j3 self a1 a2 a3 s37 v47
  else
  sort_symMerge_func_at0ls41_j3 self a1 a2 a3 s37 s39
  else
  bif (decide ((w64 (Int.fdiv (IntKind.u64.wrap (w64 (a1 + a3))) (2 ^ 1))) < (w64 ((w64 ((w64 (Int.fdiv (IntKind.u64.wrap (w64 (a1 + a3))) (2 ^ 1))) + a2)) - s37)))) then
  bif (decide ((w64 ((w64 ((w64 (Int.fdiv (IntKind.u64.wrap (w64 (a1 + a3))) (2 ^ 1))) + a2)) - s37)) < a3)) then
  (self s39 (w64 (Int.fdiv (IntKind.u64.wrap (w64 (a1 + a3))) (2 ^ 1))) (w64 ((w64 ((w64 (Int.fdiv (IntKind.u64.wrap (w64 (a1 + a3))) (2 ^ 1))) + a2)) - s37)) a3).bind fun v51 =>
  some v51
  else
  some s39
  else
  some s39
def sort_symMerge_func_at0ls41_j4 (self : ((List Booking)) → Int → Int → Int → Option (List Booking)) (a1 : Int) (a2 : Int) (a3 : Int) (s37 : Int) (s57 : (List Booking)) : Option (List Booking) :=
  bif (decide ((w64 (Int.fdiv (IntKind.u64.wrap (w64 (a1 + a3))) (2 ^ 1))) < (w64 ((w64 ((w64 (Int.fdiv (IntKind.u64.wrap (w64 (a1 + a3))) (2 ^ 1))) + a2)) - s37)))) then
  bif (decide ((w64 ((w64 ((w64 (Int.fdiv (IntKind.u64.wrap (w64 (a1 + a3))) (2 ^ 1))) + a2)) - s37)) < a3)) then
  (self s57 (w64 (Int.fdiv (IntKind.u64.wrap (w64 (a1 + a3))) (2 ^ 1))) (w64 ((w64 ((w64 (Int.fdiv (IntKind.u64.wrap (w64 (a1 + a3))) (2 ^ 1))) + a2)) - s37)) a3).bind fun v60 =>
  some v60
  else
  some s57
  else
  some s57
def sort_symMerge_func_at0ls41_L5_b (a0 : ((List Booking))) (a1 : Int) (a2 : Int) (a3 : Int) (s35 : Int) (s36 : Int) : Option (Ctl (Int × Int) Int (List Booking)) :=
  bif (decide (s35 < s36)) then
  (impl_BookWay_c1 (w64 ((w64 ((w64 ((w64 (Int.fdiv (IntKind.u64.wrap (w64 (a1 + a3))) (2 ^ 1))) + a2)) - 1)) - (w64 (Int.fdiv (IntKind.u64.wrap (w64 (s35 + s36))) (2 ^ 1))))) (w64 (Int.fdiv (IntKind.u64.wrap (w64 (s35 + s36))) (2 ^ 1))) a0).bind fun v70 =>
  bif (!v70) then
  some (.next (w64 ((w64 (Int.fdiv (IntKind.u64.wrap (w64 (s35 + s36))) (2 ^ 1))) + 1), s36))
  else
  some (.next (s35, w64 (Int.fdiv (IntKind.u64.wrap (w64 (s35 + s36))) (2 ^ 1))))
  else
  some (.brk s35)
def sort_symMerge_func_at0ls41_L5 (a0 : ((List Booking))) (a1 : Int) (a2 : Int) (a3 : Int) (s : Int × Int) : Option (Ctl (Int × Int) Int (List Booking)) := sort_symMerge_func_at0ls41_L5_b a0 a1 a2 a3 s.1 s.2
def sort_symMerge_func_at0ls41_L5_s (a0 : ((List Booking))) (a1 : Int) (a2 : Int) (a3 : Int) (s35 : Int) (s36 : Int) : St := ⟨[(0, .o (.agg [.fn 41 [900], .of (fun s => .func (.func 99) #[] #[s, .pointer (some ⟨0, 57, none⟩)]) 920])), (1, .o (.c (.v (.int .i64 a1)))), (2, .o (.c (.v (.int .i64 a2)))), (3, .o (.c (.v (.int .i64 a3)))), (4, .o (.c (.ptr 0 0))), (16, .o (.c (.v (.int .i64 (w64 (Int.fdiv (IntKind.u64.wrap (w64 (a1 + a3))) (2 ^ 1))))))), (17, .o (.c (.v (.int .i64 (w64 ((w64 (Int.fdiv (IntKind.u64.wrap (w64 (a1 + a3))) (2 ^ 1))) + a2)))))), (18, .o (.c (.v (.int .i64 s35)))), (19, .o (.c (.v (.int .i64 s36)))), (20, .o (.c (.v (.int .i64 (w64 ((w64 ((w64 (Int.fdiv (IntKind.u64.wrap (w64 (a1 + a3))) (2 ^ 1))) + a2)) - 1))))))], [(900, .box 31 [.sl 920]), (920, .row 57 4 (a0.map Booking.enc)), (0, .box 112 [.fn 41 [900], .of (fun s => .func (.func 99) #[] #[s, .pointer (some ⟨0, 57, none⟩)]) 920])]⟩
def sort_symMerge_func_at0ls41_L5_S (a0 : ((List Booking))) (a1 : Int) (a2 : Int) (a3 : Int) (s : Int × Int) : St := sort_symMerge_func_at0ls41_L5_s a0 a1 a2 a3 s.1 s.2
def sort_symMerge_func_at0ls41_L5_a (self : ((List Booking)) → Int → Int → Int → Option (List Booking)) (a0 : ((List Booking))) (a1 : Int) (a2 : Int) (a3 : Int) (s37 : Int) : Option (List Booking) :=
  bif (decide (s37 < a2)) then
  bif (decide (a2 < (w64 ((w64 ((w64 (Int.fdiv (IntKind.u64.wrap (w64 (a1 + a3))) (2 ^ 1))) + a2)) - s37)))) then
  (sort_rotate_func_at0ls41 a0 s37 a2 (w64 ((w64 ((w64 (Int.fdiv (IntKind.u64.wrap (w64 (a1 + a3))) (2 ^ 1))) + a2)) - s37))).bind fun v54 =>
  sort_symMerge_func_at0ls41_j2 self a1 a2 a3 s37 v54
  else
  sort_symMerge_func_at0ls41_j2 self a1 a2 a3 s37 a0
  else
  bif (decide (a1 < s37)) then
  bif (decide (s37 < (w64 (Int.fdiv (IntKind.u64.wrap (w64 (a1 + a3))) (2 ^ 1))))) then
  (self a0 a1 s37 (w64 (Int.fdiv (IntKind.u64.wrap (w64 (a1 + a3))) (2 ^ 1)))).bind fun v63 =>
  sort_symMerge_func_at0ls41_j4 self a1 a2 a3 s37 v63
  else
  sort_symMerge_func_at0ls41_j4 self a1 a2 a3 s37 a0
  else
  bif (decide ((w64 (Int.fdiv (IntKind.u64.wrap (w64 (a1 + a3))) (2 ^ 1))) < (w64 ((w64 ((w64 (Int.fdiv (IntKind.u64.wrap (w64 (a1 + a3))) (2 ^ 1))) + a2)) - s37)))) then
  bif (decide ((w64 ((w64 ((w64 (Int.fdiv (IntKind.u64.wrap (w64 (a1 + a3))) (2 ^ 1))) + a2)) - s37)) < a3)) then
  (self a0 (w64 (Int.fdiv (IntKind.u64.wrap (w64 (a1 + a3))) (2 ^ 1))) (w64 ((w64 ((w64 (Int.fdiv (IntKind.u64.wrap (w64 (a1 + a3))) (2 ^ 1))) + a2)) - s37)) a3).bind fun v67 =>
  some v67
  else
  some a0
  else
  some a0
def sort_symMerge_func_at0ls41_L5_k (self : ((List Booking)) → Int → Int → Int → Option (List Booking)) (a0 : ((List Booking))) (a1 : Int) (a2 : Int) (a3 : Int) (x : (Int) ⊕ ((List Booking))) : Option (List Booking) := match x with
  | .inl t => sort_symMerge_func_at0ls41_L5_a self a0 a1 a2 a3 t
  | .inr y => some y
def sort_symMerge_func_at0ls41_j1 (self : ((List Booking)) → Int → Int → Int → Option (List Booking)) (a0 : ((List Booking))) (a1 : Int) (a2 : Int) (a3 : Int) (s33 : Int) (s34 : Int) : Option (List Booking) :=
  (loopM (sort_symMerge_func_at0ls41_L5 a0 a1 a2 a3) big (s33, s34)).bind (sort_symMerge_func_at0ls41_L5_k self a0 a1 a2 a3)
def sort_symMerge_func_at0ls41_F (self : ((List Booking)) → Int → Int → Int → Option (List Booking)) (a0 : ((List Booking))) (a1 : Int) (a2 : Int) (a3 : Int) : Option (List Booking) :=
  bif ((w64 (a2 - a1)) == 1) then
  (loopM (sort_symMerge_func_at0ls41_L1 a0 a1) big (a2, a3)).bind (sort_symMerge_func_at0ls41_L1_k a0 a1)
  else
  bif ((w64 (a3 - a2)) == 1) then
  (loopM (sort_symMerge_func_at0ls41_L3 a0 a2) big (a1, a2)).bind (sort_symMerge_func_at0ls41_L3_k a0 a2)
  else
  bif (decide (a2 > (w64 (Int.fdiv (IntKind.u64.wrap (w64 (a1 + a3))) (2 ^ 1))))) then
  sort_symMerge_func_at0ls41_j1 self a0 a1 a2 a3 (w64 ((w64 ((w64 (Int.fdiv (IntKind.u64.wrap (w64 (a1 + a3))) (2 ^ 1))) + a2)) - a3)) (w64 (Int.fdiv (IntKind.u64.wrap (w64 (a1 + a3))) (2 ^ 1)))
  else
  sort_symMerge_func_at0ls41_j1 self a0 a1 a2 a3 a1 a2
def sort_symMerge_func_at0ls41_n : Nat → ((List Booking)) → Int → Int → Int → Option (List Booking)
  | 0, _, _, _, _ => none
  | n + 1, a0, a1, a2, a3 => sort_symMerge_func_at0ls41_F (sort_symMerge_func_at0ls41_n n) a0 a1 a2 a3
def sort_symMerge_func_at0ls41 (a0 : ((List Booking))) (a1 : Int) (a2 : Int) (a3 : Int) : Option (List Booking) := sort_symMerge_func_at0ls41_n big a0 a1 a2 a3
theorem sort_symMerge_func_at0ls41_step (self : ((List Booking)) → Int → Int → Int → Option (List Booking)) (ih : ∀ (a0 : ((List Booking))) (a1 : Int) (a2 : Int) (a3 : Int) (r : (List Booking)), self a0 a1 a2 a3 = some r →
    Con Try.prog 101 [.agg [.fn 41 [900], .of (fun s => .func (.func 99) #[] #[s, .pointer (some ⟨0, 57, none⟩)]) 920], .c (.v (.int .i64 a1)), .c (.v (.int .i64 a2)), .c (.v (.int .i64 a3))] [(900, .box 31 [.sl 920]), (920, .row 57 4 (a0.map Booking.enc))] (.tup []) [(900, .box 31 [.sl 920]), (920, .row 57 4 (r.map Booking.enc))] [])
     (a0 : ((List Booking))) (a1 : Int) (a2 : Int) (a3 : Int) (r : (List Booking)) (hM : sort_symMerge_func_at0ls41_F self a0 a1 a2 a3 = some r) :
    Con Try.prog 101 [.agg [.fn 41 [900], .of (fun s => .func (.func 99) #[] #[s, .pointer (some ⟨0, 57, none⟩)]) 920], .c (.v (.int .i64 a1)), .c (.v (.int .i64 a2)), .c (.v (.int .i64 a3))] [(900, .box 31 [.sl 920]), (920, .row 57 4 (a0.map Booking.enc))] (.tup []) [(900, .box 31 [.sl 920]), (920, .row 57 4 (r.map Booking.enc))] [] := by
  unfold sort_symMerge_func_at0ls41_F at hM
  refine cn (N := 177) (pids := [900, 920]) Try_mixed Try.func101 (by kernel_rfl) (by kernel_rfl) (by kernel_rfl) rfl fun ρ g w R => ?_
  rcases cond_cases hM with ⟨h1, hM⟩ | ⟨h1, hM⟩
  · have K1 : ∀ (s4 : Int), sort_symMerge_func_at0ls41_L1_a a0 a1 s4 = some r → Gr R [.code (cAt Try.f101 [1, 0, 1, 0, 1, 1, 1]), .code (cAt Try.f101 [1, 1])] (⟨[(0, .o (.agg [.fn 41 [900], .of (fun s => .func (.func 99) #[] #[s, .pointer (some ⟨0, 57, none⟩)]) 920])), (1, .o (.c (.v (.int .i64 a1)))), (4, .o (.c (.ptr 0 0))), (8, .o (.c (.v (.int .i64 s4))))], [(900, .box 31 [.sl 920]), (920, .row 57 4 (a0.map Booking.enc)), (0, .box 112 [.fn 41 [900], .of (fun s => .func (.func 99) #[] #[s, .pointer (some ⟨0, 57, none⟩)]) 920])]⟩) := by
      intro s4 hM
      unfold sort_symMerge_func_at0ls41_L1_a at hM
      have K2 : ∀ (s7 : (List Booking)), sort_symMerge_func_at0ls41_L2_a s7 = some r → Gr R [.code .ret, .code (cAt Try.f101 [1, 1])] (⟨[(0, .o (.agg [.fn 41 [900], .of (fun s => .func (.func 99) #[] #[s, .pointer (some ⟨0, 57, none⟩)]) 920]))], [(900, .box 31 [.sl 920]), (920, .row 57 4 (s7.map Booking.enc))]⟩) := by
        intro s7 hM
        unfold sort_symMerge_func_at0ls41_L2_a at hM
        have hE : some s7 = some r := hM
        have hE := Option.some.inj hE
        subst hE
        exact pr R 9999 [] [] [900, 920] [] True.intro (by kernel_rfl)
      refine pc R 9999 [] [.keep [0, 4, 8, 11] [900, 920, 0]] (k' := [.code (.loop (cAt Try.f101 [1, 0, 1, 0, 1, 1, 1, 0, 1, 0, 0])), .blk 2, .code .ret, .code (cAt Try.f101 [1, 1])]) (S' := sort_symMerge_func_at0ls41_L2_S s4 (a0, a1)) True.intro (by kernel_rfl) ?_
      refine lq (sort_symMerge_func_at0ls41_L2_S s4) (body := sort_symMerge_func_at0ls41_L2 s4) (k := sort_symMerge_func_at0ls41_L2_k) hM fun m2 s c2 hM hK2 => ?_
      obtain ⟨s5, s6⟩ := s
      have hM : sort_symMerge_func_at0ls41_L2_b s4 s5 s6 = some c2 := hM
      unfold sort_symMerge_func_at0ls41_L2_b at hM
      rcases cond_cases hM with ⟨h8, hM⟩ | ⟨h8, hM⟩
      · obtain ⟨v9, h10, hM⟩ := bind_some hM
        obtain ⟨v11, h12, hM⟩ := bind_some hM
        have hE : some (Ctl.next (List.set (List.set s5 (Int.toNat s6) v11) (Int.toNat (w64 (s6 + 1))) v9, w64 (s6 + 1))) = some c2 := hM
        have hE := Option.some.inj hE
        subst hE
        exact pc R 9999 [.as 50 true, .ix (Booking.enc v9), .ix (Booking.enc v11), .nm ((List.set (List.set s5 (Int.toNat s6) v11) (Int.toNat (w64 (s6 + 1))) v9).map Booking.enc)] [.keep [0, 4, 8, 11] [900, 920, 0]] (And.intro h8 (And.intro (swap_cond Booking.enc sw_ok57 h10 h12) True.intro)) (by kernel_rfl) (li (Sf := sort_symMerge_func_at0ls41_L2_S s4) (M := Mk (sort_symMerge_func_at0ls41_L2 s4) (sort_symMerge_func_at0ls41_L2_k) r) (k := [.blk 2, .code .ret, .code (cAt Try.f101 [1, 1])]) (Nat.lt_succ_self m2) hK2)
      · have hE : some (Ctl.brk s5) = some c2 := hM
        have hE := Option.some.inj hE
        subst hE
        exact pc R 5 [.as 50 false] [.keep [0] [900, 920]] (And.intro h8 True.intro) (by kernel_rfl) (K2 s5 hK2)
    refine pc R 9999 [.new 0, .as 26 true] [.keep [0, 1, 4, 8, 9] [900, 920, 0]] (k' := [.code (.loop (cAt Try.f101 [1, 0, 1, 0, 1, 1, 0, 0, 0])), .blk 0, .code (cAt Try.f101 [1, 0, 1, 0, 1, 1, 1]), .code (cAt Try.f101 [1, 1])]) (S' := sort_symMerge_func_at0ls41_L1_S a0 a1 (a2, a3)) (And.intro h1 True.intro) (by kernel_rfl) ?_
    refine lq (sort_symMerge_func_at0ls41_L1_S a0 a1) (body := sort_symMerge_func_at0ls41_L1 a0 a1) (k := sort_symMerge_func_at0ls41_L1_k a0 a1) hM fun m1 s c1 hM hK1 => ?_
    obtain ⟨s2, s3⟩ := s
    have hM : sort_symMerge_func_at0ls41_L1_b a0 a1 s2 s3 = some c1 := hM
    unfold sort_symMerge_func_at0ls41_L1_b at hM
    rcases cond_cases hM with ⟨h13, hM⟩ | ⟨h13, hM⟩
    · obtain ⟨v14, h15, hM⟩ := bind_some hM
      rcases cond_cases hM with ⟨h16, hM⟩ | ⟨h16, hM⟩
      · have hE : some (Ctl.next (w64 ((w64 (Int.fdiv (IntKind.u64.wrap (w64 (s2 + s3))) (2 ^ 1))) + 1), s3)) = some c1 := hM
        have hE := Option.some.inj hE
        subst hE
        exact pc R 9999 [.as 31 true, .ad (.keep [0, 1, 4, 8, 9, 10, 29, 30, 31, 32, 33, 34, 35, 36, 37, 38, 39, 40, 41] [900, 920, 0]), .call true [900, 920] (.o (.c (.v (.bool v14)))) [(900, .box 31 [.sl 920]), (920, .row 57 4 (a0.map Booking.enc))] [], .as 42 true] [.keep [0, 1, 4, 8, 9] [900, 920, 0]] (And.intro h13 (And.intro (And.intro (con_sw 922 920 (con_sw 902 900 (impl_BookWay_c1_ok (w64 (Int.fdiv (IntKind.u64.wrap (w64 (s2 + s3))) (2 ^ 1))) a1 a0 v14 h15))) (rfl : ([900, 920] : List Nat) = [900, 920])) (And.intro h16 True.intro))) (by kernel_rfl) (li (Sf := sort_symMerge_func_at0ls41_L1_S a0 a1) (M := Mk (sort_symMerge_func_at0ls41_L1 a0 a1) (sort_symMerge_func_at0ls41_L1_k a0 a1) r) (k := [.blk 0, .code (cAt Try.f101 [1, 0, 1, 0, 1, 1, 1]), .code (cAt Try.f101 [1, 1])]) (Nat.lt_succ_self m1) hK1)
      · have hE : some (Ctl.next (s2, w64 (Int.fdiv (IntKind.u64.wrap (w64 (s2 + s3))) (2 ^ 1)))) = some c1 := hM
        have hE := Option.some.inj hE
        subst hE
        exact pc R 9999 [.as 31 true, .ad (.keep [0, 1, 4, 8, 9, 10, 29, 30, 31, 32, 33, 34, 35, 36, 37, 38, 39, 40, 41] [900, 920, 0]), .call true [900, 920] (.o (.c (.v (.bool v14)))) [(900, .box 31 [.sl 920]), (920, .row 57 4 (a0.map Booking.enc))] [], .as 42 false] [.keep [0, 1, 4, 8, 9] [900, 920, 0]] (And.intro h13 (And.intro (And.intro (con_sw 922 920 (con_sw 902 900 (impl_BookWay_c1_ok (w64 (Int.fdiv (IntKind.u64.wrap (w64 (s2 + s3))) (2 ^ 1))) a1 a0 v14 h15))) (rfl : ([900, 920] : List Nat) = [900, 920])) (And.intro h16 True.intro))) (by kernel_rfl) (li (Sf := sort_symMerge_func_at0ls41_L1_S a0 a1) (M := Mk (sort_symMerge_func_at0ls41_L1 a0 a1) (sort_symMerge_func_at0ls41_L1_k a0 a1) r) (k := [.blk 0, .code (cAt Try.f101 [1, 0, 1, 0, 1, 1, 1]), .code (cAt Try.f101 [1, 1])]) (Nat.lt_succ_self m1) hK1)
    · have hE : some (Ctl.brk s2) = some c1 := hM
      have hE := Option.some.inj hE
      subst hE
      exact pc R 5 [.as 31 false] [.keep [0, 1, 4, 8] [900, 920, 0]] (And.intro h13 True.intro) (by kernel_rfl) (K1 s2 hK1)
  · rcases cond_cases hM with ⟨h17, hM⟩ | ⟨h17, hM⟩
    · have K3 : ∀ (s20 : Int), sort_symMerge_func_at0ls41_L3_a a0 a2 s20 = some r → Gr R [.code (cAt Try.f101 [1, 1, 0, 1, 0, 1, 1, 1]), .code (cAt Try.f101 [1, 1, 1])] (⟨[(0, .o (.agg [.fn 41 [900], .of (fun s => .func (.func 99) #[] #[s, .pointer (some ⟨0, 57, none⟩)]) 920])), (2, .o (.c (.v (.int .i64 a2)))), (4, .o (.c (.ptr 0 0))), (12, .o (.c (.v (.int .i64 s20))))], [(900, .box 31 [.sl 920]), (920, .row 57 4 (a0.map Booking.enc)), (0, .box 112 [.fn 41 [900], .of (fun s => .func (.func 99) #[] #[s, .pointer (some ⟨0, 57, none⟩)]) 920])]⟩) := by
        intro s20 hM
        unfold sort_symMerge_func_at0ls41_L3_a at hM
        have K4 : ∀ (s23 : (List Booking)), sort_symMerge_func_at0ls41_L4_a s23 = some r → Gr R [.code .ret, .code (cAt Try.f101 [1, 1, 1])] (⟨[(0, .o (.agg [.fn 41 [900], .of (fun s => .func (.func 99) #[] #[s, .pointer (some ⟨0, 57, none⟩)]) 920]))], [(900, .box 31 [.sl 920]), (920, .row 57 4 (s23.map Booking.enc))]⟩) := by
          intro s23 hM
          unfold sort_symMerge_func_at0ls41_L4_a at hM
          have hE : some s23 = some r := hM
          have hE := Option.some.inj hE
          subst hE
          exact pr R 9999 [] [] [900, 920] [] True.intro (by kernel_rfl)
        refine pc R 9999 [] [.keep [0, 4, 12, 15] [900, 920, 0]] (k' := [.code (.loop (cAt Try.f101 [1, 1, 0, 1, 0, 1, 1, 1, 0, 1, 0, 0])), .blk 6, .code .ret, .code (cAt Try.f101 [1, 1, 1])]) (S' := sort_symMerge_func_at0ls41_L4_S s20 (a0, a2)) True.intro (by kernel_rfl) ?_
        refine lq (sort_symMerge_func_at0ls41_L4_S s20) (body := sort_symMerge_func_at0ls41_L4 s20) (k := sort_symMerge_func_at0ls41_L4_k) hM fun m4 s c4 hM hK4 => ?_
        obtain ⟨s21, s22⟩ := s
        have hM : sort_symMerge_func_at0ls41_L4_b s20 s21 s22 = some c4 := hM
        unfold sort_symMerge_func_at0ls41_L4_b at hM
        rcases cond_cases hM with ⟨h24, hM⟩ | ⟨h24, hM⟩
        · obtain ⟨v25, h26, hM⟩ := bind_some hM
          obtain ⟨v27, h28, hM⟩ := bind_some hM
          have hE : some (Ctl.next (List.set (List.set s21 (Int.toNat s22) v27) (Int.toNat (w64 (s22 - 1))) v25, w64 (s22 - 1))) = some c4 := hM
          have hE := Option.some.inj hE
          subst hE
          exact pc R 9999 [.as 86 true, .ix (Booking.enc v25), .ix (Booking.enc v27), .nm ((List.set (List.set s21 (Int.toNat s22) v27) (Int.toNat (w64 (s22 - 1))) v25).map Booking.enc)] [.keep [0, 4, 12, 15] [900, 920, 0]] (And.intro h24 (And.intro (swap_cond Booking.enc sw_ok57 h26 h28) True.intro)) (by kernel_rfl) (li (Sf := sort_symMerge_func_at0ls41_L4_S s20) (M := Mk (sort_symMerge_func_at0ls41_L4 s20) (sort_symMerge_func_at0ls41_L4_k) r) (k := [.blk 6, .code .ret, .code (cAt Try.f101 [1, 1, 1])]) (Nat.lt_succ_self m4) hK4)
        · have hE : some (Ctl.brk s21) = some c4 := hM
          have hE := Option.some.inj hE
          subst hE
          exact pc R 5 [.as 86 false] [.keep [0] [900, 920]] (And.intro h24 True.intro) (by kernel_rfl) (K4 s21 hK4)
      refine pc R 9999 [.new 0, .as 26 false, .as 62 true] [.keep [0, 2, 4, 12, 13] [900, 920, 0]] (k' := [.code (.loop (cAt Try.f101 [1, 1, 0, 1, 0, 1, 1, 0, 0, 0])), .blk 4, .code (cAt Try.f101 [1, 1, 0, 1, 0, 1, 1, 1]), .code (cAt Try.f101 [1, 1, 1])]) (S' := sort_symMerge_func_at0ls41_L3_S a0 a2 (a1, a2)) (And.intro h1 (And.intro h17 True.intro)) (by kernel_rfl) ?_
      refine lq (sort_symMerge_func_at0ls41_L3_S a0 a2) (body := sort_symMerge_func_at0ls41_L3 a0 a2) (k := sort_symMerge_func_at0ls41_L3_k a0 a2) hM fun m3 s c3 hM hK3 => ?_
      obtain ⟨s18, s19⟩ := s
      have hM : sort_symMerge_func_at0ls41_L3_b a0 a2 s18 s19 = some c3 := hM
      unfold sort_symMerge_func_at0ls41_L3_b at hM
      rcases cond_cases hM with ⟨h29, hM⟩ | ⟨h29, hM⟩
      · obtain ⟨v30, h31, hM⟩ := bind_some hM
        rcases cond_cases hM with ⟨h32, hM⟩ | ⟨h32, hM⟩
        · have hE : some (Ctl.next (w64 ((w64 (Int.fdiv (IntKind.u64.wrap (w64 (s18 + s19))) (2 ^ 1))) + 1), s19)) = some c3 := hM
          have hE := Option.some.inj hE
          subst hE
          exact pc R 9999 [.as 67 true, .ad (.keep [0, 2, 4, 12, 13, 14, 65, 66, 67, 68, 69, 70, 71, 72, 73, 74, 75, 76, 77] [900, 920, 0]), .call true [900, 920] (.o (.c (.v (.bool v30)))) [(900, .box 31 [.sl 920]), (920, .row 57 4 (a0.map Booking.enc))] [], .as 79 true] [.keep [0, 2, 4, 12, 13] [900, 920, 0]] (And.intro h29 (And.intro (And.intro (con_sw 922 920 (con_sw 902 900 (impl_BookWay_c1_ok a2 (w64 (Int.fdiv (IntKind.u64.wrap (w64 (s18 + s19))) (2 ^ 1))) a0 v30 h31))) (rfl : ([900, 920] : List Nat) = [900, 920])) (And.intro h32 True.intro))) (by kernel_rfl) (li (Sf := sort_symMerge_func_at0ls41_L3_S a0 a2) (M := Mk (sort_symMerge_func_at0ls41_L3 a0 a2) (sort_symMerge_func_at0ls41_L3_k a0 a2) r) (k := [.blk 4, .code (cAt Try.f101 [1, 1, 0, 1, 0, 1, 1, 1]), .code (cAt Try.f101 [1, 1, 1])]) (Nat.lt_succ_self m3) hK3)
        · have hE : some (Ctl.next (s18, w64 (Int.fdiv (IntKind.u64.wrap (w64 (s18 + s19))) (2 ^ 1)))) = some c3 := hM
          have hE := Option.some.inj hE
          subst hE
          exact pc R 9999 [.as 67 true, .ad (.keep [0, 2, 4, 12, 13, 14, 65, 66, 67, 68, 69, 70, 71, 72, 73, 74, 75, 76, 77] [900, 920, 0]), .call true [900, 920] (.o (.c (.v (.bool v30)))) [(900, .box 31 [.sl 920]), (920, .row 57 4 (a0.map Booking.enc))] [], .as 79 false] [.keep [0, 2, 4, 12, 13] [900, 920, 0]] (And.intro h29 (And.intro (And.intro (con_sw 922 920 (con_sw 902 900 (impl_BookWay_c1_ok a2 (w64 (Int.fdiv (IntKind.u64.wrap (w64 (s18 + s19))) (2 ^ 1))) a0 v30 h31))) (rfl : ([900, 920] : List Nat) = [900, 920])) (And.intro h32 True.intro))) (by kernel_rfl) (li (Sf := sort_symMerge_func_at0ls41_L3_S a0 a2) (M := Mk (sort_symMerge_func_at0ls41_L3 a0 a2) (sort_symMerge_func_at0ls41_L3_k a0 a2) r) (k := [.blk 4, .code (cAt Try.f101 [1, 1, 0, 1, 0, 1, 1, 1]), .code (cAt Try.f101 [1, 1, 1])]) (Nat.lt_succ_self m3) hK3)
      · have hE : some (Ctl.brk s18) = some c3 := hM
        have hE := Option.some.inj hE
        subst hE
        exact pc R 5 [.as 67 false] [.keep [0, 2, 4, 12] [900, 920, 0]] (And.intro h29 True.intro) (by kernel_rfl) (K3 s18 hK3)
    · have J4 : ∀ (s33 : Int) (s34 : Int), sort_symMerge_func_at0ls41_j1 self a0 a1 a2 a3 s33 s34 = some r → Gr R [.code (cAt Try.f101 [1, 1, 1, 1, 1, 1, 1])] (⟨[(0, .o (.agg [.fn 41 [900], .of (fun s => .func (.func 99) #[] #[s, .pointer (some ⟨0, 57, none⟩)]) 920])), (1, .o (.c (.v (.int .i64 a1)))), (2, .o (.c (.v (.int .i64 a2)))), (3, .o (.c (.v (.int .i64 a3)))), (4, .o (.c (.ptr 0 0))), (16, .o (.c (.v (.int .i64 (w64 (Int.fdiv (IntKind.u64.wrap (w64 (a1 + a3))) (2 ^ 1))))))), (17, .o (.c (.v (.int .i64 (w64 ((w64 (Int.fdiv (IntKind.u64.wrap (w64 (a1 + a3))) (2 ^ 1))) + a2)))))), (18, .o (.c (.v (.int .i64 s33)))), (19, .o (.c (.v (.int .i64 s34))))], [(900, .box 31 [.sl 920]), (920, .row 57 4 (a0.map Booking.enc)), (0, .box 112 [.fn 41 [900], .of (fun s => .func (.func 99) #[] #[s, .pointer (some ⟨0, 57, none⟩)]) 920])]⟩) := by
        intro s33 s34 hM
        unfold sort_symMerge_func_at0ls41_j1 at hM
        have K5 : ∀ (s37 : Int), sort_symMerge_func_at0ls41_L5_a self a0 a1 a2 a3 s37 = some r → Gr R [.code (cAt Try.f101 [1, 1, 1, 1, 1, 1, 1, 1, 1])] (⟨[(0, .o (.agg [.fn 41 [900], .of (fun s => .func (.func 99) #[] #[s, .pointer (some ⟨0, 57, none⟩)]) 920])), (1, .o (.c (.v (.int .i64 a1)))), (2, .o (.c (.v (.int .i64 a2)))), (3, .o (.c (.v (.int .i64 a3)))), (4, .o (.c (.ptr 0 0))), (16, .o (.c (.v (.int .i64 (w64 (Int.fdiv (IntKind.u64.wrap (w64 (a1 + a3))) (2 ^ 1))))))), (17, .o (.c (.v (.int .i64 (w64 ((w64 (Int.fdiv (IntKind.u64.wrap (w64 (a1 + a3))) (2 ^ 1))) + a2)))))), (18, .o (.c (.v (.int .i64 s37))))], [(900, .box 31 [.sl 920]), (920, .row 57 4 (a0.map Booking.enc)), (0, .box 112 [.fn 41 [900], .of (fun s => .func (.func 99) #[] #[s, .pointer (some ⟨0, 57, none⟩)]) 920])]⟩) := by
          intro s37 hM
          unfold sort_symMerge_func_at0ls41_L5_a at hM
          rcases cond_cases hM with ⟨h38, hM⟩ | ⟨h38, hM⟩
          · have J3 : ∀ (s39 : (List Booking)), sort_symMerge_func_at0ls41_j2 self a1 a2 a3 s37 s39 = some r → Gr R [.code (cAt Try.f101 [1, 1, 1, 1, 1, 1, 1, 1, 1, 1, 1])] (⟨[(0, .o (.agg [.fn 41 [900], .of (fun s => .func (.func 99) #[] #[s, .pointer (some ⟨0, 57, none⟩)]) 920])), (1, .o (.c (.v (.int .i64 a1)))), (3, .o (.c (.v (.int .i64 a3)))), (4, .o (.c (.ptr 0 0))), (16, .o (.c (.v (.int .i64 (w64 (Int.fdiv (IntKind.u64.wrap (w64 (a1 + a3))) (2 ^ 1))))))), (18, .o (.c (.v (.int .i64 s37)))), (22, .o (.c (.v (.int .i64 (w64 ((w64 ((w64 (Int.fdiv (IntKind.u64.wrap (w64 (a1 + a3))) (2 ^ 1))) + a2)) - s37))))))], [(900, .box 31 [.sl 920]), (920, .row 57 4 (s39.map Booking.enc)), (0, .box 112 [.fn 41 [900], .of (fun s => .func (.func 99) #[] #[s, .pointer (some ⟨0, 57, none⟩)]) 920])]⟩) := by
              intro s39 hM
              unfold sort_symMerge_func_at0ls41_j2 at hM
              rcases cond_cases hM with ⟨h40, hM⟩ | ⟨h40, hM⟩
              · have J3 : ∀ (s41 : (List Booking)), sort_symMerge_func_at0ls41_j3 self a1 a2 a3 s37 s41 = some r → Gr R [.code (cAt Try.f101 [1, 1, 1, 1, 1, 1, 1, 1, 1, 1, 1, 1])] (⟨[(0, .o (.agg [.fn 41 [900], .of (fun s => .func (.func 99) #[] #[s, .pointer (some ⟨0, 57, none⟩)]) 920])), (3, .o (.c (.v (.int .i64 a3)))), (4, .o (.c (.ptr 0 0))), (16, .o (.c (.v (.int .i64 (w64 (Int.fdiv (IntKind.u64.wrap (w64 (a1 + a3))) (2 ^ 1))))))), (22, .o (.c (.v (.int .i64 (w64 ((w64 ((w64 (Int.fdiv (IntKind.u64.wrap (w64 (a1 + a3))) (2 ^ 1))) + a2)) - s37))))))], [(900, .box 31 [.sl 920]), (920, .row 57 4 (s41.map Booking.enc)), (0, .box 112 [.fn 41 [900], .of (fun s => .func (.func 99) #[] #[s, .pointer (some ⟨0, 57, none⟩)]) 920])]⟩) := by
                  intro s41 hM
                  unfold sort_symMerge_func_at0ls41_j3 at hM
                  rcases cond_cases hM with ⟨h42, hM⟩ | ⟨h42, hM⟩
                  · rcases cond_cases hM with ⟨h43, hM⟩ | ⟨h43, hM⟩
                    · obtain ⟨v44, h45, hM⟩ := bind_some hM
                      have hE : some v44 = some r := hM
                      have hE := Option.some.inj hE
                      subst hE
                      exact pr R 9999 [.as 167 true, .as 171 true, .ad (.keep [0, 3, 4, 16, 22, 164, 165, 166, 167, 168, 169, 170, 171, 172, 173, 174, 175] [900, 920, 0]), .call true [900, 920] (.tup []) [(900, .box 31 [.sl 920]), (920, .row 57 4 (v44.map Booking.enc))] []] [] [900, 920] [] (And.intro h42 (And.intro h43 (And.intro (And.intro (con_sw 920 920 (con_sw 900 900 (ih s41 (w64 (Int.fdiv (IntKind.u64.wrap (w64 (a1 + a3))) (2 ^ 1))) (w64 ((w64 ((w64 (Int.fdiv (IntKind.u64.wrap (w64 (a1 + a3))) (2 ^ 1))) + a2)) - s37)) a3 v44 h45))) (rfl : ([900, 920] : List Nat) = [900, 920])) True.intro))) (by kernel_rfl)
                    · have hE : some s41 = some r := hM
                      have hE := Option.some.inj hE
                      subst hE
                      exact pr R 9999 [.as 167 true, .as 171 false] [] [900, 920] [] (And.intro h42 (And.intro h43 True.intro)) (by kernel_rfl)
                  · have hE : some s41 = some r := hM
                    have hE := Option.some.inj hE
                    subst hE
                    exact pr R 9999 [.as 167 false] [] [900, 920] [] (And.intro h42 True.intro) (by kernel_rfl)
                rcases cond_cases hM with ⟨h46, hM⟩ | ⟨h46, hM⟩
                · obtain ⟨v47, h48, hM⟩ := bind_some hM
                  exact pc R 5 [.as 154 true, .as 158 true, .ad (.keep [0, 1, 3, 4, 16, 18, 22, 151, 152, 153, 154, 155, 156, 157, 158, 159, 160, 161, 162] [900, 920, 0]), .call true [900, 920] (.tup []) [(900, .box 31 [.sl 920]), (920, .row 57 4 (v47.map Booking.enc))] []] [.keep [0, 3, 4, 16, 22] [900, 920, 0]] (And.intro h40 (And.intro h46 (And.intro (And.intro (con_sw 920 920 (con_sw 900 900 (ih s39 a1 s37 (w64 (Int.fdiv (IntKind.u64.wrap (w64 (a1 + a3))) (2 ^ 1))) v47 h48))) (rfl : ([900, 920] : List Nat) = [900, 920])) True.intro))) (by kernel_rfl) (J3 v47 hM)
                · exact pc R 5 [.as 154 true, .as 158 false] [.keep [0, 3, 4, 16, 22] [900, 920, 0]] (And.intro h40 (And.intro h46 True.intro)) (by kernel_rfl) (J3 s39 hM)
              · rcases cond_cases hM with ⟨h49, hM⟩ | ⟨h49, hM⟩
                · rcases cond_cases hM with ⟨h50, hM⟩ | ⟨h50, hM⟩
                  · obtain ⟨v51, h52, hM⟩ := bind_some hM
                    have hE : some v51 = some r := hM
                    have hE := Option.some.inj hE
                    subst hE
                    exact pr R 9999 [.as 154 false, .as 167 true, .as 171 true, .ad (.keep [0, 1, 3, 4, 16, 18, 22, 151, 152, 153, 154, 155, 156, 157, 158, 164, 165, 166, 167, 168, 169, 170, 171, 172, 173, 174, 175] [900, 920, 0]), .call true [900, 920] (.tup []) [(900, .box 31 [.sl 920]), (920, .row 57 4 (v51.map Booking.enc))] []] [] [900, 920] [] (And.intro h40 (And.intro h49 (And.intro h50 (And.intro (And.intro (con_sw 920 920 (con_sw 900 900 (ih s39 (w64 (Int.fdiv (IntKind.u64.wrap (w64 (a1 + a3))) (2 ^ 1))) (w64 ((w64 ((w64 (Int.fdiv (IntKind.u64.wrap (w64 (a1 + a3))) (2 ^ 1))) + a2)) - s37)) a3 v51 h52))) (rfl : ([900, 920] : List Nat) = [900, 920])) True.intro)))) (by kernel_rfl)
                  · have hE : some s39 = some r := hM
                    have hE := Option.some.inj hE
                    subst hE
                    exact pr R 9999 [.as 154 false, .as 167 true, .as 171 false] [] [900, 920] [] (And.intro h40 (And.intro h49 (And.intro h50 True.intro))) (by kernel_rfl)
                · have hE : some s39 = some r := hM
                  have hE := Option.some.inj hE
                  subst hE
                  exact pr R 9999 [.as 154 false, .as 167 false] [] [900, 920] [] (And.intro h40 (And.intro h49 True.intro)) (by kernel_rfl)
            rcases cond_cases hM with ⟨h53, hM⟩ | ⟨h53, hM⟩
            · obtain ⟨v54, h55, hM⟩ := bind_some hM
              exact pc R 7 [.as 141 true, .as 145 true, .ad (.keep [0, 1, 2, 3, 4, 16, 17, 18, 22, 135, 136, 137, 138, 139, 140, 141, 142, 143, 144, 145, 146, 147, 148, 149] [900, 920, 0]), .call true [900, 920] (.tup []) [(900, .box 31 [.sl 920]), (920, .row 57 4 (v54.map Booking.enc))] []] [.keep [0, 1, 3, 4, 16, 18, 22] [900, 920, 0]] (And.intro h38 (And.intro h53 (And.intro (And.intro (con_sw 920 920 (con_sw 900 900 (sort_rotate_func_at0ls41_ok a0 s37 a2 (w64 ((w64 ((w64 (Int.fdiv (IntKind.u64.wrap (w64 (a1 + a3))) (2 ^ 1))) + a2)) - s37)) v54 h55))) (rfl : ([900, 920] : List Nat) = [900, 920])) True.intro))) (by kernel_rfl) (J3 v54 hM)
            · exact pc R 7 [.as 141 true, .as 145 false] [.keep [0, 1, 3, 4, 16, 18, 22] [900, 920, 0]] (And.intro h38 (And.intro h53 True.intro)) (by kernel_rfl) (J3 a0 hM)
          · rcases cond_cases hM with ⟨h56, hM⟩ | ⟨h56, hM⟩
            · have J4 : ∀ (s57 : (List Booking)), sort_symMerge_func_at0ls41_j4 self a1 a2 a3 s37 s57 = some r → Gr R [.code (cAt Try.f101 [1, 1, 1, 1, 1, 1, 1, 1, 1, 1, 1, 1])] (⟨[(0, .o (.agg [.fn 41 [900], .of (fun s => .func (.func 99) #[] #[s, .pointer (some ⟨0, 57, none⟩)]) 920])), (3, .o (.c (.v (.int .i64 a3)))), (4, .o (.c (.ptr 0 0))), (16, .o (.c (.v (.int .i64 (w64 (Int.fdiv (IntKind.u64.wrap (w64 (a1 + a3))) (2 ^ 1))))))), (22, .o (.c (.v (.int .i64 (w64 ((w64 ((w64 (Int.fdiv (IntKind.u64.wrap (w64 (a1 + a3))) (2 ^ 1))) + a2)) - s37))))))], [(900, .box 31 [.sl 920]), (920, .row 57 4 (s57.map Booking.enc)), (0, .box 112 [.fn 41 [900], .of (fun s => .func (.func 99) #[] #[s, .pointer (some ⟨0, 57, none⟩)]) 920])]⟩) := by
                intro s57 hM
                unfold sort_symMerge_func_at0ls41_j4 at hM
                rcases cond_cases hM with ⟨h58, hM⟩ | ⟨h58, hM⟩
                · rcases cond_cases hM with ⟨h59, hM⟩ | ⟨h59, hM⟩
                  · obtain ⟨v60, h61, hM⟩ := bind_some hM
                    have hE : some v60 = some r := hM
                    have hE := Option.some.inj hE
                    subst hE
                    exact pr R 9999 [.as 167 true, .as 171 true, .ad (.keep [0, 3, 4, 16, 22, 164, 165, 166, 167, 168, 169, 170, 171, 172, 173, 174, 175] [900, 920, 0]), .call true [900, 920] (.tup []) [(900, .box 31 [.sl 920]), (920, .row 57 4 (v60.map Booking.enc))] []] [] [900, 920] [] (And.intro h58 (And.intro h59 (And.intro (And.intro (con_sw 920 920 (con_sw 900 900 (ih s57 (w64 (Int.fdiv (IntKind.u64.wrap (w64 (a1 + a3))) (2 ^ 1))) (w64 ((w64 ((w64 (Int.fdiv (IntKind.u64.wrap (w64 (a1 + a3))) (2 ^ 1))) + a2)) - s37)) a3 v60 h61))) (rfl : ([900, 920] : List Nat) = [900, 920])) True.intro))) (by kernel_rfl)
                  · have hE : some s57 = some r := hM
                    have hE := Option.some.inj hE
                    subst hE
                    exact pr R 9999 [.as 167 true, .as 171 false] [] [900, 920] [] (And.intro h58 (And.intro h59 True.intro)) (by kernel_rfl)
                · have hE : some s57 = some r := hM
                  have hE := Option.some.inj hE
                  subst hE
                  exact pr R 9999 [.as 167 false] [] [900, 920] [] (And.intro h58 True.intro) (by kernel_rfl)
              rcases cond_cases hM with ⟨h62, hM⟩ | ⟨h62, hM⟩
              · obtain ⟨v63, h64, hM⟩ := bind_some hM
                exact pc R 12 [.as 141 false, .as 154 true, .as 158 true, .ad (.keep [0, 1, 2, 3, 4, 16, 17, 18, 22, 135, 136, 137, 138, 139, 140, 141, 142, 143, 144, 145, 151, 152, 153, 154, 155, 156, 157, 158, 159, 160, 161, 162] [900, 920, 0]), .call true [900, 920] (.tup []) [(900, .box 31 [.sl 920]), (920, .row 57 4 (v63.map Booking.enc))] []] [.keep [0, 3, 4, 16, 22] [900, 920, 0]] (And.intro h38 (And.intro h56 (And.intro h62 (And.intro (And.intro (con_sw 920 920 (con_sw 900 900 (ih a0 a1 s37 (w64 (Int.fdiv (IntKind.u64.wrap (w64 (a1 + a3))) (2 ^ 1))) v63 h64))) (rfl : ([900, 920] : List Nat) = [900, 920])) True.intro)))) (by kernel_rfl) (J4 v63 hM)
              · exact pc R 12 [.as 141 false, .as 154 true, .as 158 false] [.keep [0, 3, 4, 16, 22] [900, 920, 0]] (And.intro h38 (And.intro h56 (And.intro h62 True.intro))) (by kernel_rfl) (J4 a0 hM)
            · rcases cond_cases hM with ⟨h65, hM⟩ | ⟨h65, hM⟩
              · rcases cond_cases hM with ⟨h66, hM⟩ | ⟨h66, hM⟩
                · obtain ⟨v67, h68, hM⟩ := bind_some hM
                  have hE : some v67 = some r := hM
                  have hE := Option.some.inj hE
                  subst hE
                  exact pr R 9999 [.as 141 false, .as 154 false, .as 167 true, .as 171 true, .ad (.keep [0, 1, 2, 3, 4, 16, 17, 18, 22, 135, 136, 137, 138, 139, 140, 141, 142, 143, 144, 145, 151, 152, 153, 154, 155, 156, 157, 158, 164, 165, 166, 167, 168, 169, 170, 171, 172, 173, 174, 175] [900, 920, 0]), .call true [900, 920] (.tup []) [(900, .box 31 [.sl 920]), (920, .row 57 4 (v67.map Booking.enc))] []] [] [900, 920] [] (And.intro h38 (And.intro h56 (And.intro h65 (And.intro h66 (And.intro (And.intro (con_sw 920 920 (con_sw 900 900 (ih a0 (w64 (Int.fdiv (IntKind.u64.wrap (w64 (a1 + a3))) (2 ^ 1))) (w64 ((w64 ((w64 (Int.fdiv (IntKind.u64.wrap (w64 (a1 + a3))) (2 ^ 1))) + a2)) - s37)) a3 v67 h68))) (rfl : ([900, 920] : List Nat) = [900, 920])) True.intro))))) (by kernel_rfl)
                · have hE : some a0 = some r := hM
                  have hE := Option.some.inj hE
                  subst hE
                  exact pr R 9999 [.as 141 false, .as 154 false, .as 167 true, .as 171 false] [] [900, 920] [] (And.intro h38 (And.intro h56 (And.intro h65 (And.intro h66 True.intro)))) (by kernel_rfl)
              · have hE : some a0 = some r := hM
                have hE := Option.some.inj hE
                subst hE
                exact pr R 9999 [.as 141 false, .as 154 false, .as 167 false] [] [900, 920] [] (And.intro h38 (And.intro h56 (And.intro h65 True.intro))) (by kernel_rfl)
        refine pc R 9999 [] [.keep [0, 1, 2, 3, 4, 16, 17, 18, 19, 20] [900, 920, 0]] (k' := [.code (.loop (cAt Try.f101 [1, 1, 1, 1, 1, 1, 1, 1, 0, 0, 0])), .blk 8, .code (cAt Try.f101 [1, 1, 1, 1, 1, 1, 1, 1, 1])]) (S' := sort_symMerge_func_at0ls41_L5_S a0 a1 a2 a3 (s33, s34)) True.intro (by kernel_rfl) ?_
        refine lq (sort_symMerge_func_at0ls41_L5_S a0 a1 a2 a3) (body := sort_symMerge_func_at0ls41_L5 a0 a1 a2 a3) (k := sort_symMerge_func_at0ls41_L5_k self a0 a1 a2 a3) hM fun m5 s c5 hM hK5 => ?_
        obtain ⟨s35, s36⟩ := s
        have hM : sort_symMerge_func_at0ls41_L5_b a0 a1 a2 a3 s35 s36 = some c5 := hM
        unfold sort_symMerge_func_at0ls41_L5_b at hM
        rcases cond_cases hM with ⟨h69, hM⟩ | ⟨h69, hM⟩
        · obtain ⟨v70, h71, hM⟩ := bind_some hM
          rcases cond_cases hM with ⟨h72, hM⟩ | ⟨h72, hM⟩
          · have hE : some (Ctl.next (w64 ((w64 (Int.fdiv (IntKind.u64.wrap (w64 (s35 + s36))) (2 ^ 1))) + 1), s36)) = some c5 := hM
            have hE := Option.some.inj hE
            subst hE
            exact pc R 9999 [.as 117 true, .ad (.keep [0, 1, 2, 3, 4, 16, 17, 18, 19, 20, 21, 115, 116, 117, 118, 119, 120, 121, 122, 123, 124, 125, 126, 127, 128, 129] [900, 920, 0]), .call true [900, 920] (.o (.c (.v (.bool v70)))) [(900, .box 31 [.sl 920]), (920, .row 57 4 (a0.map Booking.enc))] [], .as 131 true] [.keep [0, 1, 2, 3, 4, 16, 17, 18, 19, 20] [900, 920, 0]] (And.intro h69 (And.intro (And.intro (con_sw 922 920 (con_sw 902 900 (impl_BookWay_c1_ok (w64 ((w64 ((w64 ((w64 (Int.fdiv (IntKind.u64.wrap (w64 (a1 + a3))) (2 ^ 1))) + a2)) - 1)) - (w64 (Int.fdiv (IntKind.u64.wrap (w64 (s35 + s36))) (2 ^ 1))))) (w64 (Int.fdiv (IntKind.u64.wrap (w64 (s35 + s36))) (2 ^ 1))) a0 v70 h71))) (rfl : ([900, 920] : List Nat) = [900, 920])) (And.intro h72 True.intro))) (by kernel_rfl) (li (Sf := sort_symMerge_func_at0ls41_L5_S a0 a1 a2 a3) (M := Mk (sort_symMerge_func_at0ls41_L5 a0 a1 a2 a3) (sort_symMerge_func_at0ls41_L5_k self a0 a1 a2 a3) r) (k := [.blk 8, .code (cAt Try.f101 [1, 1, 1, 1, 1, 1, 1, 1, 1])]) (Nat.lt_succ_self m5) hK5)
          · have hE : some (Ctl.next (s35, w64 (Int.fdiv (IntKind.u64.wrap (w64 (s35 + s36))) (2 ^ 1)))) = some c5 := hM
            have hE := Option.some.inj hE
            subst hE
            exact pc R 9999 [.as 117 true, .ad (.keep [0, 1, 2, 3, 4, 16, 17, 18, 19, 20, 21, 115, 116, 117, 118, 119, 120, 121, 122, 123, 124, 125, 126, 127, 128, 129] [900, 920, 0]), .call true [900, 920] (.o (.c (.v (.bool v70)))) [(900, .box 31 [.sl 920]), (920, .row 57 4 (a0.map Booking.enc))] [], .as 131 false] [.keep [0, 1, 2, 3, 4, 16, 17, 18, 19, 20] [900, 920, 0]] (And.intro h69 (And.intro (And.intro (con_sw 922 920 (con_sw 902 900 (impl_BookWay_c1_ok (w64 ((w64 ((w64 ((w64 (Int.fdiv (IntKind.u64.wrap (w64 (a1 + a3))) (2 ^ 1))) + a2)) - 1)) - (w64 (Int.fdiv (IntKind.u64.wrap (w64 (s35 + s36))) (2 ^ 1))))) (w64 (Int.fdiv (IntKind.u64.wrap (w64 (s35 + s36))) (2 ^ 1))) a0 v70 h71))) (rfl : ([900, 920] : List Nat) = [900, 920])) (And.intro h72 True.intro))) (by kernel_rfl) (li (Sf := sort_symMerge_func_at0ls41_L5_S a0 a1 a2 a3) (M := Mk (sort_symMerge_func_at0ls41_L5 a0 a1 a2 a3) (sort_symMerge_func_at0ls41_L5_k self a0 a1 a2 a3) r) (k := [.blk 8, .code (cAt Try.f101 [1, 1, 1, 1, 1, 1, 1, 1, 1])]) (Nat.lt_succ_self m5) hK5)
        · have hE : some (Ctl.brk s35) = some c5 := hM
          have hE := Option.some.inj hE
          subst hE
          exact pc R 5 [.as 117 false] [.keep [0, 1, 2, 3, 4, 16, 17, 18] [900, 920, 0]] (And.intro h69 True.intro) (by kernel_rfl) (K5 s35 hK5)
      rcases cond_cases hM with ⟨h73, hM⟩ | ⟨h73, hM⟩
      · exact pc R 25 [.new 0, .as 26 false, .as 62 false, .as 106 true] [.keep [0, 1, 2, 3, 4, 16, 17, 18, 19] [900, 920, 0]] (And.intro h1 (And.intro h17 (And.intro h73 True.intro))) (by kernel_rfl) (J4 (w64 ((w64 ((w64 (Int.fdiv (IntKind.u64.wrap (w64 (a1 + a3))) (2 ^ 1))) + a2)) - a3)) (w64 (Int.fdiv (IntKind.u64.wrap (w64 (a1 + a3))) (2 ^ 1))) hM)
      · exact pc R 25 [.new 0, .as 26 false, .as 62 false, .as 106 false] [.keep [0, 1, 2, 3, 4, 16, 17, 18, 19] [900, 920, 0]] (And.intro h1 (And.intro h17 (And.intro h73 True.intro))) (by kernel_rfl) (J4 a1 a2 hM)
theorem sort_symMerge_func_at0ls41_nok : ∀ (n : Nat) (a0 : ((List Booking))) (a1 : Int) (a2 : Int) (a3 : Int) (r : (List Booking)), sort_symMerge_func_at0ls41_n n a0 a1 a2 a3 = some r →
    Con Try.prog 101 [.agg [.fn 41 [900], .of (fun s => .func (.func 99) #[] #[s, .pointer (some ⟨0, 57, none⟩)]) 920], .c (.v (.int .i64 a1)), .c (.v (.int .i64 a2)), .c (.v (.int .i64 a3))] [(900, .box 31 [.sl 920]), (920, .row 57 4 (a0.map Booking.enc))] (.tup []) [(900, .box 31 [.sl 920]), (920, .row 57 4 (r.map Booking.enc))] []
  | 0, _, _, _, _, _, h => by cases h
  | n + 1, a0, a1, a2, a3, r, h => sort_symMerge_func_at0ls41_step (sort_symMerge_func_at0ls41_n n) (sort_symMerge_func_at0ls41_nok n) a0 a1 a2 a3 r h
theorem sort_symMerge_func_at0ls41_ok (a0 : ((List Booking))) (a1 : Int) (a2 : Int) (a3 : Int) (r : (List Booking)) (h : sort_symMerge_func_at0ls41 a0 a1 a2 a3 = some r) :
    Con Try.prog 101 [.agg [.fn 41 [900], .of (fun s => .func (.func 99) #[] #[s, .pointer (some ⟨0, 57, none⟩)]) 920], .c (.v (.int .i64 a1)), .c (.v (.int .i64 a2)), .c (.v (.int .i64 a3))] [(900, .box 31 [.sl 920]), (920, .row 57 4 (a0.map Booking.enc))] (.tup []) [(900, .box 31 [.sl 920]), (920, .row 57 4 (r.map Booking.enc))] [] := sort_symMerge_func_at0ls41_nok big a0 a1 a2 a3 r h

-- sort.stable_func
def sort_stable_func_at0ls41_L3_b (a1 : Int) (s9 : Int) (s12 : (List Booking)) (s13 : Int) (s14 : Int) : Option (Ctl ((List Booking) × Int × Int) ((List Booking) × Int) (List Booking)) :=
  bif (decide (s14 ≤ a1)) then
  (sort_symMerge_func_at0ls41 s12 s13 (w64 (s13 + s9)) s14).bind fun v21 =>
  some (.next (v21, s14, w64 (s14 + (w64 (2 * s9)))))
  else
  some (.brk (s12, s13))
def sort_stable_func_at0ls41_L3 (a1 : Int) (s9 : Int) (s : (List Booking) × Int × Int) : Option (Ctl ((List Booking) × Int × Int) ((List Booking) × Int) (List Booking)) := sort_stable_func_at0ls41_L3_b a1 s9 s.1 s.2.1 s.2.2
def sort_stable_func_at0ls41_L3_s (a1 : Int) (s9 : Int) (s12 : (List Booking)) (s13 : Int) (s14 : Int) : St := ⟨[(0, .o (.agg [.fn 41 [900], .of (fun s => .func (.func 99) #[] #[s, .pointer (some ⟨0, 57, none⟩)]) 920])), (1, .o (.c (.v (.int .i64 a1)))), (2, .o (.c (.ptr 0 0))), (4, .o (.c (.v (.int .i64 s9)))), (5, .o (.c (.v (.int .i64 s13)))), (6, .o (.c (.v (.int .i64 s14))))], [(900, .box 31 [.sl 920]), (920, .row 57 4 (s12.map Booking.enc)), (0, .box 112 [.fn 41 [900], .of (fun s => .func (.func 99) #[] #[s, .pointer (some ⟨0, 57, none⟩)]) 920])]⟩
def sort_stable_func_at0ls41_L3_S (a1 : Int) (s9 : Int) (s : (List Booking) × Int × Int) : St := sort_stable_func_at0ls41_L3_s a1 s9 s.1 s.2.1 s.2.2
def sort_stable_func_at0ls41_L3_a (a1 : Int) (s9 : Int) (s15 : (List Booking)) (s16 : Int) : Option (Ctl ((List Booking) × Int) (List Booking) (List Booking)) :=
  bif (decide ((w64 (s16 + s9)) < a1)) then
  (sort_symMerge_func_at0ls41 s15 s16 (w64 (s16 + s9)) a1).bind fun v18 =>
  some (.next (v18, w64 (s9 * 2)))
  else
  some (.next (s15, w64 (s9 * 2)))
def sort_stable_func_at0ls41_L3_k (a1 : Int) (s9 : Int) (x : ((List Booking) × Int) ⊕ ((List Booking))) : Option (Ctl ((List Booking) × Int) (List Booking) (List Booking)) := match x with
  | .inl t => sort_stable_func_at0ls41_L3_a a1 s9 t.1 t.2
  | .inr y => some (.ret y)
def sort_stable_func_at0ls41_L2_b (a1 : Int) (s8 : (List Booking)) (s9 : Int) : Option (Ctl ((List Booking) × Int) (List Booking) (List Booking)) :=
  bif (decide (s9 < a1)) then
  (loopM (sort_stable_func_at0ls41_L3 a1 s9) big (s8, 0, w64 (2 * s9))).bind (sort_stable_func_at0ls41_L3_k a1 s9)
  else
  some (.brk s8)
def sort_stable_func_at0ls41_L2 (a1 : Int) (s : (List Booking) × Int) : Option (Ctl ((List Booking) × Int) (List Booking) (List Booking)) := sort_stable_func_at0ls41_L2_b a1 s.1 s.2
def sort_stable_func_at0ls41_L2_s (a1 : Int) (s8 : (List Booking)) (s9 : Int) : St := ⟨[(0, .o (.agg [.fn 41 [900], .of (fun s => .func (.func 99) #[] #[s, .pointer (some ⟨0, 57, none⟩)]) 920])), (1, .o (.c (.v (.int .i64 a1)))), (2, .o (.c (.ptr 0 0))), (4, .o (.c (.v (.int .i64 s9))))], [(900, .box 31 [.sl 920]), (920, .row 57 4 (s8.map Booking.enc)), (0, .box 112 [.fn 41 [900], .of (fun s => .func (.func 99) #[] #[s, .pointer (some ⟨0, 57, none⟩)]) 920])]⟩
def sort_stable_func_at0ls41_L2_S (a1 : Int) (s : (List Booking) × Int) : St := sort_stable_func_at0ls41_L2_s a1 s.1 s.2
def sort_stable_func_at0ls41_L2_a (s10 : (List Booking)) : Option (List Booking) :=
  some s10
def sort_stable_func_at0ls41_L2_k (x : ((List Booking)) ⊕ ((List Booking))) : Option (List Booking) := match x with
  | .inl t => sort_stable_func_at0ls41_L2_a t
  | .inr y => some y
def sort_stable_func_at0ls41_L1_b (a1 : Int) (s1 : (List Booking)) (s2 : Int) (s3 : Int) : Option (Ctl ((List Booking) × Int × Int) ((List Booking) × Int) (List Booking)) :=
  bif (decide (s3 ≤ a1)) then
  (sort_insertionSort_func_at0ls41 s1 s2 s3).bind fun v24 =>
  some (.next (v24, s3, w64 (s3 + 20)))
  else
  some (.brk (s1, s2))
def sort_stable_func_at0ls41_L1 (a1 : Int) (s : (List Booking) × Int × Int) : Option (Ctl ((List Booking) × Int × Int) ((List Booking) × Int) (List Booking)) := sort_stable_func_at0ls41_L1_b a1 s.1 s.2.1 s.2.2
def sort_stable_func_at0ls41_L1_s (a1 : Int) (s1 : (List Booking)) (s2 : Int) (s3 : Int) : St := ⟨[(0, .o (.agg [.fn 41 [900], .of (fun s => .func (.func 99) #[] #[s, .pointer (some ⟨0, 57, none⟩)]) 920])), (1, .o (.c (.v (.int .i64 a1)))), (2, .o (.c (.ptr 0 0))), (4, .o (.c (.v (.int .i64 20)))), (5, .o (.c (.v (.int .i64 s2)))), (6, .o (.c (.v (.int .i64 s3))))], [(900, .box 31 [.sl 920]), (920, .row 57 4 (s1.map Booking.enc)), (0, .box 112 [.fn 41 [900], .of (fun s => .func (.func 99) #[] #[s, .pointer (some ⟨0, 57, none⟩)]) 920])]⟩
def sort_stable_func_at0ls41_L1_S (a1 : Int) (s : (List Booking) × Int × Int) : St := sort_stable_func_at0ls41_L1_s a1 s.1 s.2.1 s.2.2
def sort_stable_func_at0ls41_L1_a (a1 : Int) (s4 : (List Booking)) (s5 : Int) : Option (List Booking) :=
  (sort_insertionSort_func_at0ls41 s4 s5 a1).bind fun v6 =>
  (loopM (sort_stable_func_at0ls41_L2 a1) big (v6, 20)).bind (sort_stable_func_at0ls41_L2_k)
def sort_stable_func_at0ls41_L1_k (a1 : Int) (x : ((List Booking) × Int) ⊕ ((List Booking))) : Option (List Booking) := match x with
  | .inl t => sort_stable_func_at0ls41_L1_a a1 t.1 t.2
  | .inr y => some y
def sort_stable_func_at0ls41 (a0 : ((List Booking))) (a1 : Int) : Option (List Booking) :=
  (loopM (sort_stable_func_at0ls41_L1 a1) big (a0, 0, 20)).bind (sort_stable_func_at0ls41_L1_k a1)
theorem sort_stable_func_at0ls41_ok (a0 : ((List Booking))) (a1 : Int) (r : (List Booking)) (hM : sort_stable_func_at0ls41 a0 a1 = some r) :
    Con Try.prog 74 [.agg [.fn 41 [900], .of (fun s => .func (.func 99) #[] #[s, .pointer (some ⟨0, 57, none⟩)]) 920], .c (.v (.int .i64 a1))] [(900, .box 31 [.sl 920]), (920, .row 57 4 (a0.map Booking.enc))] (.tup []) [(900, .box 31 [.sl 920]), (920, .row 57 4 (r.map Booking.enc))] [] := by
  unfold sort_stable_func_at0ls41 at hM
  refine cn (N := 57) (pids := [900, 920]) Try_mixed Try.func74 (by kernel_rfl) (by kernel_rfl) (by kernel_rfl) rfl fun ρ g w R => ?_
  have K1 : ∀ (s4 : (List Booking)) (s5 : Int), sort_stable_func_at0ls41_L1_a a1 s4 s5 = some r → Gr R [.code (cAt Try.f74 [1, 1, 1, 1])] (⟨[(0, .o (.agg [.fn 41 [900], .of (fun s => .func (.func 99) #[] #[s, .pointer (some ⟨0, 57, none⟩)]) 920])), (1, .o (.c (.v (.int .i64 a1)))), (2, .o (.c (.ptr 0 0))), (4, .o (.c (.v (.int .i64 20)))), (5, .o (.c (.v (.int .i64 s5))))], [(900, .box 31 [.sl 920]), (920, .row 57 4 (s4.map Booking.enc)), (0, .box 112 [.fn 41 [900], .of (fun s => .func (.func 99) #[] #[s, .pointer (some ⟨0, 57, none⟩)]) 920])]⟩) := by
    intro s4 s5 hM
    unfold sort_stable_func_at0ls41_L1_a at hM
    obtain ⟨v6, h7, hM⟩ := bind_some hM
    have K2 : ∀ (s10 : (List Booking)), sort_stable_func_at0ls41_L2_a s10 = some r → Gr R [] (⟨[(0, .o (.agg [.fn 41 [900], .of (fun s => .func (.func 99) #[] #[s, .pointer (some ⟨0, 57, none⟩)]) 920]))], [(900, .box 31 [.sl 920]), (920, .row 57 4 (s10.map Booking.enc))]⟩) := by
      intro s10 hM
      unfold sort_stable_func_at0ls41_L2_a at hM
      have hE : some s10 = some r := hM
      have hE := Option.some.inj hE
      subst hE
      exact pr R 9999 [] [] [900, 920] [] True.intro (by kernel_rfl)
    refine pc R 9999 [.ad (.keep [0, 1, 2, 4, 5, 20, 21, 22] [900, 920, 0]), .call true [900, 920] (.tup []) [(900, .box 31 [.sl 920]), (920, .row 57 4 (v6.map Booking.enc))] []] [.keep [0, 1, 2, 4] [900, 920, 0]] (k' := [.code (.loop (cAt Try.f74 [1, 1, 1, 1, 1, 0, 0])), .blk 2]) (S' := sort_stable_func_at0ls41_L2_S a1 (v6, 20)) (And.intro (And.intro (con_sw 920 920 (con_sw 900 900 (sort_insertionSort_func_at0ls41_ok s4 s5 a1 v6 h7))) (rfl : ([900, 920] : List Nat) = [900, 920])) True.intro) (by kernel_rfl) ?_
    refine lq (sort_stable_func_at0ls41_L2_S a1) (body := sort_stable_func_at0ls41_L2 a1) (k := sort_stable_func_at0ls41_L2_k) hM fun m2 s c2 hM hK2 => ?_
    obtain ⟨s8, s9⟩ := s
    have hM : sort_stable_func_at0ls41_L2_b a1 s8 s9 = some c2 := hM
    unfold sort_stable_func_at0ls41_L2_b at hM
    rcases cond_cases hM with ⟨h11, hM⟩ | ⟨h11, hM⟩
    · have K3 : ∀ (s15 : (List Booking)) (s16 : Int), sort_stable_func_at0ls41_L3_a a1 s9 s15 s16 = some c2 → Gr R [.code (cAt Try.f74 [1, 1, 1, 1, 1, 0, 0, 1, 0, 1, 1]), .blk 3, .inv (Jr R (sort_stable_func_at0ls41_L2_S a1) (Mk (sort_stable_func_at0ls41_L2 a1) (sort_stable_func_at0ls41_L2_k) r) (m2 + 1)), .blk 2] (⟨[(0, .o (.agg [.fn 41 [900], .of (fun s => .func (.func 99) #[] #[s, .pointer (some ⟨0, 57, none⟩)]) 920])), (1, .o (.c (.v (.int .i64 a1)))), (2, .o (.c (.ptr 0 0))), (4, .o (.c (.v (.int .i64 s9)))), (5, .o (.c (.v (.int .i64 s16))))], [(900, .box 31 [.sl 920]), (920, .row 57 4 (s15.map Booking.enc)), (0, .box 112 [.fn 41 [900], .of (fun s => .func (.func 99) #[] #[s, .pointer (some ⟨0, 57, none⟩)]) 920])]⟩) := by
        intro s15 s16 hM
        unfold sort_stable_func_at0ls41_L3_a at hM
        rcases cond_cases hM with ⟨h17, hM⟩ | ⟨h17, hM⟩
        · obtain ⟨v18, h19, hM⟩ := bind_some hM
          have hE : some (Ctl.next (v18, w64 (s9 * 2))) = some c2 := hM
          have hE := Option.some.inj hE
          subst hE
          exact pc R 9999 [.as 49 true, .ad (.keep [0, 1, 2, 4, 5, 7, 44, 45, 46, 47, 48, 49, 50, 51, 52, 53] [900, 920, 0]), .call true [900, 920] (.tup []) [(900, .box 31 [.sl 920]), (920, .row 57 4 (v18.map Booking.enc))] []] [.keep [0, 1, 2, 4] [900, 920, 0]] (And.intro h17 (And.intro (And.intro (con_sw 920 920 (con_sw 900 900 (sort_symMerge_func_at0ls41_ok s15 s16 (w64 (s16 + s9)) a1 v18 h19))) (rfl : ([900, 920] : List Nat) = [900, 920])) True.intro)) (by kernel_rfl) (li (Sf := sort_stable_func_at0ls41_L2_S a1) (M := Mk (sort_stable_func_at0ls41_L2 a1) (sort_stable_func_at0ls41_L2_k) r) (k := [.blk 2]) (Nat.lt_succ_self m2) hK2)
        · have hE : some (Ctl.next (s15, w64 (s9 * 2))) = some c2 := hM
          have hE := Option.some.inj hE
          subst hE
          exact pc R 9999 [.as 49 false] [.keep [0, 1, 2, 4] [900, 920, 0]] (And.intro h17 True.intro) (by kernel_rfl) (li (Sf := sort_stable_func_at0ls41_L2_S a1) (M := Mk (sort_stable_func_at0ls41_L2 a1) (sort_stable_func_at0ls41_L2_k) r) (k := [.blk 2]) (Nat.lt_succ_self m2) hK2)
      refine pc R 9999 [.as 26 true] [.keep [0, 1, 2, 4, 5, 6] [900, 920, 0]] (k' := [.code (.loop (cAt Try.f74 [1, 1, 1, 1, 1, 0, 0, 1, 0, 1, 0, 0, 0])), .blk 4, .code (cAt Try.f74 [1, 1, 1, 1, 1, 0, 0, 1, 0, 1, 1]), .blk 3, .inv (Jr R (sort_stable_func_at0ls41_L2_S a1) (Mk (sort_stable_func_at0ls41_L2 a1) (sort_stable_func_at0ls41_L2_k) r) (m2 + 1)), .blk 2]) (S' := sort_stable_func_at0ls41_L3_S a1 s9 (s8, 0, w64 (2 * s9))) (And.intro h11 True.intro) (by kernel_rfl) ?_
      refine lq (sort_stable_func_at0ls41_L3_S a1 s9) (body := sort_stable_func_at0ls41_L3 a1 s9) (k := sort_stable_func_at0ls41_L3_k a1 s9) hM fun m3 s c3 hM hK3 => ?_
      obtain ⟨s12, s13, s14⟩ := s
      have hM : sort_stable_func_at0ls41_L3_b a1 s9 s12 s13 s14 = some c3 := hM
      unfold sort_stable_func_at0ls41_L3_b at hM
      rcases cond_cases hM with ⟨h20, hM⟩ | ⟨h20, hM⟩
      · obtain ⟨v21, h22, hM⟩ := bind_some hM
        have hE : some (Ctl.next (v21, s14, w64 (s14 + (w64 (2 * s9))))) = some c3 := hM
        have hE := Option.some.inj hE
        subst hE
        exact pc R 9999 [.as 31 true, .ad (.keep [0, 1, 2, 4, 5, 6, 29, 30, 31, 32, 33, 34, 35, 36, 37] [900, 920, 0]), .call true [900, 920] (.tup []) [(900, .box 31 [.sl 920]), (920, .row 57 4 (v21.map Booking.enc))] []] [.keep [0, 1, 2, 4, 5, 6] [900, 920, 0]] (And.intro h20 (And.intro (And.intro (con_sw 920 920 (con_sw 900 900 (sort_symMerge_func_at0ls41_ok s12 s13 (w64 (s13 + s9)) s14 v21 h22))) (rfl : ([900, 920] : List Nat) = [900, 920])) True.intro)) (by kernel_rfl) (li (Sf := sort_stable_func_at0ls41_L3_S a1 s9) (M := Mk (sort_stable_func_at0ls41_L3 a1 s9) (sort_stable_func_at0ls41_L3_k a1 s9) c2) (k := [.blk 4, .code (cAt Try.f74 [1, 1, 1, 1, 1, 0, 0, 1, 0, 1, 1]), .blk 3, .inv (Jr R (sort_stable_func_at0ls41_L2_S a1) (Mk (sort_stable_func_at0ls41_L2 a1) (sort_stable_func_at0ls41_L2_k) r) (m2 + 1)), .blk 2]) (Nat.lt_succ_self m3) hK3)
      · have hE : some (Ctl.brk (s12, s13)) = some c3 := hM
        have hE := Option.some.inj hE
        subst hE
        exact pc R 5 [.as 31 false] [.keep [0, 1, 2, 4, 5] [900, 920, 0]] (And.intro h20 True.intro) (by kernel_rfl) (K3 s12 s13 hK3)
    · have hE : some (Ctl.brk s8) = some c2 := hM
      have hE := Option.some.inj hE
      subst hE
      exact pc R 5 [.as 26 false] [.keep [0] [900, 920]] (And.intro h11 True.intro) (by kernel_rfl) (K2 s8 hK2)
  refine pc R 9999 [.new 0] [.keep [0, 1, 2, 4, 5, 6] [900, 920, 0]] (k' := [.code (.loop (cAt Try.f74 [1, 1, 1, 0, 0, 0])), .blk 0, .code (cAt Try.f74 [1, 1, 1, 1])]) (S' := sort_stable_func_at0ls41_L1_S a1 (a0, 0, 20)) True.intro (by kernel_rfl) ?_
  refine lq (sort_stable_func_at0ls41_L1_S a1) (body := sort_stable_func_at0ls41_L1 a1) (k := sort_stable_func_at0ls41_L1_k a1) hM fun m1 s c1 hM hK1 => ?_
  obtain ⟨s1, s2, s3⟩ := s
  have hM : sort_stable_func_at0ls41_L1_b a1 s1 s2 s3 = some c1 := hM
  unfold sort_stable_func_at0ls41_L1_b at hM
  rcases cond_cases hM with ⟨h23, hM⟩ | ⟨h23, hM⟩
  · obtain ⟨v24, h25, hM⟩ := bind_some hM
    have hE : some (Ctl.next (v24, s3, w64 (s3 + 20))) = some c1 := hM
    have hE := Option.some.inj hE
    subst hE
    exact pc R 9999 [.as 11 true, .ad (.keep [0, 1, 2, 4, 5, 6, 9, 10, 11, 12, 13, 14] [900, 920, 0]), .call true [900, 920] (.tup []) [(900, .box 31 [.sl 920]), (920, .row 57 4 (v24.map Booking.enc))] []] [.keep [0, 1, 2, 4, 5, 6] [900, 920, 0]] (And.intro h23 (And.intro (And.intro (con_sw 920 920 (con_sw 900 900 (sort_insertionSort_func_at0ls41_ok s1 s2 s3 v24 h25))) (rfl : ([900, 920] : List Nat) = [900, 920])) True.intro)) (by kernel_rfl) (li (Sf := sort_stable_func_at0ls41_L1_S a1) (M := Mk (sort_stable_func_at0ls41_L1 a1) (sort_stable_func_at0ls41_L1_k a1) r) (k := [.blk 0, .code (cAt Try.f74 [1, 1, 1, 1])]) (Nat.lt_succ_self m1) hK1)
  · have hE : some (Ctl.brk (s1, s2)) = some c1 := hM
    have hE := Option.some.inj hE
    subst hE
    exact pc R 5 [.as 11 false] [.keep [0, 1, 2, 4, 5] [900, 920, 0]] (And.intro h23 True.intro) (by kernel_rfl) (K1 s1 s2 hK1)

-- sort.SliceStable
noncomputable def sort_SliceStable_at0sk_1lf41_i : TypeInfo := (Try.prog.info? 31).get (by kernel_rfl)
theorem sort_SliceStable_at0sk_1lf41_K (n : Nat) (h2 : 2 ≤ n) : Lib.swapperK n sw_ie57 25 = 9 := by
  have a : sw_ie57.hasPointers = false := by kernel_rfl
  have b : sw_ie57.bytes = 32 := by kernel_rfl
  have c : (n == 0) = false := by simp; omega
  have d : (n == 1) = false := by simp; omega
  simp [Lib.swapperK, a, b, c, d]
def sort_SliceStable_at0sk_1lf41 (a1 : ((List Booking))) : Option (List Booking) := bif decide (a1.length ≤ 1) then some a1 else bif decide (a1.length < 4611686018427387904) then sort_stable_func_at0ls41 a1 (a1.length : Int) else none
theorem sort_SliceStable_at0sk_1lf41_ok (a1 : ((List Booking))) (r : (List Booking)) (hM : sort_SliceStable_at0sk_1lf41 a1 = some r) :
    Con Try.prog 40 [.c (.of (fun s => .iface 31 s) 920), .c (.fn 41 [900])] [(900, .box 31 [.sl 920]), (920, .row 57 4 (a1.map Booking.enc))] (.tup []) [(900, .box 31 [.sl 920]), (920, .row 57 4 (r.map Booking.enc))] [] := by
  have hl : a1.length < 4611686018427387904 := by
    unfold sort_SliceStable_at0sk_1lf41 at hM
    rcases cond_cases hM with ⟨h1, hM⟩ | ⟨h1, hM⟩
    · have := of_decide_eq_true h1; omega
    · rcases cond_cases hM with ⟨h2, hM⟩ | ⟨h2, hM⟩
      · exact of_decide_eq_true h2
      · cases hM
  refine con_stable Try.slays8 (by rfl) (by rfl) 31 57 sort_SliceStable_at0sk_1lf41_i sw_ie57 (by kernel_rfl) (by kernel_rfl) (by kernel_rfl) (by kernel_rfl) 25 (fun _ => by kernel_rfl) 91 92 99 9 sort_SliceStable_at0sk_1lf41_K (by kernel_rfl) (by kernel_rfl) (by kernel_rfl)
    (fun s => .func (.func 99) #[] #[s, .pointer (some ⟨0, 57, none⟩)]) sw_F57 41 [900] 920 57 4 (a1.map Booking.enc) _ _ (by simp) (by rw [List.length_map]; exact hl) (fun h2 => ?_) (fun h2 => ?_)
  · rw [List.length_map] at h2 ⊢
    unfold sort_SliceStable_at0sk_1lf41 at hM
    have d1 : decide (a1.length ≤ 1) = false := decide_eq_false (by omega)
    rw [d1, decide_eq_true hl] at hM
    exact sort_stable_func_at0ls41_ok a1 (a1.length : Int) r hM
  · rw [List.length_map] at h2
    unfold sort_SliceStable_at0sk_1lf41 at hM
    rw [decide_eq_true h2] at hM
    have hE := Option.some.inj hM
    subst hE
    rfl


-- loop.example/g03014/impl.BookWay
def impl_BookWay_L1_b (a2 : Int) (a3 : Int) (a4 : (List Trip)) (s11 : (List Booking)) (s12 : Int) : Option (Ctl ((List Booking) × Int) (List Booking) ((List Booking) × Bool)) :=
  bif (decide (s12 < (a4.length : Int))) then
  (gi a4 s12).bind fun v22 =>
  (ap 32 s11 ([(Booking.mk a2 v22 a3)] : List Booking)).bind fun v24 =>
  some (.next (v24, w64 (s12 + 1)))
  else
  some (.brk s11)
def impl_BookWay_L1 (a2 : Int) (a3 : Int) (a4 : (List Trip)) (s : (List Booking) × Int) : Option (Ctl ((List Booking) × Int) (List Booking) ((List Booking) × Bool)) := impl_BookWay_L1_b a2 a3 a4 s.1 s.2
def impl_BookWay_L1_s (a0 : Network) (a1 : (List Booking)) (a2 : Int) (a3 : Int) (a4 : (List Trip)) (s11 : (List Booking)) (s12 : Int) : St := ⟨[(1, .o (.c (.rs 4 (a1.map Booking.enc)))), (2, .o (.c (.v (.int .i64 a2)))), (3, .o (.c (.v (.int .i64 a3)))), (5, .o (.c (.ptr 0 0))), (12, .o (.c (.ptr 4 0))), (28, .o (.c (.rs 2 (a4.map Trip.enc)))), (29, .o (.c (.v (.int .i64 (a4.length : Int))))), (30, .o (.c (.v (.int .i64 s12))))], [(0, .box 36 [.rs 6 (a0.Legs.map Leg.enc), .rs 1 (a0.Off.map encI), .v (.int .i64 a0.Change)]), (4, .box 31 [.sl 3]), (3, .row 57 4 (s11.map Booking.enc))]⟩
def impl_BookWay_L1_S (a0 : Network) (a1 : (List Booking)) (a2 : Int) (a3 : Int) (a4 : (List Trip)) (s : (List Booking) × Int) : St := impl_BookWay_L1_s a0 a1 a2 a3 a4 s.1 s.2
def impl_BookWay_L1_a (a0 : Network) (a1 : (List Booking)) (s13 : (List Booking)) : Option ((List Booking) × Bool) :=
  (sort_SliceStable_at0sk_1lf41 s13).bind fun v14 =>
  (impl_AreBookings a0 v14).bind fun v16 =>
  bif (!v16) then
  (impl_copyBookings a1).bind fun v19 =>
  some (v19, false)
  else
  some (v14, true)
def impl_BookWay_L1_k (a0 : Network) (a1 : (List Booking)) (x : ((List Booking)) ⊕ ((List Booking) × Bool)) : Option ((List Booking) × Bool) := match x with
  | .inl t => impl_BookWay_L1_a a0 a1 t
  | .inr y => some y
def impl_BookWay (a0 : Network) (a1 : (List Booking)) (a2 : Int) (a3 : Int) (a4 : (List Trip)) : Option ((List Booking) × Bool) :=
  (impl_AreBookings a0 a1).bind fun v1 =>
  bif (!v1) then
  (impl_copyBookings a1).bind fun v4 =>
  some (v4, false)
  else
  bif (decide ((a4.length : Int) > 20)) then
  (impl_copyBookings a1).bind fun v7 =>
  some (v7, false)
  else
  (impl_copyBookings a1).bind fun v9 =>
  (loopM (impl_BookWay_L1 a2 a3 a4) big (v9, 0)).bind (impl_BookWay_L1_k a0 a1)
theorem impl_BookWay_ok (a0 : Network) (a1 : (List Booking)) (a2 : Int) (a3 : Int) (a4 : (List Trip)) (r : (List Booking) × Bool) (hM : impl_BookWay a0 a1 a2 a3 a4 = some r) :
    Con Try.prog 13 [.agg [.rs 6 (a0.Legs.map Leg.enc), .rs 1 (a0.Off.map encI), .v (.int .i64 a0.Change)], .c (.rs 4 (a1.map Booking.enc)), .c (.v (.int .i64 a2)), .c (.v (.int .i64 a3)), .c (.rs 2 (a4.map Trip.enc))] [] (.tup [.c (.sl 1000), .c (.v (.bool r.2))]) [] [(1000, .row 57 4 (r.1.map Booking.enc))] := by
  unfold impl_BookWay at hM
  refine cn (N := 53) (pids := []) Try_mixed Try.func13 (by kernel_rfl) (by kernel_rfl) (by kernel_rfl) rfl fun ρ g w R => ?_
  obtain ⟨v1, h2, hM⟩ := bind_some hM
  rcases cond_cases hM with ⟨h3, hM⟩ | ⟨h3, hM⟩
  · obtain ⟨v4, h5, hM⟩ := bind_some hM
    have hE : some (v4, false) = some r := hM
    have hE := Option.some.inj hE
    subst hE
    exact pr R 9999 [.new 0, .call false [] (.o (.c (.v (.bool v1)))) [] [], .as 19 true, .call false [] (.o (.c (.sl 1))) [] [(1, .row 57 4 (v4.map Booking.enc))]] [.sw 1 1000] [] [1000] (And.intro (impl_AreBookings_ok a0 a1 v1 h2) (And.intro h3 (And.intro (And.intro (con_sw 1000 1 (impl_copyBookings_ok a1 v4 h5)) (rfl : ([] : List Nat) = [])) True.intro))) (by kernel_rfl)
  · rcases cond_cases hM with ⟨h6, hM⟩ | ⟨h6, hM⟩
    · obtain ⟨v7, h8, hM⟩ := bind_some hM
      have hE : some (v7, false) = some r := hM
      have hE := Option.some.inj hE
      subst hE
      exact pr R 9999 [.new 0, .call false [] (.o (.c (.v (.bool v1)))) [] [], .as 19 false, .ln (a4.length), .as 23 true, .call false [] (.o (.c (.sl 2))) [] [(2, .row 57 4 (v7.map Booking.enc))]] [.sw 2 1000] [] [1000] (And.intro (impl_AreBookings_ok a0 a1 v1 h2) (And.intro h3 (And.intro (lenm Trip.enc a4) (And.intro h6 (And.intro (And.intro (con_sw 1000 2 (impl_copyBookings_ok a1 v7 h8)) (rfl : ([] : List Nat) = [])) True.intro))))) (by kernel_rfl)
    · obtain ⟨v9, h10, hM⟩ := bind_some hM
      have K1 : ∀ (s13 : (List Booking)), impl_BookWay_L1_a a0 a1 s13 = some r → Gr R [.code (cAt Try.f13 [1, 1, 1, 1])] (⟨[(1, .o (.c (.rs 4 (a1.map Booking.enc)))), (5, .o (.c (.ptr 0 0))), (12, .o (.c (.ptr 4 0)))], [(0, .box 36 [.rs 6 (a0.Legs.map Leg.enc), .rs 1 (a0.Off.map encI), .v (.int .i64 a0.Change)]), (4, .box 31 [.sl 3]), (3, .row 57 4 (s13.map Booking.enc))]⟩) := by
        intro s13 hM
        unfold impl_BookWay_L1_a at hM
        obtain ⟨v14, h15, hM⟩ := bind_some hM
        obtain ⟨v16, h17, hM⟩ := bind_some hM
        rcases cond_cases hM with ⟨h18, hM⟩ | ⟨h18, hM⟩
        · obtain ⟨v19, h20, hM⟩ := bind_some hM
          have hE : some (v19, false) = some r := hM
          have hE := Option.some.inj hE
          subst hE
          exact pr R 9999 [.ad (.keep [1, 5, 12, 42, 43, 44] [4, 3, 0]), .call true [4, 3] (.tup []) [(4, .box 31 [.sl 3]), (3, .row 57 4 (v14.map Booking.enc))] [], .call false [] (.o (.c (.v (.bool v16)))) [] [], .as 49 true, .call false [] (.o (.c (.sl 5))) [] [(5, .row 57 4 (v19.map Booking.enc))]] [.sw 5 1000] [] [1000] (And.intro (And.intro (con_sw 920 3 (con_sw 900 4 (sort_SliceStable_at0sk_1lf41_ok s13 v14 h15))) (rfl : ([4, 3] : List Nat) = [4, 3])) (And.intro (impl_AreBookings_ok a0 v14 v16 h17) (And.intro h18 (And.intro (And.intro (con_sw 1000 5 (impl_copyBookings_ok a1 v19 h20)) (rfl : ([] : List Nat) = [])) True.intro)))) (by kernel_rfl)
        · have hE : some (v14, true) = some r := hM
          have hE := Option.some.inj hE
          subst hE
          exact pr R 9999 [.ad (.keep [1, 5, 12, 42, 43, 44] [4, 3, 0]), .call true [4, 3] (.tup []) [(4, .box 31 [.sl 3]), (3, .row 57 4 (v14.map Booking.enc))] [], .call false [] (.o (.c (.v (.bool v16)))) [] [], .as 49 false] [.sw 3 1000] [] [1000] (And.intro (And.intro (con_sw 920 3 (con_sw 900 4 (sort_SliceStable_at0sk_1lf41_ok s13 v14 h15))) (rfl : ([4, 3] : List Nat) = [4, 3])) (And.intro (impl_AreBookings_ok a0 v14 v16 h17) (And.intro h18 True.intro))) (by kernel_rfl)
      refine pc R 9999 [.new 0, .call false [] (.o (.c (.v (.bool v1)))) [] [], .as 19 false, .ln (a4.length), .as 23 false, .call false [] (.o (.c (.sl 3))) [] [(3, .row 57 4 (v9.map Booking.enc))], .new 4, .ln (a4.length)] [.keep [1, 2, 3, 5, 12, 28, 29, 30] [0, 4, 3]] (k' := [.code (.loop (cAt Try.f13 [1, 1, 1, 0, 1, 0, 0])), .blk 0, .code (cAt Try.f13 [1, 1, 1, 1])]) (S' := impl_BookWay_L1_S a0 a1 a2 a3 a4 (v9, 0)) (And.intro (impl_AreBookings_ok a0 a1 v1 h2) (And.intro h3 (And.intro (lenm Trip.enc a4) (And.intro h6 (And.intro (And.intro (con_sw 1000 3 (impl_copyBookings_ok a1 v9 h10)) (rfl : ([] : List Nat) = [])) (And.intro (lenm Trip.enc a4) True.intro)))))) (by kernel_rfl) ?_
      refine lq (impl_BookWay_L1_S a0 a1 a2 a3 a4) (body := impl_BookWay_L1 a2 a3 a4) (k := impl_BookWay_L1_k a0 a1) hM fun m1 s c1 hM hK1 => ?_
      obtain ⟨s11, s12⟩ := s
      have hM : impl_BookWay_L1_b a2 a3 a4 s11 s12 = some c1 := hM
      unfold impl_BookWay_L1_b at hM
      rcases cond_cases hM with ⟨h21, hM⟩ | ⟨h21, hM⟩
      · obtain ⟨v22, h23, hM⟩ := bind_some hM
        obtain ⟨v24, h25, hM⟩ := bind_some hM
        have hE : some (Ctl.next (v24, w64 (s12 + 1))) = some c1 := hM
        have hE := Option.some.inj hE
        subst hE
        exact pc R 9999 [.as 31 true, .ix (Trip.enc v22), .new 6, .new 7, .new 8, .nm (v24.map Booking.enc)] [.sw 8 3, .keep [1, 2, 3, 5, 12, 28, 29, 30] [0, 4, 3]] (And.intro h21 (And.intro (gi_map Trip.enc h23) (And.intro (ap_ok Booking.enc h25) True.intro))) (by kernel_rfl) (li (Sf := impl_BookWay_L1_S a0 a1 a2 a3 a4) (M := Mk (impl_BookWay_L1 a2 a3 a4) (impl_BookWay_L1_k a0 a1) r) (k := [.blk 0, .code (cAt Try.f13 [1, 1, 1, 1])]) (Nat.lt_succ_self m1) hK1)
      · have hE : some (Ctl.brk s11) = some c1 := hM
        have hE := Option.some.inj hE
        subst hE
        exact pc R 5 [.as 31 false] [.keep [1, 5, 12] [0, 4, 3]] (And.intro h21 True.intro) (by kernel_rfl) (K1 s11 hK1)

-- loop.example/g03014/impl.starts
def impl_starts (a0 : Network) (a1 : Trip) : Option Int :=
  (gi a0.Legs a1.Leg).bind fun v1 =>
  some (w64 ((w64 (a1.Day * 1440)) + v1.Start))
theorem impl_starts_ok (a0 : Network) (a1 : Trip) (r : Int) (hM : impl_starts a0 a1 = some r) :
    Con Try.prog 60 [.agg [.rs 6 (a0.Legs.map Leg.enc), .rs 1 (a0.Off.map encI), .v (.int .i64 a0.Change)], .c (.v (.agg (Trip.enc a1).toArray))] [] (.o (.c (.v (.int .i64 r)))) [] [] := by
  unfold impl_starts at hM
  refine cn (N := 16) (pids := []) Try_mixed Try.func60 (by kernel_rfl) (by kernel_rfl) (by kernel_rfl) rfl fun ρ g w R => ?_
  obtain ⟨v1, h2, hM⟩ := bind_some hM
  have hE : some (w64 ((w64 (a1.Day * 1440)) + v1.Start)) = some r := hM
  have hE := Option.some.inj hE
  subst hE
  exact pr R 9999 [.new 0, .new 1, .ix (Leg.enc v1)] [] [] [] (And.intro (gi_map Leg.enc h2) True.intro) (by kernel_rfl)

-- loop.example/g03014/impl.DropFrom
def impl_DropFrom_L1_b (a0 : Network) (a1 : (List Booking)) (a2 : Int) (a3 : Int) (s6 : (List Booking)) (s7 : Int) : Option (Ctl ((List Booking) × Int) (List Booking) (List Booking)) :=
  bif (decide (s7 < (a1.length : Int))) then
  (gi a1 s7).bind fun v10 =>
  bif (v10.Thing != a2) then
  (ap 32 s6 ([v10] : List Booking)).bind fun v13 =>
  some (.next (v13, w64 (s7 + 1)))
  else
  (impl_starts a0 v10.Trip).bind fun v15 =>
  bif (decide (v15 < a3)) then
  (ap 32 s6 ([v10] : List Booking)).bind fun v18 =>
  some (.next (v18, w64 (s7 + 1)))
  else
  some (.next (s6, w64 (s7 + 1)))
  else
  some (.brk s6)
def impl_DropFrom_L1 (a0 : Network) (a1 : (List Booking)) (a2 : Int) (a3 : Int) (s : (List Booking) × Int) : Option (Ctl ((List Booking) × Int) (List Booking) (List Booking)) := impl_DropFrom_L1_b a0 a1 a2 a3 s.1 s.2
def impl_DropFrom_L1_s (a0 : Network) (a1 : (List Booking)) (a2 : Int) (a3 : Int) (s6 : (List Booking)) (s7 : Int) : St := ⟨[(2, .o (.c (.v (.int .i64 a2)))), (3, .o (.c (.v (.int .i64 a3)))), (4, .o (.c (.ptr 0 0))), (9, .o (.c (.sl 2))), (19, .o (.c (.rs 4 (a1.map Booking.enc)))), (20, .o (.c (.v (.int .i64 (a1.length : Int))))), (21, .o (.c (.v (.int .i64 s7))))], [(0, .box 36 [.rs 6 (a0.Legs.map Leg.enc), .rs 1 (a0.Off.map encI), .v (.int .i64 a0.Change)]), (2, .row 57 4 (s6.map Booking.enc))]⟩
def impl_DropFrom_L1_S (a0 : Network) (a1 : (List Booking)) (a2 : Int) (a3 : Int) (s : (List Booking) × Int) : St := impl_DropFrom_L1_s a0 a1 a2 a3 s.1 s.2
def impl_DropFrom_L1_a (s8 : (List Booking)) : Option (List Booking) :=
  some s8
def impl_DropFrom_L1_k (x : ((List Booking)) ⊕ ((List Booking))) : Option (List Booking) := match x with
  | .inl t => impl_DropFrom_L1_a t
  | .inr y => some y
def impl_DropFrom (a0 : Network) (a1 : (List Booking)) (a2 : Int) (a3 : Int) : Option (List Booking) :=
  (impl_AreBookings a0 a1).bind fun v1 =>
  bif (!v1) then
  (impl_copyBookings a1).bind fun v4 =>
  some v4
  else
  (loopM (impl_DropFrom_L1 a0 a1 a2 a3) big (([] : List Booking), 0)).bind (impl_DropFrom_L1_k)
theorem impl_DropFrom_ok (a0 : Network) (a1 : (List Booking)) (a2 : Int) (a3 : Int) (r : (List Booking)) (hM : impl_DropFrom a0 a1 a2 a3 = some r) :
    Con Try.prog 24 [.agg [.rs 6 (a0.Legs.map Leg.enc), .rs 1 (a0.Off.map encI), .v (.int .i64 a0.Change)], .c (.rs 4 (a1.map Booking.enc)), .c (.v (.int .i64 a2)), .c (.v (.int .i64 a3))] [] (.o (.c (.sl 1000))) [] [(1000, .row 57 4 (r.map Booking.enc))] := by
  unfold impl_DropFrom at hM
  refine cn (N := 43) (pids := []) Try_mixed Try.func24 (by kernel_rfl) (by kernel_rfl) (by kernel_rfl) rfl fun ρ g w R => ?_
  obtain ⟨v1, h2, hM⟩ := bind_some hM
  rcases cond_cases hM with ⟨h3, hM⟩ | ⟨h3, hM⟩
  · obtain ⟨v4, h5, hM⟩ := bind_some hM
    have hE : some v4 = some r := hM
    have hE := Option.some.inj hE
    subst hE
    exact pr R 9999 [.new 0, .call false [] (.o (.c (.v (.bool v1)))) [] [], .as 15 true, .call false [] (.o (.c (.sl 1))) [] [(1, .row 57 4 (v4.map Booking.enc))]] [.sw 1 1000] [] [1000] (And.intro (impl_AreBookings_ok a0 a1 v1 h2) (And.intro h3 (And.intro (And.intro (con_sw 1000 1 (impl_copyBookings_ok a1 v4 h5)) (rfl : ([] : List Nat) = [])) True.intro))) (by kernel_rfl)
  · have K1 : ∀ (s8 : (List Booking)), impl_DropFrom_L1_a s8 = some r → Gr R [.code (cAt Try.f24 [1, 1, 1, 1])] (⟨[(9, .o (.c (.sl 2)))], [(2, .row 57 4 (s8.map Booking.enc))]⟩) := by
      intro s8 hM
      unfold impl_DropFrom_L1_a at hM
      have hE : some s8 = some r := hM
      have hE := Option.some.inj hE
      subst hE
      exact pr R 9999 [] [.sw 2 1000] [] [1000] True.intro (by kernel_rfl)
    refine pc R 9999 [.new 0, .call false [] (.o (.c (.v (.bool v1)))) [] [], .as 15 false, .new 2, .ln (a1.length)] [.keep [2, 3, 4, 9, 19, 20, 21] [0, 2]] (k' := [.code (.loop (cAt Try.f24 [1, 1, 1, 0, 1, 0, 0])), .blk 0, .code (cAt Try.f24 [1, 1, 1, 1])]) (S' := impl_DropFrom_L1_S a0 a1 a2 a3 (([] : List Booking), 0)) (And.intro (impl_AreBookings_ok a0 a1 v1 h2) (And.intro h3 (And.intro (lenm Booking.enc a1) True.intro))) (by kernel_rfl) ?_
    refine lq (impl_DropFrom_L1_S a0 a1 a2 a3) (body := impl_DropFrom_L1 a0 a1 a2 a3) (k := impl_DropFrom_L1_k) hM fun m1 s c1 hM hK1 => ?_
    obtain ⟨s6, s7⟩ := s
    have hM : impl_DropFrom_L1_b a0 a1 a2 a3 s6 s7 = some c1 := hM
    unfold impl_DropFrom_L1_b at hM
    rcases cond_cases hM with ⟨h9, hM⟩ | ⟨h9, hM⟩
    · obtain ⟨v10, h11, hM⟩ := bind_some hM
      rcases cond_cases hM with ⟨h12, hM⟩ | ⟨h12, hM⟩
      · obtain ⟨v13, h14, hM⟩ := bind_some hM
        have hE : some (Ctl.next (v13, w64 (s7 + 1))) = some c1 := hM
        have hE := Option.some.inj hE
        subst hE
        exact pc R 9999 [.as 22 true, .ix (Booking.enc v10), .new 3, .as 29 true, .new 4, .new 5, .nm (v13.map Booking.enc)] [.sw 5 2, .keep [2, 3, 4, 9, 19, 20, 21] [0, 2]] (And.intro h9 (And.intro (gi_map Booking.enc h11) (And.intro h12 (And.intro (ap_ok Booking.enc h14) True.intro)))) (by kernel_rfl) (li (Sf := impl_DropFrom_L1_S a0 a1 a2 a3) (M := Mk (impl_DropFrom_L1 a0 a1 a2 a3) (impl_DropFrom_L1_k) r) (k := [.blk 0, .code (cAt Try.f24 [1, 1, 1, 1])]) (Nat.lt_succ_self m1) hK1)
      · obtain ⟨v15, h16, hM⟩ := bind_some hM
        rcases cond_cases hM with ⟨h17, hM⟩ | ⟨h17, hM⟩
        · obtain ⟨v18, h19, hM⟩ := bind_some hM
          have hE : some (Ctl.next (v18, w64 (s7 + 1))) = some c1 := hM
          have hE := Option.some.inj hE
          subst hE
          exact pc R 9999 [.as 22 true, .ix (Booking.enc v10), .new 3, .as 29 false, .call false [] (.o (.c (.v (.int .i64 v15)))) [] [], .as 36 true, .new 6, .new 7, .nm (v18.map Booking.enc)] [.sw 7 2, .keep [2, 3, 4, 9, 19, 20, 21] [0, 2]] (And.intro h9 (And.intro (gi_map Booking.enc h11) (And.intro h12 (And.intro (impl_starts_ok a0 v10.Trip v15 h16) (And.intro h17 (And.intro (ap_ok Booking.enc h19) True.intro)))))) (by kernel_rfl) (li (Sf := impl_DropFrom_L1_S a0 a1 a2 a3) (M := Mk (impl_DropFrom_L1 a0 a1 a2 a3) (impl_DropFrom_L1_k) r) (k := [.blk 0, .code (cAt Try.f24 [1, 1, 1, 1])]) (Nat.lt_succ_self m1) hK1)
        · have hE : some (Ctl.next (s6, w64 (s7 + 1))) = some c1 := hM
          have hE := Option.some.inj hE
          subst hE
          exact pc R 9999 [.as 22 true, .ix (Booking.enc v10), .new 3, .as 29 false, .call false [] (.o (.c (.v (.int .i64 v15)))) [] [], .as 36 false] [.keep [2, 3, 4, 9, 19, 20, 21] [0, 2]] (And.intro h9 (And.intro (gi_map Booking.enc h11) (And.intro h12 (And.intro (impl_starts_ok a0 v10.Trip v15 h16) (And.intro h17 True.intro))))) (by kernel_rfl) (li (Sf := impl_DropFrom_L1_S a0 a1 a2 a3) (M := Mk (impl_DropFrom_L1 a0 a1 a2 a3) (impl_DropFrom_L1_k) r) (k := [.blk 0, .code (cAt Try.f24 [1, 1, 1, 1])]) (Nat.lt_succ_self m1) hK1)
    · have hE : some (Ctl.brk s6) = some c1 := hM
      have hE := Option.some.inj hE
      subst hE
      exact pc R 5 [.as 22 false] [.keep [9] [2]] (And.intro h9 True.intro) (by kernel_rfl) (K1 s6 hK1)

-- loop.example/g03014/laws.bookings
def laws_bookings_L1_b (a0 : (List Booking)) (a1 : (List Booking)) (s2 : Int) : Option (Ctl Int Unit Bool) :=
  bif (decide (s2 < (a0.length : Int))) then
  (gi a0 s2).bind fun v4 =>
  (gi a1 s2).bind fun v6 =>
  bif (!decide (v4 = v6)) then
  some (.ret false)
  else
  some (.next (w64 (s2 + 1)))
  else
  some (.brk ())
def laws_bookings_L1 (a0 : (List Booking)) (a1 : (List Booking)) (s : Int) : Option (Ctl Int Unit Bool) := laws_bookings_L1_b a0 a1 s
def laws_bookings_L1_s (a0 : (List Booking)) (a1 : (List Booking)) (s2 : Int) : St := ⟨[(0, .o (.c (.rs 4 (a0.map Booking.enc)))), (1, .o (.c (.rs 4 (a1.map Booking.enc)))), (5, .o (.c (.v (.int .i64 s2))))], []⟩
def laws_bookings_L1_S (a0 : (List Booking)) (a1 : (List Booking)) (s : Int) : St := laws_bookings_L1_s a0 a1 s
def laws_bookings_L1_a : Option Bool :=
  some true
def laws_bookings_L1_k (x : (Unit) ⊕ (Bool)) : Option Bool := match x with
  | .inl t => laws_bookings_L1_a
  | .inr y => some y
def laws_bookings (a0 : (List Booking)) (a1 : (List Booking)) : Option Bool :=
  bif ((a0.length : Int) != (a1.length : Int)) then
  some false
  else
  (loopM (laws_bookings_L1 a0 a1) big 0).bind (laws_bookings_L1_k)
theorem laws_bookings_ok (a0 : (List Booking)) (a1 : (List Booking)) (r : Bool) (hM : laws_bookings a0 a1 = some r) :
    Con Try.prog 25 [.c (.rs 4 (a0.map Booking.enc)), .c (.rs 4 (a1.map Booking.enc))] [] (.o (.c (.v (.bool r)))) [] [] := by
  unfold laws_bookings at hM
  refine cn (N := 26) (pids := []) Try_mixed Try.func25 (by kernel_rfl) (by kernel_rfl) (by kernel_rfl) rfl fun ρ g w R => ?_
  rcases cond_cases hM with ⟨h1, hM⟩ | ⟨h1, hM⟩
  · have hE : some false = some r := hM
    have hE := Option.some.inj hE
    subst hE
    exact pr R 9999 [.ln (a0.length), .ln (a1.length), .as 10 true] [] [] [] (And.intro (lenm Booking.enc a0) (And.intro (lenm Booking.enc a1) (And.intro h1 True.intro))) (by kernel_rfl)
  · have K1 : ∀ (_ : Unit), laws_bookings_L1_a = some r → Gr R [.code (cAt Try.f25 [1, 1, 1])] (⟨[], []⟩) := by
      intro _ hM
      unfold laws_bookings_L1_a at hM
      have hE : some true = some r := hM
      have hE := Option.some.inj hE
      subst hE
      exact pr R 9999 [] [] [] [] True.intro (by kernel_rfl)
    refine pc R 9999 [.ln (a0.length), .ln (a1.length), .as 10 false] [.keep [0, 1, 5] []] (k' := [.code (.loop (cAt Try.f25 [1, 1, 0, 1, 0, 0])), .blk 0, .code (cAt Try.f25 [1, 1, 1])]) (S' := laws_bookings_L1_S a0 a1 0) (And.intro (lenm Booking.enc a0) (And.intro (lenm Booking.enc a1) (And.intro h1 True.intro))) (by kernel_rfl) ?_
    refine lq (laws_bookings_L1_S a0 a1) (body := laws_bookings_L1 a0 a1) (k := laws_bookings_L1_k) hM fun m1 s c1 hM hK1 => ?_
    obtain ⟨s2, hs⟩ : ∃ z, z = s := ⟨_, rfl⟩
    subst hs
    have hM : laws_bookings_L1_b a0 a1 s2 = some c1 := hM
    unfold laws_bookings_L1_b at hM
    rcases cond_cases hM with ⟨h3, hM⟩ | ⟨h3, hM⟩
    · obtain ⟨v4, h5, hM⟩ := bind_some hM
      obtain ⟨v6, h7, hM⟩ := bind_some hM
      rcases cond_cases hM with ⟨h8, hM⟩ | ⟨h8, hM⟩
      · have hE : some (Ctl.ret false) = some c1 := hM
        have hE := Option.some.inj hE
        subst hE
        have hE : some false = some r := hK1
        have hE := Option.some.inj hE
        subst hE
        exact pr R 9999 [.ln (a0.length), .as 14 true, .ix (Booking.enc v4), .ix (Booking.enc v6), .run 25 (.bool (!decide (v4 = v6))), .as 25 true] [] [] [] (And.intro (lenm Booking.enc a0) (And.intro h3 (And.intro (gi_map Booking.enc h5) (And.intro (gi_map Booking.enc h7) (And.intro (Booking_neq57 v4 v6) (And.intro h8 True.intro)))))) (by kernel_rfl)
      · have hE : some (Ctl.next (w64 (s2 + 1))) = some c1 := hM
        have hE := Option.some.inj hE
        subst hE
        exact pc R 9999 [.ln (a0.length), .as 14 true, .ix (Booking.enc v4), .ix (Booking.enc v6), .run 25 (.bool (!decide (v4 = v6))), .as 25 false] [.keep [0, 1, 5] []] (And.intro (lenm Booking.enc a0) (And.intro h3 (And.intro (gi_map Booking.enc h5) (And.intro (gi_map Booking.enc h7) (And.intro (Booking_neq57 v4 v6) (And.intro h8 True.intro)))))) (by kernel_rfl) (li (Sf := laws_bookings_L1_S a0 a1) (M := Mk (laws_bookings_L1 a0 a1) (laws_bookings_L1_k) r) (k := [.blk 0, .code (cAt Try.f25 [1, 1, 1])]) (Nat.lt_succ_self m1) hK1)
    · have hE : some (Ctl.brk ()) = some c1 := hM
      have hE := Option.some.inj hE
      subst hE
      exact pc R 5 [.ln (a0.length), .as 14 false] [.keep [] []] (And.intro (lenm Booking.enc a0) (And.intro h3 True.intro)) (by kernel_rfl) (K1 () hK1)

-- loop.example/g03014/laws.FnDropped
def laws_FnDropped (a0 : (List Int)) : Option Bool :=
  (laws_big a0).bind fun v1 =>
  bif v1 then
  some true
  else
  (spec_DrawBookWay a0).bind fun v4 =>
  (impl_TripsOf v4.2.1 v4.2.2.1).bind fun v6 =>
  bif (decide ((v6.length : Int) > 0)) then
  some true
  else
  (impl_BookWay v4.1 v4.2.1 v4.2.2.1 v4.2.2.2.1 v4.2.2.2.2).bind fun v9 =>
  (spec_BookWay v4.1 v4.2.1 v4.2.2.1 v4.2.2.2.1 v4.2.2.2.2).bind fun v11 =>
  bif (!(v9.2 == v11.2)) then
  some false
  else
  (impl_DropFrom v4.1 v9.1 v4.2.2.1 0).bind fun v14 =>
  bif (!v9.2) then
  some true
  else
  (laws_bookings v14 v4.2.1).bind fun v17 =>
  bif v17 then
  (impl_TripsOf v9.1 v4.2.2.1).bind fun v20 =>
  some ((v20.length : Int) == (v4.2.2.2.2.length : Int))
  else
  some false
theorem laws_FnDropped_ok (a0 : (List Int)) (r : Bool) (hM : laws_FnDropped a0 = some r) :
    Con Try.prog 4 [.c (.rs 1 (a0.map encU8))] [] (.o (.c (.v (.bool r)))) [] [] := by
  unfold laws_FnDropped at hM
  refine cn (N := 69) (pids := []) Try_mixed Try.func4 (by kernel_rfl) (by kernel_rfl) (by kernel_rfl) rfl fun ρ g w R => ?_
  obtain ⟨v1, h2, hM⟩ := bind_some hM
  rcases cond_cases hM with ⟨h3, hM⟩ | ⟨h3, hM⟩
  · have hE : some true = some r := hM
    have hE := Option.some.inj hE
    subst hE
    exact pr R 9999 [.call false [] (.o (.c (.v (.bool v1)))) [] [], .as 14 true] [] [] [] (And.intro (laws_big_ok a0 v1 h2) (And.intro h3 True.intro)) (by kernel_rfl)
  · obtain ⟨v4, h5, hM⟩ := bind_some hM
    obtain ⟨v6, h7, hM⟩ := bind_some hM
    rcases cond_cases hM with ⟨h8, hM⟩ | ⟨h8, hM⟩
    · have hE : some true = some r := hM
      have hE := Option.some.inj hE
      subst hE
      exact pr R 9999 [.call false [] (.o (.c (.v (.bool v1)))) [] [], .as 14 false, .call false [] (.tup [.agg [.sl 0, .sl 1, .v (.int .i64 v4.1.Change)], .c (.sl 2), .c (.v (.int .i64 v4.2.2.1)), .c (.v (.int .i64 v4.2.2.2.1)), .c (.sl 3)]) [] [(0, .row 95 6 (v4.1.Legs.map Leg.enc)), (1, .row 3 1 (v4.1.Off.map encI)), (2, .row 57 4 (v4.2.1.map Booking.enc)), (3, .row 55 2 (v4.2.2.2.2.map Trip.enc))], .new 4, .call false [] (.o (.c (.sl 5))) [] [(5, .row 55 2 (v6.map Trip.enc))], .ln (v6.length), .as 27 true] [] [] [] (And.intro (laws_big_ok a0 v1 h2) (And.intro h3 (And.intro (And.intro (con_sw 1003 3 (con_sw 1002 2 (con_sw 1001 1 (con_sw 1000 0 (spec_DrawBookWay_ok a0 v4 h5))))) (rfl : ([] : List Nat) = [])) (And.intro (And.intro (con_sw 1000 5 (impl_TripsOf_ok v4.2.1 v4.2.2.1 v6 h7)) (rfl : ([] : List Nat) = [])) (And.intro (lenm Trip.enc v6) (And.intro h8 True.intro)))))) (by kernel_rfl)
    · obtain ⟨v9, h10, hM⟩ := bind_some hM
      obtain ⟨v11, h12, hM⟩ := bind_some hM
      rcases cond_cases hM with ⟨h13, hM⟩ | ⟨h13, hM⟩
      · have hE : some false = some r := hM
        have hE := Option.some.inj hE
        subst hE
        exact pr R 9999 [.call false [] (.o (.c (.v (.bool v1)))) [] [], .as 14 false, .call false [] (.tup [.agg [.sl 0, .sl 1, .v (.int .i64 v4.1.Change)], .c (.sl 2), .c (.v (.int .i64 v4.2.2.1)), .c (.v (.int .i64 v4.2.2.2.1)), .c (.sl 3)]) [] [(0, .row 95 6 (v4.1.Legs.map Leg.enc)), (1, .row 3 1 (v4.1.Off.map encI)), (2, .row 57 4 (v4.2.1.map Booking.enc)), (3, .row 55 2 (v4.2.2.2.2.map Trip.enc))], .new 4, .call false [] (.o (.c (.sl 5))) [] [(5, .row 55 2 (v6.map Trip.enc))], .ln (v6.length), .as 27 false, .call false [] (.tup [.c (.sl 6), .c (.v (.bool v9.2))]) [] [(6, .row 57 4 (v9.1.map Booking.enc))], .call false [] (.tup [.c (.sl 7), .c (.v (.bool v11.2))]) [] [(7, .row 57 4 (v11.1.map Booking.enc))], .as 48 true] [] [] [] (And.intro (laws_big_ok a0 v1 h2) (And.intro h3 (And.intro (And.intro (con_sw 1003 3 (con_sw 1002 2 (con_sw 1001 1 (con_sw 1000 0 (spec_DrawBookWay_ok a0 v4 h5))))) (rfl : ([] : List Nat) = [])) (And.intro (And.intro (con_sw 1000 5 (impl_TripsOf_ok v4.2.1 v4.2.2.1 v6 h7)) (rfl : ([] : List Nat) = [])) (And.intro (lenm Trip.enc v6) (And.intro h8 (And.intro (And.intro (con_sw 1000 6 (impl_BookWay_ok v4.1 v4.2.1 v4.2.2.1 v4.2.2.2.1 v4.2.2.2.2 v9 h10)) (rfl : ([] : List Nat) = [])) (And.intro (And.intro (con_sw 1000 7 (spec_BookWay_ok v4.1 v4.2.1 v4.2.2.1 v4.2.2.2.1 v4.2.2.2.2 v11 h12)) (rfl : ([] : List Nat) = [])) (And.intro h13 True.intro))))))))) (by kernel_rfl)
      · obtain ⟨v14, h15, hM⟩ := bind_some hM
        rcases cond_cases hM with ⟨h16, hM⟩ | ⟨h16, hM⟩
        · have hE : some true = some r := hM
          have hE := Option.some.inj hE
          subst hE
          exact pr R 9999 [.call false [] (.o (.c (.v (.bool v1)))) [] [], .as 14 false, .call false [] (.tup [.agg [.sl 0, .sl 1, .v (.int .i64 v4.1.Change)], .c (.sl 2), .c (.v (.int .i64 v4.2.2.1)), .c (.v (.int .i64 v4.2.2.2.1)), .c (.sl 3)]) [] [(0, .row 95 6 (v4.1.Legs.map Leg.enc)), (1, .row 3 1 (v4.1.Off.map encI)), (2, .row 57 4 (v4.2.1.map Booking.enc)), (3, .row 55 2 (v4.2.2.2.2.map Trip.enc))], .new 4, .call false [] (.o (.c (.sl 5))) [] [(5, .row 55 2 (v6.map Trip.enc))], .ln (v6.length), .as 27 false, .call false [] (.tup [.c (.sl 6), .c (.v (.bool v9.2))]) [] [(6, .row 57 4 (v9.1.map Booking.enc))], .call false [] (.tup [.c (.sl 7), .c (.v (.bool v11.2))]) [] [(7, .row 57 4 (v11.1.map Booking.enc))], .as 48 false, .call false [] (.o (.c (.sl 8))) [] [(8, .row 57 4 (v14.map Booking.enc))], .as 55 true] [] [] [] (And.intro (laws_big_ok a0 v1 h2) (And.intro h3 (And.intro (And.intro (con_sw 1003 3 (con_sw 1002 2 (con_sw 1001 1 (con_sw 1000 0 (spec_DrawBookWay_ok a0 v4 h5))))) (rfl : ([] : List Nat) = [])) (And.intro (And.intro (con_sw 1000 5 (impl_TripsOf_ok v4.2.1 v4.2.2.1 v6 h7)) (rfl : ([] : List Nat) = [])) (And.intro (lenm Trip.enc v6) (And.intro h8 (And.intro (And.intro (con_sw 1000 6 (impl_BookWay_ok v4.1 v4.2.1 v4.2.2.1 v4.2.2.2.1 v4.2.2.2.2 v9 h10)) (rfl : ([] : List Nat) = [])) (And.intro (And.intro (con_sw 1000 7 (spec_BookWay_ok v4.1 v4.2.1 v4.2.2.1 v4.2.2.2.1 v4.2.2.2.2 v11 h12)) (rfl : ([] : List Nat) = [])) (And.intro h13 (And.intro (And.intro (con_sw 1000 8 (impl_DropFrom_ok v4.1 v9.1 v4.2.2.1 0 v14 h15)) (rfl : ([] : List Nat) = [])) (And.intro h16 True.intro))))))))))) (by kernel_rfl)
        · obtain ⟨v17, h18, hM⟩ := bind_some hM
          rcases cond_cases hM with ⟨h19, hM⟩ | ⟨h19, hM⟩
          · obtain ⟨v20, h21, hM⟩ := bind_some hM
            have hE : some ((v20.length : Int) == (v4.2.2.2.2.length : Int)) = some r := hM
            have hE := Option.some.inj hE
            subst hE
            exact pr R 9999 [.call false [] (.o (.c (.v (.bool v1)))) [] [], .as 14 false, .call false [] (.tup [.agg [.sl 0, .sl 1, .v (.int .i64 v4.1.Change)], .c (.sl 2), .c (.v (.int .i64 v4.2.2.1)), .c (.v (.int .i64 v4.2.2.2.1)), .c (.sl 3)]) [] [(0, .row 95 6 (v4.1.Legs.map Leg.enc)), (1, .row 3 1 (v4.1.Off.map encI)), (2, .row 57 4 (v4.2.1.map Booking.enc)), (3, .row 55 2 (v4.2.2.2.2.map Trip.enc))], .new 4, .call false [] (.o (.c (.sl 5))) [] [(5, .row 55 2 (v6.map Trip.enc))], .ln (v6.length), .as 27 false, .call false [] (.tup [.c (.sl 6), .c (.v (.bool v9.2))]) [] [(6, .row 57 4 (v9.1.map Booking.enc))], .call false [] (.tup [.c (.sl 7), .c (.v (.bool v11.2))]) [] [(7, .row 57 4 (v11.1.map Booking.enc))], .as 48 false, .call false [] (.o (.c (.sl 8))) [] [(8, .row 57 4 (v14.map Booking.enc))], .as 55 false, .call false [] (.o (.c (.v (.bool v17)))) [] [], .as 59 true, .call false [] (.o (.c (.sl 9))) [] [(9, .row 55 2 (v20.map Trip.enc))], .ln (v20.length), .ln (v4.2.2.2.2.length)] [] [] [] (And.intro (laws_big_ok a0 v1 h2) (And.intro h3 (And.intro (And.intro (con_sw 1003 3 (con_sw 1002 2 (con_sw 1001 1 (con_sw 1000 0 (spec_DrawBookWay_ok a0 v4 h5))))) (rfl : ([] : List Nat) = [])) (And.intro (And.intro (con_sw 1000 5 (impl_TripsOf_ok v4.2.1 v4.2.2.1 v6 h7)) (rfl : ([] : List Nat) = [])) (And.intro (lenm Trip.enc v6) (And.intro h8 (And.intro (And.intro (con_sw 1000 6 (impl_BookWay_ok v4.1 v4.2.1 v4.2.2.1 v4.2.2.2.1 v4.2.2.2.2 v9 h10)) (rfl : ([] : List Nat) = [])) (And.intro (And.intro (con_sw 1000 7 (spec_BookWay_ok v4.1 v4.2.1 v4.2.2.1 v4.2.2.2.1 v4.2.2.2.2 v11 h12)) (rfl : ([] : List Nat) = [])) (And.intro h13 (And.intro (And.intro (con_sw 1000 8 (impl_DropFrom_ok v4.1 v9.1 v4.2.2.1 0 v14 h15)) (rfl : ([] : List Nat) = [])) (And.intro h16 (And.intro (laws_bookings_ok v14 v4.2.1 v17 h18) (And.intro h19 (And.intro (And.intro (con_sw 1000 9 (impl_TripsOf_ok v9.1 v4.2.2.1 v20 h21)) (rfl : ([] : List Nat) = [])) (And.intro (lenm Trip.enc v20) (And.intro (lenm Trip.enc v4.2.2.2.2) True.intro)))))))))))))))) (by kernel_rfl)
          · have hE : some false = some r := hM
            have hE := Option.some.inj hE
            subst hE
            exact pr R 9999 [.call false [] (.o (.c (.v (.bool v1)))) [] [], .as 14 false, .call false [] (.tup [.agg [.sl 0, .sl 1, .v (.int .i64 v4.1.Change)], .c (.sl 2), .c (.v (.int .i64 v4.2.2.1)), .c (.v (.int .i64 v4.2.2.2.1)), .c (.sl 3)]) [] [(0, .row 95 6 (v4.1.Legs.map Leg.enc)), (1, .row 3 1 (v4.1.Off.map encI)), (2, .row 57 4 (v4.2.1.map Booking.enc)), (3, .row 55 2 (v4.2.2.2.2.map Trip.enc))], .new 4, .call false [] (.o (.c (.sl 5))) [] [(5, .row 55 2 (v6.map Trip.enc))], .ln (v6.length), .as 27 false, .call false [] (.tup [.c (.sl 6), .c (.v (.bool v9.2))]) [] [(6, .row 57 4 (v9.1.map Booking.enc))], .call false [] (.tup [.c (.sl 7), .c (.v (.bool v11.2))]) [] [(7, .row 57 4 (v11.1.map Booking.enc))], .as 48 false, .call false [] (.o (.c (.sl 8))) [] [(8, .row 57 4 (v14.map Booking.enc))], .as 55 false, .call false [] (.o (.c (.v (.bool v17)))) [] [], .as 59 false] [] [] [] (And.intro (laws_big_ok a0 v1 h2) (And.intro h3 (And.intro (And.intro (con_sw 1003 3 (con_sw 1002 2 (con_sw 1001 1 (con_sw 1000 0 (spec_DrawBookWay_ok a0 v4 h5))))) (rfl : ([] : List Nat) = [])) (And.intro (And.intro (con_sw 1000 5 (impl_TripsOf_ok v4.2.1 v4.2.2.1 v6 h7)) (rfl : ([] : List Nat) = [])) (And.intro (lenm Trip.enc v6) (And.intro h8 (And.intro (And.intro (con_sw 1000 6 (impl_BookWay_ok v4.1 v4.2.1 v4.2.2.1 v4.2.2.2.1 v4.2.2.2.2 v9 h10)) (rfl : ([] : List Nat) = [])) (And.intro (And.intro (con_sw 1000 7 (spec_BookWay_ok v4.1 v4.2.1 v4.2.2.1 v4.2.2.2.1 v4.2.2.2.2 v11 h12)) (rfl : ([] : List Nat) = [])) (And.intro h13 (And.intro (And.intro (con_sw 1000 8 (impl_DropFrom_ok v4.1 v9.1 v4.2.2.1 0 v14 h15)) (rfl : ([] : List Nat) = [])) (And.intro h16 (And.intro (laws_bookings_ok v14 v4.2.1 v17 h18) (And.intro h19 True.intro))))))))))))) (by kernel_rfl)

-- loop.example/g03014/laws.rides
def laws_rides_L1_b (a0 : (List Trip)) (a1 : Trip) (s1 : Int) : Option (Ctl Int Unit Bool) :=
  bif (decide (s1 < (a0.length : Int))) then
  (gi a0 s1).bind fun v3 =>
  bif (decide (v3 = a1)) then
  some (.ret true)
  else
  some (.next (w64 (s1 + 1)))
  else
  some (.brk ())
def laws_rides_L1 (a0 : (List Trip)) (a1 : Trip) (s : Int) : Option (Ctl Int Unit Bool) := laws_rides_L1_b a0 a1 s
def laws_rides_L1_s (a0 : (List Trip)) (a1 : Trip) (s1 : Int) : St := ⟨[(0, .o (.c (.rs 2 (a0.map Trip.enc)))), (3, .o (.c (.ptr 0 0))), (5, .o (.c (.v (.int .i64 s1))))], [(0, .box 55 [.v (.int .i64 a1.Leg), .v (.int .i64 a1.Day)])]⟩
def laws_rides_L1_S (a0 : (List Trip)) (a1 : Trip) (s : Int) : St := laws_rides_L1_s a0 a1 s
def laws_rides_L1_a : Option Bool :=
  some false
def laws_rides_L1_k (x : (Unit) ⊕ (Bool)) : Option Bool := match x with
  | .inl t => laws_rides_L1_a
  | .inr y => some y
def laws_rides (a0 : (List Trip)) (a1 : Trip) : Option Bool :=
  (loopM (laws_rides_L1 a0 a1) big 0).bind (laws_rides_L1_k)
theorem laws_rides_ok (a0 : (List Trip)) (a1 : Trip) (r : Bool) (hM : laws_rides a0 a1 = some r) :
    Con Try.prog 26 [.c (.rs 2 (a0.map Trip.enc)), .c (.v (.agg (Trip.enc a1).toArray))] [] (.o (.c (.v (.bool r)))) [] [] := by
  unfold laws_rides at hM
  refine cn (N := 18) (pids := []) Try_mixed Try.func26 (by kernel_rfl) (by kernel_rfl) (by kernel_rfl) rfl fun ρ g w R => ?_
  have K1 : ∀ (_ : Unit), laws_rides_L1_a = some r → Gr R [.code (cAt Try.f26 [1, 1])] (⟨[], []⟩) := by
    intro _ hM
    unfold laws_rides_L1_a at hM
    have hE : some false = some r := hM
    have hE := Option.some.inj hE
    subst hE
    exact pr R 9999 [] [] [] [] True.intro (by kernel_rfl)
  refine pc R 9999 [.new 0] [.keep [0, 3, 5] [0]] (k' := [.code (.loop (cAt Try.f26 [1, 0, 1, 0, 0])), .blk 0, .code (cAt Try.f26 [1, 1])]) (S' := laws_rides_L1_S a0 a1 0) True.intro (by kernel_rfl) ?_
  refine lq (laws_rides_L1_S a0 a1) (body := laws_rides_L1 a0 a1) (k := laws_rides_L1_k) hM fun m1 s c1 hM hK1 => ?_
  obtain ⟨s1, hs⟩ : ∃ z, z = s := ⟨_, rfl⟩
  subst hs
  have hM : laws_rides_L1_b a0 a1 s1 = some c1 := hM
  unfold laws_rides_L1_b at hM
  rcases cond_cases hM with ⟨h2, hM⟩ | ⟨h2, hM⟩
  · obtain ⟨v3, h4, hM⟩ := bind_some hM
    rcases cond_cases hM with ⟨h5, hM⟩ | ⟨h5, hM⟩
    · have hE : some (Ctl.ret true) = some c1 := hM
      have hE := Option.some.inj hE
      subst hE
      have hE : some true = some r := hK1
      have hE := Option.some.inj hE
      subst hE
      exact pr R 9999 [.ln (a0.length), .as 9 true, .ix (Trip.enc v3), .run 17 (.bool (decide (v3 = a1))), .as 17 true] [] [] [] (And.intro (lenm Trip.enc a0) (And.intro h2 (And.intro (gi_map Trip.enc h4) (And.intro (Trip_eql55 v3 a1) (And.intro h5 True.intro))))) (by kernel_rfl)
    · have hE : some (Ctl.next (w64 (s1 + 1))) = some c1 := hM
      have hE := Option.some.inj hE
      subst hE
      exact pc R 9999 [.ln (a0.length), .as 9 true, .ix (Trip.enc v3), .run 17 (.bool (decide (v3 = a1))), .as 17 false] [.keep [0, 3, 5] [0]] (And.intro (lenm Trip.enc a0) (And.intro h2 (And.intro (gi_map Trip.enc h4) (And.intro (Trip_eql55 v3 a1) (And.intro h5 True.intro))))) (by kernel_rfl) (li (Sf := laws_rides_L1_S a0 a1) (M := Mk (laws_rides_L1 a0 a1) (laws_rides_L1_k) r) (k := [.blk 0, .code (cAt Try.f26 [1, 1])]) (Nat.lt_succ_self m1) hK1)
  · have hE : some (Ctl.brk ()) = some c1 := hM
    have hE := Option.some.inj hE
    subst hE
    exact pc R 5 [.ln (a0.length), .as 9 false] [.keep [] []] (And.intro (lenm Trip.enc a0) (And.intro h2 True.intro)) (by kernel_rfl) (K1 () hK1)

-- loop.example/g03014/impl.SpareOn
def impl_SpareOn (a0 : Network) (a1 : (List Booking)) (a2 : Trip) : Option Int :=
  (impl_AreBookings a0 a1).bind fun v1 =>
  bif (!v1) then
  some (-1)
  else
  (impl_IsTrip a0 a2).bind fun v4 =>
  bif (!v4) then
  some (-1)
  else
  (gi a0.Legs a2.Leg).bind fun v7 =>
  (impl_LoadOf a1 a2).bind fun v9 =>
  some (w64 (v7.Room - v9))
theorem impl_SpareOn_ok (a0 : Network) (a1 : (List Booking)) (a2 : Trip) (r : Int) (hM : impl_SpareOn a0 a1 a2 = some r) :
    Con Try.prog 27 [.agg [.rs 6 (a0.Legs.map Leg.enc), .rs 1 (a0.Off.map encI), .v (.int .i64 a0.Change)], .c (.rs 4 (a1.map Booking.enc)), .c (.v (.agg (Trip.enc a2).toArray))] [] (.o (.c (.v (.int .i64 r)))) [] [] := by
  unfold impl_SpareOn at hM
  refine cn (N := 28) (pids := []) Try_mixed Try.func27 (by kernel_rfl) (by kernel_rfl) (by kernel_rfl) rfl fun ρ g w R => ?_
  obtain ⟨v1, h2, hM⟩ := bind_some hM
  rcases cond_cases hM with ⟨h3, hM⟩ | ⟨h3, hM⟩
  · have hE : some (-1) = some r := hM
    have hE := Option.some.inj hE
    subst hE
    exact pr R 9999 [.new 0, .new 1, .call false [] (.o (.c (.v (.bool v1)))) [] [], .as 11 true] [] [] [] (And.intro (impl_AreBookings_ok a0 a1 v1 h2) (And.intro h3 True.intro)) (by kernel_rfl)
  · obtain ⟨v4, h5, hM⟩ := bind_some hM
    rcases cond_cases hM with ⟨h6, hM⟩ | ⟨h6, hM⟩
    · have hE : some (-1) = some r := hM
      have hE := Option.some.inj hE
      subst hE
      exact pr R 9999 [.new 0, .new 1, .call false [] (.o (.c (.v (.bool v1)))) [] [], .as 11 false, .call false [] (.o (.c (.v (.bool v4)))) [] [], .as 16 true] [] [] [] (And.intro (impl_AreBookings_ok a0 a1 v1 h2) (And.intro h3 (And.intro (impl_IsTrip_ok a0 a2 v4 h5) (And.intro h6 True.intro)))) (by kernel_rfl)
    · obtain ⟨v7, h8, hM⟩ := bind_some hM
      obtain ⟨v9, h10, hM⟩ := bind_some hM
      have hE : some (w64 (v7.Room - v9)) = some r := hM
      have hE := Option.some.inj hE
      subst hE
      exact pr R 9999 [.new 0, .new 1, .call false [] (.o (.c (.v (.bool v1)))) [] [], .as 11 false, .call false [] (.o (.c (.v (.bool v4)))) [] [], .as 16 false, .ix (Leg.enc v7), .call false [] (.o (.c (.v (.int .i64 v9)))) [] []] [] [] [] (And.intro (impl_AreBookings_ok a0 a1 v1 h2) (And.intro h3 (And.intro (impl_IsTrip_ok a0 a2 v4 h5) (And.intro h6 (And.intro (gi_map Leg.enc h8) (And.intro (impl_LoadOf_ok a1 a2 v9 h10) True.intro)))))) (by kernel_rfl)

-- loop.example/g03014/impl.FillOf
def impl_FillOf (a0 : Network) (a1 : (List Booking)) (a2 : Trip) : Option Int :=
  (impl_AreBookings a0 a1).bind fun v1 =>
  bif (!v1) then
  some (-1)
  else
  (impl_IsTrip a0 a2).bind fun v4 =>
  bif (!v4) then
  some (-1)
  else
  (gi a0.Legs a2.Leg).bind fun v7 =>
  bif (v7.Room == 0) then
  some 0
  else
  (impl_LoadOf a1 a2).bind fun v10 =>
  (gi a0.Legs a2.Leg).bind fun v12 =>
  (qM (w64 (100 * v10)) v12.Room).bind fun v14 =>
  some v14
theorem impl_FillOf_ok (a0 : Network) (a1 : (List Booking)) (a2 : Trip) (r : Int) (hM : impl_FillOf a0 a1 a2 = some r) :
    Con Try.prog 28 [.agg [.rs 6 (a0.Legs.map Leg.enc), .rs 1 (a0.Off.map encI), .v (.int .i64 a0.Change)], .c (.rs 4 (a1.map Booking.enc)), .c (.v (.agg (Trip.enc a2).toArray))] [] (.o (.c (.v (.int .i64 r)))) [] [] := by
  unfold impl_FillOf at hM
  refine cn (N := 37) (pids := []) Try_mixed Try.func28 (by kernel_rfl) (by kernel_rfl) (by kernel_rfl) rfl fun ρ g w R => ?_
  obtain ⟨v1, h2, hM⟩ := bind_some hM
  rcases cond_cases hM with ⟨h3, hM⟩ | ⟨h3, hM⟩
  · have hE : some (-1) = some r := hM
    have hE := Option.some.inj hE
    subst hE
    exact pr R 9999 [.new 0, .new 1, .call false [] (.o (.c (.v (.bool v1)))) [] [], .as 11 true] [] [] [] (And.intro (impl_AreBookings_ok a0 a1 v1 h2) (And.intro h3 True.intro)) (by kernel_rfl)
  · obtain ⟨v4, h5, hM⟩ := bind_some hM
    rcases cond_cases hM with ⟨h6, hM⟩ | ⟨h6, hM⟩
    · have hE : some (-1) = some r := hM
      have hE := Option.some.inj hE
      subst hE
      exact pr R 9999 [.new 0, .new 1, .call false [] (.o (.c (.v (.bool v1)))) [] [], .as 11 false, .call false [] (.o (.c (.v (.bool v4)))) [] [], .as 16 true] [] [] [] (And.intro (impl_AreBookings_ok a0 a1 v1 h2) (And.intro h3 (And.intro (impl_IsTrip_ok a0 a2 v4 h5) (And.intro h6 True.intro)))) (by kernel_rfl)
    · obtain ⟨v7, h8, hM⟩ := bind_some hM
      rcases cond_cases hM with ⟨h9, hM⟩ | ⟨h9, hM⟩
      · have hE : some 0 = some r := hM
        have hE := Option.some.inj hE
        subst hE
        exact pr R 9999 [.new 0, .new 1, .call false [] (.o (.c (.v (.bool v1)))) [] [], .as 11 false, .call false [] (.o (.c (.v (.bool v4)))) [] [], .as 16 false, .ix (Leg.enc v7), .as 24 true] [] [] [] (And.intro (impl_AreBookings_ok a0 a1 v1 h2) (And.intro h3 (And.intro (impl_IsTrip_ok a0 a2 v4 h5) (And.intro h6 (And.intro (gi_map Leg.enc h8) (And.intro h9 True.intro)))))) (by kernel_rfl)
      · obtain ⟨v10, h11, hM⟩ := bind_some hM
        obtain ⟨v12, h13, hM⟩ := bind_some hM
        obtain ⟨v14, h15, hM⟩ := bind_some hM
        have hE : some v14 = some r := hM
        have hE := Option.some.inj hE
        subst hE
        exact pr R 9999 [.new 0, .new 1, .call false [] (.o (.c (.v (.bool v1)))) [] [], .as 11 false, .call false [] (.o (.c (.v (.bool v4)))) [] [], .as 16 false, .ix (Leg.enc v7), .as 24 false, .call false [] (.o (.c (.v (.int .i64 v10)))) [] [], .ix (Leg.enc v12), .run 36 (.int .i64 v14)] [] [] [] (And.intro (impl_AreBookings_ok a0 a1 v1 h2) (And.intro h3 (And.intro (impl_IsTrip_ok a0 a2 v4 h5) (And.intro h6 (And.intro (gi_map Leg.enc h8) (And.intro h9 (And.intro (impl_LoadOf_ok a1 a2 v10 h11) (And.intro (gi_map Leg.enc h13) (And.intro (qM_run (P := Try.prog) (t := 3) (x := .tmp 0) (y := .tmp 0) h15) True.intro))))))))) (by kernel_rfl)

-- loop.example/g03014/laws.FnBooked
def laws_FnBooked_j1 (v4 : (Network × (List Booking) × Int × Int × (List Trip))) (v6 : ((List Booking) × Bool)) (s11 : Int) (v16 : Booking) (s20 : Int) : Option (Ctl Int Unit Bool) :=
  (impl_SpareOn v4.1 v6.1 v16.Trip).bind fun v21 =>
  (impl_SpareOn v4.1 v4.2.1 v16.Trip).bind fun v23 =>
  bif (v21 != (w64 (v23 - s20))) then
  some (.ret false)
  else
  (impl_SpareOn v4.1 v6.1 v16.Trip).bind fun v26 =>
  bif (decide (v26 < 0)) then
  some (.ret false)
  else
  (impl_FillOf v4.1 v6.1 v16.Trip).bind fun v29 =>
  bif (decide (v29 > 100)) then
  some (.ret false)
  else
  some (.next (w64 (s11 + 1)))
def laws_FnBooked_L1_b (v4 : (Network × (List Booking) × Int × Int × (List Trip))) (v6 : ((List Booking) × Bool)) (s11 : Int) : Option (Ctl Int Unit Bool) :=
  bif (decide (s11 < (v6.1.length : Int))) then
  (gi v6.1 s11).bind fun v16 =>
  (laws_rides v4.2.2.2.2 v16.Trip).bind fun v18 =>
  bif v18 then
  laws_FnBooked_j1 v4 v6 s11 v16 v4.2.2.2.1
  else
  laws_FnBooked_j1 v4 v6 s11 v16 0
  else
  some (.brk ())
def laws_FnBooked_L1 (v4 : (Network × (List Booking) × Int × Int × (List Trip))) (v6 : ((List Booking) × Bool)) (s : Int) : Option (Ctl Int Unit Bool) := laws_FnBooked_L1_b v4 v6 s
def laws_FnBooked_L1_s (v4 : (Network × (List Booking) × Int × Int × (List Trip))) (v6 : ((List Booking) × Bool)) (s11 : Int) : St := ⟨[(3, .o (.c (.ptr 4 0))), (4, .o (.c (.sl 2))), (6, .o (.c (.v (.int .i64 v4.2.2.2.1)))), (7, .o (.c (.sl 3))), (8, .o (.c (.sl 5))), (10, .o (.c (.v (.int .i64 s11))))], [(4, .box 36 [.sl 0, .sl 1, .v (.int .i64 v4.1.Change)]), (0, .row 95 6 (v4.1.Legs.map Leg.enc)), (1, .row 3 1 (v4.1.Off.map encI)), (2, .row 57 4 (v4.2.1.map Booking.enc)), (3, .row 55 2 (v4.2.2.2.2.map Trip.enc)), (5, .row 57 4 (v6.1.map Booking.enc))]⟩
def laws_FnBooked_L1_S (v4 : (Network × (List Booking) × Int × Int × (List Trip))) (v6 : ((List Booking) × Bool)) (s : Int) : St := laws_FnBooked_L1_s v4 v6 s
def laws_FnBooked_L1_a (v4 : (Network × (List Booking) × Int × Int × (List Trip))) (v6 : ((List Booking) × Bool)) : Option Bool :=
  (impl_AreBookings v4.1 v6.1).bind fun v12 =>
  bif v12 then
  some ((v6.1.length : Int) == (w64 ((v4.2.1.length : Int) + (v4.2.2.2.2.length : Int))))
  else
  some false
def laws_FnBooked_L1_k (v4 : (Network × (List Booking) × Int × Int × (List Trip))) (v6 : ((List Booking) × Bool)) (x : (Unit) ⊕ (Bool)) : Option Bool := match x with
  | .inl t => laws_FnBooked_L1_a v4 v6
  | .inr y => some y
def laws_FnBooked (a0 : (List Int)) : Option Bool :=
  (laws_big a0).bind fun v1 =>
  bif v1 then
  some true
  else
  (spec_DrawBookWay a0).bind fun v4 =>
  (impl_BookWay v4.1 v4.2.1 v4.2.2.1 v4.2.2.2.1 v4.2.2.2.2).bind fun v6 =>
  bif (!v6.2) then
  (laws_bookings v6.1 v4.2.1).bind fun v9 =>
  some v9
  else
  (loopM (laws_FnBooked_L1 v4 v6) big 0).bind (laws_FnBooked_L1_k v4 v6)
theorem laws_FnBooked_ok (a0 : (List Int)) (r : Bool) (hM : laws_FnBooked a0 = some r) :
    Con Try.prog 5 [.c (.rs 1 (a0.map encU8))] [] (.o (.c (.v (.bool r)))) [] [] := by
  unfold laws_FnBooked at hM
  refine cn (N := 90) (pids := []) Try_mixed Try.func5 (by kernel_rfl) (by kernel_rfl) (by kernel_rfl) rfl fun ρ g w R => ?_
  obtain ⟨v1, h2, hM⟩ := bind_some hM
  rcases cond_cases hM with ⟨h3, hM⟩ | ⟨h3, hM⟩
  · have hE : some true = some r := hM
    have hE := Option.some.inj hE
    subst hE
    exact pr R 9999 [.call false [] (.o (.c (.v (.bool v1)))) [] [], .as 14 true] [] [] [] (And.intro (laws_big_ok a0 v1 h2) (And.intro h3 True.intro)) (by kernel_rfl)
  · obtain ⟨v4, h5, hM⟩ := bind_some hM
    obtain ⟨v6, h7, hM⟩ := bind_some hM
    rcases cond_cases hM with ⟨h8, hM⟩ | ⟨h8, hM⟩
    · obtain ⟨v9, h10, hM⟩ := bind_some hM
      have hE : some v9 = some r := hM
      have hE := Option.some.inj hE
      subst hE
      exact pr R 9999 [.call false [] (.o (.c (.v (.bool v1)))) [] [], .as 14 false, .call false [] (.tup [.agg [.sl 0, .sl 1, .v (.int .i64 v4.1.Change)], .c (.sl 2), .c (.v (.int .i64 v4.2.2.1)), .c (.v (.int .i64 v4.2.2.2.1)), .c (.sl 3)]) [] [(0, .row 95 6 (v4.1.Legs.map Leg.enc)), (1, .row 3 1 (v4.1.Off.map encI)), (2, .row 57 4 (v4.2.1.map Booking.enc)), (3, .row 55 2 (v4.2.2.2.2.map Trip.enc))], .new 4, .call false [] (.tup [.c (.sl 5), .c (.v (.bool v6.2))]) [] [(5, .row 57 4 (v6.1.map Booking.enc))], .as 33 true, .call false [] (.o (.c (.v (.bool v9)))) [] []] [] [] [] (And.intro (laws_big_ok a0 v1 h2) (And.intro h3 (And.intro (And.intro (con_sw 1003 3 (con_sw 1002 2 (con_sw 1001 1 (con_sw 1000 0 (spec_DrawBookWay_ok a0 v4 h5))))) (rfl : ([] : List Nat) = [])) (And.intro (And.intro (con_sw 1000 5 (impl_BookWay_ok v4.1 v4.2.1 v4.2.2.1 v4.2.2.2.1 v4.2.2.2.2 v6 h7)) (rfl : ([] : List Nat) = [])) (And.intro h8 (And.intro (laws_bookings_ok v6.1 v4.2.1 v9 h10) True.intro)))))) (by kernel_rfl)
    · have K1 : ∀ (_ : Unit), laws_FnBooked_L1_a v4 v6 = some r → Gr R [.code (cAt Try.f5 [1, 1, 1, 1, 1, 1])] (⟨[(3, .o (.c (.ptr 4 0))), (4, .o (.c (.sl 2))), (7, .o (.c (.sl 3))), (8, .o (.c (.sl 5)))], [(4, .box 36 [.sl 0, .sl 1, .v (.int .i64 v4.1.Change)]), (0, .row 95 6 (v4.1.Legs.map Leg.enc)), (1, .row 3 1 (v4.1.Off.map encI)), (2, .row 57 4 (v4.2.1.map Booking.enc)), (3, .row 55 2 (v4.2.2.2.2.map Trip.enc)), (5, .row 57 4 (v6.1.map Booking.enc))]⟩) := by
        intro _ hM
        unfold laws_FnBooked_L1_a at hM
        obtain ⟨v12, h13, hM⟩ := bind_some hM
        rcases cond_cases hM with ⟨h14, hM⟩ | ⟨h14, hM⟩
        · have hE : some ((v6.1.length : Int) == (w64 ((v4.2.1.length : Int) + (v4.2.2.2.2.length : Int)))) = some r := hM
          have hE := Option.some.inj hE
          subst hE
          exact pr R 9999 [.call false [] (.o (.c (.v (.bool v12)))) [] [], .as 80 true, .ln (v6.1.length), .ln (v4.2.1.length), .ln (v4.2.2.2.2.length)] [] [] [] (And.intro (impl_AreBookings_ok v4.1 v6.1 v12 h13) (And.intro h14 (And.intro (lenm Booking.enc v6.1) (And.intro (lenm Booking.enc v4.2.1) (And.intro (lenm Trip.enc v4.2.2.2.2) True.intro))))) (by kernel_rfl)
        · have hE : some false = some r := hM
          have hE := Option.some.inj hE
          subst hE
          exact pr R 9999 [.call false [] (.o (.c (.v (.bool v12)))) [] [], .as 80 false] [] [] [] (And.intro (impl_AreBookings_ok v4.1 v6.1 v12 h13) (And.intro h14 True.intro)) (by kernel_rfl)
      refine pc R 9999 [.call false [] (.o (.c (.v (.bool v1)))) [] [], .as 14 false, .call false [] (.tup [.agg [.sl 0, .sl 1, .v (.int .i64 v4.1.Change)], .c (.sl 2), .c (.v (.int .i64 v4.2.2.1)), .c (.v (.int .i64 v4.2.2.2.1)), .c (.sl 3)]) [] [(0, .row 95 6 (v4.1.Legs.map Leg.enc)), (1, .row 3 1 (v4.1.Off.map encI)), (2, .row 57 4 (v4.2.1.map Booking.enc)), (3, .row 55 2 (v4.2.2.2.2.map Trip.enc))], .new 4, .call false [] (.tup [.c (.sl 5), .c (.v (.bool v6.2))]) [] [(5, .row 57 4 (v6.1.map Booking.enc))], .as 33 false] [.keep [3, 4, 6, 7, 8, 10] [4, 0, 1, 2, 3, 5]] (k' := [.code (.loop (cAt Try.f5 [1, 1, 1, 1, 1, 0, 1, 0, 0])), .blk 0, .code (cAt Try.f5 [1, 1, 1, 1, 1, 1])]) (S' := laws_FnBooked_L1_S v4 v6 0) (And.intro (laws_big_ok a0 v1 h2) (And.intro h3 (And.intro (And.intro (con_sw 1003 3 (con_sw 1002 2 (con_sw 1001 1 (con_sw 1000 0 (spec_DrawBookWay_ok a0 v4 h5))))) (rfl : ([] : List Nat) = [])) (And.intro (And.intro (con_sw 1000 5 (impl_BookWay_ok v4.1 v4.2.1 v4.2.2.1 v4.2.2.2.1 v4.2.2.2.2 v6 h7)) (rfl : ([] : List Nat) = [])) (And.intro h8 True.intro))))) (by kernel_rfl) ?_
      refine lq (laws_FnBooked_L1_S v4 v6) (body := laws_FnBooked_L1 v4 v6) (k := laws_FnBooked_L1_k v4 v6) hM fun m1 s c1 hM hK1 => ?_
      obtain ⟨s11, hs⟩ : ∃ z, z = s := ⟨_, rfl⟩
      subst hs
      have hM : laws_FnBooked_L1_b v4 v6 s11 = some c1 := hM
      unfold laws_FnBooked_L1_b at hM
      rcases cond_cases hM with ⟨h15, hM⟩ | ⟨h15, hM⟩
      · obtain ⟨v16, h17, hM⟩ := bind_some hM
        obtain ⟨v18, h19, hM⟩ := bind_some hM
        have J1 : ∀ (s20 : Int), laws_FnBooked_j1 v4 v6 s11 v16 s20 = some c1 → Gr R [.code (cAt Try.f5 [1, 1, 1, 1, 1, 0, 1, 0, 0, 1, 0, 0, 1, 1, 1]), .blk 1, .code (cAt Try.f5 [1, 1, 1, 1, 1, 0, 1, 0, 0, 1, 1]), .inv (Jr R (laws_FnBooked_L1_S v4 v6) (Mk (laws_FnBooked_L1 v4 v6) (laws_FnBooked_L1_k v4 v6) r) (m1 + 1)), .blk 0, .code (cAt Try.f5 [1, 1, 1, 1, 1, 1])] (⟨[(3, .o (.c (.ptr 4 0))), (4, .o (.c (.sl 2))), (6, .o (.c (.v (.int .i64 v4.2.2.2.1)))), (7, .o (.c (.sl 3))), (8, .o (.c (.sl 5))), (10, .o (.c (.v (.int .i64 s11)))), (11, .o (.c (.ptr 6 0))), (12, .o (.c (.v (.int .i64 s20))))], [(4, .box 36 [.sl 0, .sl 1, .v (.int .i64 v4.1.Change)]), (0, .row 95 6 (v4.1.Legs.map Leg.enc)), (1, .row 3 1 (v4.1.Off.map encI)), (2, .row 57 4 (v4.2.1.map Booking.enc)), (3, .row 55 2 (v4.2.2.2.2.map Trip.enc)), (5, .row 57 4 (v6.1.map Booking.enc)), (6, .box 55 [.v (.int .i64 v16.Trip.Leg), .v (.int .i64 v16.Trip.Day)])]⟩) := by
          intro s20 hM
          unfold laws_FnBooked_j1 at hM
          obtain ⟨v21, h22, hM⟩ := bind_some hM
          obtain ⟨v23, h24, hM⟩ := bind_some hM
          rcases cond_cases hM with ⟨h25, hM⟩ | ⟨h25, hM⟩
          · have hE : some (Ctl.ret false) = some c1 := hM
            have hE := Option.some.inj hE
            subst hE
            have hE : some false = some r := hK1
            have hE := Option.some.inj hE
            subst hE
            exact pr R 9999 [.call false [] (.o (.c (.v (.int .i64 v21)))) [] [], .call false [] (.o (.c (.v (.int .i64 v23)))) [] [], .as 63 true] [] [] [] (And.intro (impl_SpareOn_ok v4.1 v6.1 v16.Trip v21 h22) (And.intro (impl_SpareOn_ok v4.1 v4.2.1 v16.Trip v23 h24) (And.intro h25 True.intro))) (by kernel_rfl)
          · obtain ⟨v26, h27, hM⟩ := bind_some hM
            rcases cond_cases hM with ⟨h28, hM⟩ | ⟨h28, hM⟩
            · have hE : some (Ctl.ret false) = some c1 := hM
              have hE := Option.some.inj hE
              subst hE
              have hE : some false = some r := hK1
              have hE := Option.some.inj hE
              subst hE
              exact pr R 9999 [.call false [] (.o (.c (.v (.int .i64 v21)))) [] [], .call false [] (.o (.c (.v (.int .i64 v23)))) [] [], .as 63 false, .call false [] (.o (.c (.v (.int .i64 v26)))) [] [], .as 70 true] [] [] [] (And.intro (impl_SpareOn_ok v4.1 v6.1 v16.Trip v21 h22) (And.intro (impl_SpareOn_ok v4.1 v4.2.1 v16.Trip v23 h24) (And.intro h25 (And.intro (impl_SpareOn_ok v4.1 v6.1 v16.Trip v26 h27) (And.intro h28 True.intro))))) (by kernel_rfl)
            · obtain ⟨v29, h30, hM⟩ := bind_some hM
              rcases cond_cases hM with ⟨h31, hM⟩ | ⟨h31, hM⟩
              · have hE : some (Ctl.ret false) = some c1 := hM
                have hE := Option.some.inj hE
                subst hE
                have hE : some false = some r := hK1
                have hE := Option.some.inj hE
                subst hE
                exact pr R 9999 [.call false [] (.o (.c (.v (.int .i64 v21)))) [] [], .call false [] (.o (.c (.v (.int .i64 v23)))) [] [], .as 63 false, .call false [] (.o (.c (.v (.int .i64 v26)))) [] [], .as 70 false, .call false [] (.o (.c (.v (.int .i64 v29)))) [] [], .as 76 true] [] [] [] (And.intro (impl_SpareOn_ok v4.1 v6.1 v16.Trip v21 h22) (And.intro (impl_SpareOn_ok v4.1 v4.2.1 v16.Trip v23 h24) (And.intro h25 (And.intro (impl_SpareOn_ok v4.1 v6.1 v16.Trip v26 h27) (And.intro h28 (And.intro (impl_FillOf_ok v4.1 v6.1 v16.Trip v29 h30) (And.intro h31 True.intro))))))) (by kernel_rfl)
              · have hE : some (Ctl.next (w64 (s11 + 1))) = some c1 := hM
                have hE := Option.some.inj hE
                subst hE
                exact pc R 9999 [.call false [] (.o (.c (.v (.int .i64 v21)))) [] [], .call false [] (.o (.c (.v (.int .i64 v23)))) [] [], .as 63 false, .call false [] (.o (.c (.v (.int .i64 v26)))) [] [], .as 70 false, .call false [] (.o (.c (.v (.int .i64 v29)))) [] [], .as 76 false] [.keep [3, 4, 6, 7, 8, 10] [4, 0, 1, 2, 3, 5]] (And.intro (impl_SpareOn_ok v4.1 v6.1 v16.Trip v21 h22) (And.intro (impl_SpareOn_ok v4.1 v4.2.1 v16.Trip v23 h24) (And.intro h25 (And.intro (impl_SpareOn_ok v4.1 v6.1 v16.Trip v26 h27) (And.intro h28 (And.intro (impl_FillOf_ok v4.1 v6.1 v16.Trip v29 h30) (And.intro h31 True.intro))))))) (by kernel_rfl) (li (Sf := laws_FnBooked_L1_S v4 v6) (M := Mk (laws_FnBooked_L1 v4 v6) (laws_FnBooked_L1_k v4 v6) r) (k := [.blk 0, .code (cAt Try.f5 [1, 1, 1, 1, 1, 1])]) (Nat.lt_succ_self m1) hK1)
        rcases cond_cases hM with ⟨h32, hM⟩ | ⟨h32, hM⟩
        · exact pc R 16 [.ln (v6.1.length), .as 40 true, .ix (Booking.enc v16), .new 6, .call false [] (.o (.c (.v (.bool v18)))) [] [], .as 50 true] [.keep [3, 4, 6, 7, 8, 10, 11, 12] [4, 0, 1, 2, 3, 5, 6]] (And.intro (lenm Booking.enc v6.1) (And.intro h15 (And.intro (gi_lt Booking.enc h17) (And.intro ((gi_map Booking.enc h17).2) (And.intro (laws_rides_ok v4.2.2.2.2 v16.Trip v18 h19) (And.intro h32 True.intro)))))) (by kernel_rfl) (J1 v4.2.2.2.1 hM)
        · exact pc R 16 [.ln (v6.1.length), .as 40 true, .ix (Booking.enc v16), .new 6, .call false [] (.o (.c (.v (.bool v18)))) [] [], .as 50 false] [.keep [3, 4, 6, 7, 8, 10, 11, 12] [4, 0, 1, 2, 3, 5, 6]] (And.intro (lenm Booking.enc v6.1) (And.intro h15 (And.intro (gi_lt Booking.enc h17) (And.intro ((gi_map Booking.enc h17).2) (And.intro (laws_rides_ok v4.2.2.2.2 v16.Trip v18 h19) (And.intro h32 True.intro)))))) (by kernel_rfl) (J1 0 hM)
      · have hE : some (Ctl.brk ()) = some c1 := hM
        have hE := Option.some.inj hE
        subst hE
        exact pc R 5 [.ln (v6.1.length), .as 40 false] [.keep [3, 4, 7, 8] [4, 0, 1, 2, 3, 5]] (And.intro (lenm Booking.enc v6.1) (And.intro h15 True.intro)) (by kernel_rfl) (K1 () hK1)
end Go.Sx
