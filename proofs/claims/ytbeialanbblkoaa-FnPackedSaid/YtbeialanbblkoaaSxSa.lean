/- The library's stable sort as plain Lean, over any comparison (printed by wip/gen/sogen.py out of a walk). -/
import Derived.Test.YtbeialanbblkoaaSxT
namespace Go.Sx
set_option linter.unusedVariables false
def so_insertionSort_L2_b {α : Type} (less : Int → Int → List α → Option Bool) (a1 : Int) (s5 : (List α)) (s6 : Int) : Option (Ctl ((List α) × Int) (List α) (List α)) :=
  bif (decide (s6 > a1)) then
  (less s6 (w64 (s6 - 1)) s5).bind fun v9 =>
  bif v9 then
  (gi s5 s6).bind fun v12 =>
  (gi s5 (w64 (s6 - 1))).bind fun v14 =>
  some (.next (List.set (List.set s5 (Int.toNat s6) v14) (Int.toNat (w64 (s6 - 1))) v12, w64 (s6 - 1)))
  else
  some (.brk s5)
  else
  some (.brk s5)
def so_insertionSort_L2 {α : Type} (less : Int → Int → List α → Option Bool) (a1 : Int) (s : (List α) × Int) : Option (Ctl ((List α) × Int) (List α) (List α)) := so_insertionSort_L2_b less a1 s.1 s.2
def so_insertionSort_L2_a {α : Type} (s2 : Int) (s7 : (List α)) : Option (Ctl ((List α) × Int) (List α) (List α)) :=
  some (.next (s7, w64 (s2 + 1)))
def so_insertionSort_L2_k {α : Type} (s2 : Int) (x : ((List α)) ⊕ ((List α))) : Option (Ctl ((List α) × Int) (List α) (List α)) := match x with
  | .inl t => so_insertionSort_L2_a s2 t
  | .inr y => some (.ret y)
def so_insertionSort_L1_b {α : Type} (less : Int → Int → List α → Option Bool) (a1 : Int) (a2 : Int) (s1 : (List α)) (s2 : Int) : Option (Ctl ((List α) × Int) (List α) (List α)) :=
  bif (decide (s2 < a2)) then
  (loopM (so_insertionSort_L2 less a1) big (s1, s2)).bind (so_insertionSort_L2_k s2)
  else
  some (.brk s1)
def so_insertionSort_L1 {α : Type} (less : Int → Int → List α → Option Bool) (a1 : Int) (a2 : Int) (s : (List α) × Int) : Option (Ctl ((List α) × Int) (List α) (List α)) := so_insertionSort_L1_b less a1 a2 s.1 s.2
def so_insertionSort_L1_a {α : Type} (s3 : (List α)) : Option (List α) :=
  some s3
def so_insertionSort_L1_k {α : Type} (x : ((List α)) ⊕ ((List α))) : Option (List α) := match x with
  | .inl t => so_insertionSort_L1_a t
  | .inr y => some y
def so_insertionSort {α : Type} (less : Int → Int → List α → Option Bool) (a0 : ((List α))) (a1 : Int) (a2 : Int) : Option (List α) :=
  (loopM (so_insertionSort_L1 less a1 a2) big (a0, w64 (a1 + 1))).bind (so_insertionSort_L1_k)
def so_swapRange_L1_b {α : Type} (a1 : Int) (a2 : Int) (a3 : Int) (s1 : (List α)) (s2 : Int) : Option (Ctl ((List α) × Int) (List α) (List α)) :=
  bif (decide (s2 < a3)) then
  (gi s1 (w64 (a1 + s2))).bind fun v5 =>
  (gi s1 (w64 (a2 + s2))).bind fun v7 =>
  some (.next (List.set (List.set s1 (Int.toNat (w64 (a1 + s2))) v7) (Int.toNat (w64 (a2 + s2))) v5, w64 (s2 + 1)))
  else
  some (.brk s1)
def so_swapRange_L1 {α : Type} (a1 : Int) (a2 : Int) (a3 : Int) (s : (List α) × Int) : Option (Ctl ((List α) × Int) (List α) (List α)) := so_swapRange_L1_b a1 a2 a3 s.1 s.2
def so_swapRange_L1_a {α : Type} (s3 : (List α)) : Option (List α) :=
  some s3
def so_swapRange_L1_k {α : Type} (x : ((List α)) ⊕ ((List α))) : Option (List α) := match x with
  | .inl t => so_swapRange_L1_a t
  | .inr y => some y
def so_swapRange {α : Type} (a0 : ((List α))) (a1 : Int) (a2 : Int) (a3 : Int) : Option (List α) :=
  (loopM (so_swapRange_L1 a1 a2 a3) big (a0, 0)).bind (so_swapRange_L1_k)
def so_rotate_L1_b {α : Type} (a2 : Int) (s1 : (List α)) (s2 : Int) (s3 : Int) : Option (Ctl ((List α) × Int × Int) ((List α) × Int) (List α)) :=
  bif (s2 != s3) then
  bif (decide (s2 > s3)) then
  (so_swapRange s1 (w64 (a2 - s2)) a2 s3).bind fun v10 =>
  some (.next (v10, w64 (s2 - s3), s3))
  else
  (so_swapRange s1 (w64 (a2 - s2)) (w64 ((w64 (a2 + s3)) - s2)) s2).bind fun v12 =>
  some (.next (v12, s2, w64 (s3 - s2)))
  else
  some (.brk (s1, s2))
def so_rotate_L1 {α : Type} (a2 : Int) (s : (List α) × Int × Int) : Option (Ctl ((List α) × Int × Int) ((List α) × Int) (List α)) := so_rotate_L1_b a2 s.1 s.2.1 s.2.2
def so_rotate_L1_a {α : Type} (a2 : Int) (s4 : (List α)) (s5 : Int) : Option (List α) :=
  (so_swapRange s4 (w64 (a2 - s5)) a2 s5).bind fun v6 =>
  some v6
def so_rotate_L1_k {α : Type} (a2 : Int) (x : ((List α) × Int) ⊕ ((List α))) : Option (List α) := match x with
  | .inl t => so_rotate_L1_a a2 t.1 t.2
  | .inr y => some y
def so_rotate {α : Type} (a0 : ((List α))) (a1 : Int) (a2 : Int) (a3 : Int) : Option (List α) :=
  (loopM (so_rotate_L1 a2) big (a0, w64 (a2 - a1), w64 (a3 - a2))).bind (so_rotate_L1_k a2)
def so_symMerge_L2_b {α : Type} (s4 : Int) (s5 : (List α)) (s6 : Int) : Option (Ctl ((List α) × Int) (List α) (List α)) :=
  bif (decide (s6 < (w64 (s4 - 1)))) then
  (gi s5 s6).bind fun v9 =>
  (gi s5 (w64 (s6 + 1))).bind fun v11 =>
  some (.next (List.set (List.set s5 (Int.toNat s6) v11) (Int.toNat (w64 (s6 + 1))) v9, w64 (s6 + 1)))
  else
  some (.brk s5)
def so_symMerge_L2 {α : Type} (s4 : Int) (s : (List α) × Int) : Option (Ctl ((List α) × Int) (List α) (List α)) := so_symMerge_L2_b s4 s.1 s.2
def so_symMerge_L2_a {α : Type} (s7 : (List α)) : Option (List α) :=
  some s7
def so_symMerge_L2_k {α : Type} (x : ((List α)) ⊕ ((List α))) : Option (List α) := match x with
  | .inl t => so_symMerge_L2_a t
  | .inr y => some y
def so_symMerge_L1_b {α : Type} (less : Int → Int → List α → Option Bool) (a0 : ((List α))) (a1 : Int) (s2 : Int) (s3 : Int) : Option (Ctl (Int × Int) Int (List α)) :=
  bif (decide (s2 < s3)) then
  (less (w64 (Int.fdiv (IntKind.u64.wrap (w64 (s2 + s3))) (2 ^ 1))) a1 a0).bind fun v14 =>
  bif v14 then
  some (.next (w64 ((w64 (Int.fdiv (IntKind.u64.wrap (w64 (s2 + s3))) (2 ^ 1))) + 1), s3))
  else
  some (.next (s2, w64 (Int.fdiv (IntKind.u64.wrap (w64 (s2 + s3))) (2 ^ 1))))
  else
  some (.brk s2)
def so_symMerge_L1 {α : Type} (less : Int → Int → List α → Option Bool) (a0 : ((List α))) (a1 : Int) (s : Int × Int) : Option (Ctl (Int × Int) Int (List α)) := so_symMerge_L1_b less a0 a1 s.1 s.2
def so_symMerge_L1_a {α : Type} (a0 : ((List α))) (a1 : Int) (s4 : Int) : Option (List α) :=
  (loopM (so_symMerge_L2 s4) big (a0, a1)).bind (so_symMerge_L2_k)
def so_symMerge_L1_k {α : Type} (a0 : ((List α))) (a1 : Int) (x : (Int) ⊕ ((List α))) : Option (List α) := match x with
  | .inl t => so_symMerge_L1_a a0 a1 t
  | .inr y => some y
def so_symMerge_L4_b {α : Type} (s20 : Int) (s21 : (List α)) (s22 : Int) : Option (Ctl ((List α) × Int) (List α) (List α)) :=
  bif (decide (s22 > s20)) then
  (gi s21 s22).bind fun v25 =>
  (gi s21 (w64 (s22 - 1))).bind fun v27 =>
  some (.next (List.set (List.set s21 (Int.toNat s22) v27) (Int.toNat (w64 (s22 - 1))) v25, w64 (s22 - 1)))
  else
  some (.brk s21)
def so_symMerge_L4 {α : Type} (s20 : Int) (s : (List α) × Int) : Option (Ctl ((List α) × Int) (List α) (List α)) := so_symMerge_L4_b s20 s.1 s.2
def so_symMerge_L4_a {α : Type} (s23 : (List α)) : Option (List α) :=
  some s23
def so_symMerge_L4_k {α : Type} (x : ((List α)) ⊕ ((List α))) : Option (List α) := match x with
  | .inl t => so_symMerge_L4_a t
  | .inr y => some y
def so_symMerge_L3_b {α : Type} (less : Int → Int → List α → Option Bool) (a0 : ((List α))) (a2 : Int) (s18 : Int) (s19 : Int) : Option (Ctl (Int × Int) Int (List α)) :=
  bif (decide (s18 < s19)) then
  (less a2 (w64 (Int.fdiv (IntKind.u64.wrap (w64 (s18 + s19))) (2 ^ 1))) a0).bind fun v30 =>
  bif (!v30) then
  some (.next (w64 ((w64 (Int.fdiv (IntKind.u64.wrap (w64 (s18 + s19))) (2 ^ 1))) + 1), s19))
  else
  some (.next (s18, w64 (Int.fdiv (IntKind.u64.wrap (w64 (s18 + s19))) (2 ^ 1))))
  else
  some (.brk s18)
def so_symMerge_L3 {α : Type} (less : Int → Int → List α → Option Bool) (a0 : ((List α))) (a2 : Int) (s : Int × Int) : Option (Ctl (Int × Int) Int (List α)) := so_symMerge_L3_b less a0 a2 s.1 s.2
def so_symMerge_L3_a {α : Type} (a0 : ((List α))) (a2 : Int) (s20 : Int) : Option (List α) :=
  (loopM (so_symMerge_L4 s20) big (a0, a2)).bind (so_symMerge_L4_k)
def so_symMerge_L3_k {α : Type} (a0 : ((List α))) (a2 : Int) (x : (Int) ⊕ ((List α))) : Option (List α) := match x with
  | .inl t => so_symMerge_L3_a a0 a2 t
  | .inr y => some y
def so_symMerge_j3 {α : Type} (self : ((List α)) → Int → Int → Int → Option (List α)) (a1 : Int) (a2 : Int) (a3 : Int) (s37 : Int) (s41 : (List α)) : Option (List α) :=
  bif (decide ((w64 (Int.fdiv (IntKind.u64.wrap (w64 (a1 + a3))) (2 ^ 1))) < (w64 ((w64 ((w64 (Int.fdiv (IntKind.u64.wrap (w64 (a1 + a3))) (2 ^ 1))) + a2)) - s37)))) then
  bif (decide ((w64 ((w64 ((w64 (Int.fdiv (IntKind.u64.wrap (w64 (a1 + a3))) (2 ^ 1))) + a2)) - s37)) < a3)) then
  (self s41 (w64 (Int.fdiv (IntKind.u64.wrap (w64 (a1 + a3))) (2 ^ 1))) (w64 ((w64 ((w64 (Int.fdiv (IntKind.u64.wrap (w64 (a1 + a3))) (2 ^ 1))) + a2)) - s37)) a3).bind fun v44 =>
  some v44
  else
  some s41
  else
  some s41
def so_symMerge_j2 {α : Type} (self : ((List α)) → Int → Int → Int → Option (List α)) (a1 : Int) (a2 : Int) (a3 : Int) (s37 : Int) (s39 : (List α)) : Option (List α) :=
  bif (decide (a1 < s37)) then
  bif (decide (s37 < (w64 (Int.fdiv (IntKind.u64.wrap (w64 (a1 + a3))) (2 ^ 1))))) then
  (self s39 a1 s37 (w64 (Int.fdiv (IntKind.u64.wrap (w64 (a1 + a3))) (2 ^ 1)))).bind fun v47 =>
  so_symMerge_j3 self a1 a2 a3 s37 v47
  else
  so_symMerge_j3 self a1 a2 a3 s37 s39
  else
  bif (decide ((w64 (Int.fdiv (IntKind.u64.wrap (w64 (a1 + a3))) (2 ^ 1))) < (w64 ((w64 ((w64 (Int.fdiv (IntKind.u64.wrap (w64 (a1 + a3))) (2 ^ 1))) + a2)) - s37)))) then
  bif (decide ((w64 ((w64 ((w64 (Int.fdiv (IntKind.u64.wrap (w64 (a1 + a3))) (2 ^ 1))) + a2)) - s37)) < a3)) then
  (self s39 (w64 (Int.fdiv (IntKind.u64.wrap (w64 (a1 + a3))) (2 ^ 1))) (w64 ((w64 ((w64 (Int.fdiv (IntKind.u64.wrap (w64 (a1 + a3))) (2 ^ 1))) + a2)) - s37)) a3).bind fun v51 =>
  some v51
  else
  some s39
  else
  some s39
def so_symMerge_j4 {α : Type} (self : ((List α)) → Int → Int → Int → Option (List α)) (a1 : Int) (a2 : Int) (a3 : Int) (s37 : Int) (s57 : (List α)) : Option (List α) :=
  bif (decide ((w64 (Int.fdiv (IntKind.u64.wrap (w64 (a1 + a3))) (2 ^ 1))) < (w64 ((w64 ((w64 (Int.fdiv (IntKind.u64.wrap (w64 (a1 + a3))) (2 ^ 1))) + a2)) - s37)))) then
  bif (decide ((w64 ((w64 ((w64 (Int.fdiv (IntKind.u64.wrap (w64 (a1 + a3))) (2 ^ 1))) + a2)) - s37)) < a3)) then
  (self s57 (w64 (Int.fdiv (IntKind.u64.wrap (w64 (a1 + a3))) (2 ^ 1))) (w64 ((w64 ((w64 (Int.fdiv (IntKind.u64.wrap (w64 (a1 + a3))) (2 ^ 1))) + a2)) - s37)) a3).bind fun v60 =>
  some v60
  else
  some s57
  else
  some s57
def so_symMerge_L5_b {α : Type} (less : Int → Int → List α → Option Bool) (a0 : ((List α))) (a1 : Int) (a2 : Int) (a3 : Int) (s35 : Int) (s36 : Int) : Option (Ctl (Int × Int) Int (List α)) :=
  bif (decide (s35 < s36)) then
  (less (w64 ((w64 ((w64 ((w64 (Int.fdiv (IntKind.u64.wrap (w64 (a1 + a3))) (2 ^ 1))) + a2)) - 1)) - (w64 (Int.fdiv (IntKind.u64.wrap (w64 (s35 + s36))) (2 ^ 1))))) (w64 (Int.fdiv (IntKind.u64.wrap (w64 (s35 + s36))) (2 ^ 1))) a0).bind fun v70 =>
  bif (!v70) then
  some (.next (w64 ((w64 (Int.fdiv (IntKind.u64.wrap (w64 (s35 + s36))) (2 ^ 1))) + 1), s36))
  else
  some (.next (s35, w64 (Int.fdiv (IntKind.u64.wrap (w64 (s35 + s36))) (2 ^ 1))))
  else
  some (.brk s35)
def so_symMerge_L5 {α : Type} (less : Int → Int → List α → Option Bool) (a0 : ((List α))) (a1 : Int) (a2 : Int) (a3 : Int) (s : Int × Int) : Option (Ctl (Int × Int) Int (List α)) := so_symMerge_L5_b less a0 a1 a2 a3 s.1 s.2
def so_symMerge_L5_a {α : Type} (self : ((List α)) → Int → Int → Int → Option (List α)) (a0 : ((List α))) (a1 : Int) (a2 : Int) (a3 : Int) (s37 : Int) : Option (List α) :=
  bif (decide (s37 < a2)) then
  bif (decide (a2 < (w64 ((w64 ((w64 (Int.fdiv (IntKind.u64.wrap (w64 (a1 + a3))) (2 ^ 1))) + a2)) - s37)))) then
  (so_rotate a0 s37 a2 (w64 ((w64 ((w64 (Int.fdiv (IntKind.u64.wrap (w64 (a1 + a3))) (2 ^ 1))) + a2)) - s37))).bind fun v54 =>
  so_symMerge_j2 self a1 a2 a3 s37 v54
  else
  so_symMerge_j2 self a1 a2 a3 s37 a0
  else
  bif (decide (a1 < s37)) then
  bif (decide (s37 < (w64 (Int.fdiv (IntKind.u64.wrap (w64 (a1 + a3))) (2 ^ 1))))) then
  (self a0 a1 s37 (w64 (Int.fdiv (IntKind.u64.wrap (w64 (a1 + a3))) (2 ^ 1)))).bind fun v63 =>
  so_symMerge_j4 self a1 a2 a3 s37 v63
  else
  so_symMerge_j4 self a1 a2 a3 s37 a0
  else
  bif (decide ((w64 (Int.fdiv (IntKind.u64.wrap (w64 (a1 + a3))) (2 ^ 1))) < (w64 ((w64 ((w64 (Int.fdiv (IntKind.u64.wrap (w64 (a1 + a3))) (2 ^ 1))) + a2)) - s37)))) then
  bif (decide ((w64 ((w64 ((w64 (Int.fdiv (IntKind.u64.wrap (w64 (a1 + a3))) (2 ^ 1))) + a2)) - s37)) < a3)) then
  (self a0 (w64 (Int.fdiv (IntKind.u64.wrap (w64 (a1 + a3))) (2 ^ 1))) (w64 ((w64 ((w64 (Int.fdiv (IntKind.u64.wrap (w64 (a1 + a3))) (2 ^ 1))) + a2)) - s37)) a3).bind fun v67 =>
  some v67
  else
  some a0
  else
  some a0
def so_symMerge_L5_k {α : Type} (self : ((List α)) → Int → Int → Int → Option (List α)) (a0 : ((List α))) (a1 : Int) (a2 : Int) (a3 : Int) (x : (Int) ⊕ ((List α))) : Option (List α) := match x with
  | .inl t => so_symMerge_L5_a self a0 a1 a2 a3 t
  | .inr y => some y
def so_symMerge_j1 {α : Type} (less : Int → Int → List α → Option Bool) (self : ((List α)) → Int → Int → Int → Option (List α)) (a0 : ((List α))) (a1 : Int) (a2 : Int) (a3 : Int) (s33 : Int) (s34 : Int) : Option (List α) :=
  (loopM (so_symMerge_L5 less a0 a1 a2 a3) big (s33, s34)).bind (so_symMerge_L5_k self a0 a1 a2 a3)
def so_symMerge_F {α : Type} (less : Int → Int → List α → Option Bool) (self : ((List α)) → Int → Int → Int → Option (List α)) (a0 : ((List α))) (a1 : Int) (a2 : Int) (a3 : Int) : Option (List α) :=
  bif ((w64 (a2 - a1)) == 1) then
  (loopM (so_symMerge_L1 less a0 a1) big (a2, a3)).bind (so_symMerge_L1_k a0 a1)
  else
  bif ((w64 (a3 - a2)) == 1) then
  (loopM (so_symMerge_L3 less a0 a2) big (a1, a2)).bind (so_symMerge_L3_k a0 a2)
  else
  bif (decide (a2 > (w64 (Int.fdiv (IntKind.u64.wrap (w64 (a1 + a3))) (2 ^ 1))))) then
  so_symMerge_j1 less self a0 a1 a2 a3 (w64 ((w64 ((w64 (Int.fdiv (IntKind.u64.wrap (w64 (a1 + a3))) (2 ^ 1))) + a2)) - a3)) (w64 (Int.fdiv (IntKind.u64.wrap (w64 (a1 + a3))) (2 ^ 1)))
  else
  so_symMerge_j1 less self a0 a1 a2 a3 a1 a2
def so_symMerge_n {α : Type} (less : Int → Int → List α → Option Bool) : Nat → ((List α)) → Int → Int → Int → Option (List α)
  | 0, _, _, _, _ => none
  | n + 1, a0, a1, a2, a3 => so_symMerge_F less (so_symMerge_n less n) a0 a1 a2 a3
def so_symMerge {α : Type} (less : Int → Int → List α → Option Bool) (a0 : ((List α))) (a1 : Int) (a2 : Int) (a3 : Int) : Option (List α) := so_symMerge_n less big a0 a1 a2 a3
def so_stable_L3_b {α : Type} (less : Int → Int → List α → Option Bool) (a1 : Int) (s9 : Int) (s12 : (List α)) (s13 : Int) (s14 : Int) : Option (Ctl ((List α) × Int × Int) ((List α) × Int) (List α)) :=
  bif (decide (s14 ≤ a1)) then
  (so_symMerge less s12 s13 (w64 (s13 + s9)) s14).bind fun v21 =>
  some (.next (v21, s14, w64 (s14 + (w64 (2 * s9)))))
  else
  some (.brk (s12, s13))
def so_stable_L3 {α : Type} (less : Int → Int → List α → Option Bool) (a1 : Int) (s9 : Int) (s : (List α) × Int × Int) : Option (Ctl ((List α) × Int × Int) ((List α) × Int) (List α)) := so_stable_L3_b less a1 s9 s.1 s.2.1 s.2.2
def so_stable_L3_a {α : Type} (less : Int → Int → List α → Option Bool) (a1 : Int) (s9 : Int) (s15 : (List α)) (s16 : Int) : Option (Ctl ((List α) × Int) (List α) (List α)) :=
  bif (decide ((w64 (s16 + s9)) < a1)) then
  (so_symMerge less s15 s16 (w64 (s16 + s9)) a1).bind fun v18 =>
  some (.next (v18, w64 (s9 * 2)))
  else
  some (.next (s15, w64 (s9 * 2)))
def so_stable_L3_k {α : Type} (less : Int → Int → List α → Option Bool) (a1 : Int) (s9 : Int) (x : ((List α) × Int) ⊕ ((List α))) : Option (Ctl ((List α) × Int) (List α) (List α)) := match x with
  | .inl t => so_stable_L3_a less a1 s9 t.1 t.2
  | .inr y => some (.ret y)
def so_stable_L2_b {α : Type} (less : Int → Int → List α → Option Bool) (a1 : Int) (s8 : (List α)) (s9 : Int) : Option (Ctl ((List α) × Int) (List α) (List α)) :=
  bif (decide (s9 < a1)) then
  (loopM (so_stable_L3 less a1 s9) big (s8, 0, w64 (2 * s9))).bind (so_stable_L3_k less a1 s9)
  else
  some (.brk s8)
def so_stable_L2 {α : Type} (less : Int → Int → List α → Option Bool) (a1 : Int) (s : (List α) × Int) : Option (Ctl ((List α) × Int) (List α) (List α)) := so_stable_L2_b less a1 s.1 s.2
def so_stable_L2_a {α : Type} (s10 : (List α)) : Option (List α) :=
  some s10
def so_stable_L2_k {α : Type} (x : ((List α)) ⊕ ((List α))) : Option (List α) := match x with
  | .inl t => so_stable_L2_a t
  | .inr y => some y
def so_stable_L1_b {α : Type} (less : Int → Int → List α → Option Bool) (a1 : Int) (s1 : (List α)) (s2 : Int) (s3 : Int) : Option (Ctl ((List α) × Int × Int) ((List α) × Int) (List α)) :=
  bif (decide (s3 ≤ a1)) then
  (so_insertionSort less s1 s2 s3).bind fun v24 =>
  some (.next (v24, s3, w64 (s3 + 20)))
  else
  some (.brk (s1, s2))
def so_stable_L1 {α : Type} (less : Int → Int → List α → Option Bool) (a1 : Int) (s : (List α) × Int × Int) : Option (Ctl ((List α) × Int × Int) ((List α) × Int) (List α)) := so_stable_L1_b less a1 s.1 s.2.1 s.2.2
def so_stable_L1_a {α : Type} (less : Int → Int → List α → Option Bool) (a1 : Int) (s4 : (List α)) (s5 : Int) : Option (List α) :=
  (so_insertionSort less s4 s5 a1).bind fun v6 =>
  (loopM (so_stable_L2 less a1) big (v6, 20)).bind (so_stable_L2_k)
def so_stable_L1_k {α : Type} (less : Int → Int → List α → Option Bool) (a1 : Int) (x : ((List α) × Int) ⊕ ((List α))) : Option (List α) := match x with
  | .inl t => so_stable_L1_a less a1 t.1 t.2
  | .inr y => some y
def so_stable {α : Type} (less : Int → Int → List α → Option Bool) (a0 : ((List α))) (a1 : Int) : Option (List α) :=
  (loopM (so_stable_L1 less a1) big (a0, 0, 20)).bind (so_stable_L1_k less a1)
end Go.Sx
