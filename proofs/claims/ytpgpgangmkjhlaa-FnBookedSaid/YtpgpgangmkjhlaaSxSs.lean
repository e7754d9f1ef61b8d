/- Part of a proof: SxSa SxSb SxSc SxSd SxSe SxSf SxSg. -/
import Derived.Test.YtpgpgangmkjhlaaSxT
section
/- The library's stable sort as plain Lean, over any comparison (printed by wip/gen/sogen.py out of a walk). -/
namespace Go.Sx
set_option linter.unusedVariables false
def so_insertionSort_L2_b {α : Type} (less : Int → Int → List α → Option Bool) (a1 : Int) (s5 : (List α)) (s6 : Int) : Option (Ctl ((List α) × Int) (List α) (List α)) :=
  bif (decide (s6 > a1)) then
  (less s6 (w64 (s6 - 1)) s5).bind fun v9 =>
  bif v9 then
  (gi s5 s6).bind fun v12 =>
  (gi s5 (w64 (s6 - 1))).bind fun v14 =>
  some (.next (List.set (List.set s5 (Int.toNat s6) v14) (Int.toNat (w64 (s6 - 1))) v12, w64 (s6 - 1)))
  else
  some (.brk s5)
  else
  some (.brk s5)
def so_insertionSort_L2 {α : Type} (less : Int → Int → List α → Option Bool) (a1 : Int) (s : (List α) × Int) : Option (Ctl ((List α) × Int) (List α) (List α)) := so_insertionSort_L2_b less a1 s.1 s.2
def so_insertionSort_L2_a {α : Type} (s2 : Int) (s7 : (List α)) : Option (Ctl ((List α) × Int) (List α) (List α)) :=
  some (.next (s7, w64 (s2 + 1)))
def so_insertionSort_L2_k {α : Type} (s2 : Int) (x : ((List α)) ⊕ ((List α))) : Option (Ctl ((List α) × Int) (List α) (List α)) := match x with
  | .inl t => so_insertionSort_L2_a s2 t
  | .inr y => some (.ret y)
def so_insertionSort_L1_b {α : Type} (less : Int → Int → List α → Option Bool) (a1 : Int) (a2 : Int) (s1 : (List α)) (s2 : Int) : Option (Ctl ((List α) × Int) (List α) (List α)) :=
  bif (decide (s2 < a2)) then
  (loopM (so_insertionSort_L2 less a1) big (s1, s2)).bind (so_insertionSort_L2_k s2)
  else
  some (.brk s1)
def so_insertionSort_L1 {α : Type} (less : Int → Int → List α → Option Bool) (a1 : Int) (a2 : Int) (s : (List α) × Int) : Option (Ctl ((List α) × Int) (List α) (List α)) := so_insertionSort_L1_b less a1 a2 s.1 s.2
def so_insertionSort_L1_a {α : Type} (s3 : (List α)) : Option (List α) :=
  some s3
def so_insertionSort_L1_k {α : Type} (x : ((List α)) ⊕ ((List α))) : Option (List α) := match x with
  | .inl t => so_insertionSort_L1_a t
  | .inr y => some y
def so_insertionSort {α : Type} (less : Int → Int → List α → Option Bool) (a0 : ((List α))) (a1 : Int) (a2 : Int) : Option (List α) :=
  (loopM (so_insertionSort_L1 less a1 a2) big (a0, w64 (a1 + 1))).bind (so_insertionSort_L1_k)
def so_swapRange_L1_b {α : Type} (a1 : Int) (a2 : Int) (a3 : Int) (s1 : (List α)) (s2 : Int) : Option (Ctl ((List α) × Int) (List α) (List α)) :=
  bif (decide (s2 < a3)) then
  (gi s1 (w64 (a1 + s2))).bind fun v5 =>
  (gi s1 (w64 (a2 + s2))).bind fun v7 =>
  some (.next (List.set (List.set s1 (Int.toNat (w64 (a1 + s2))) v7) (Int.toNat (w64 (a2 + s2))) v5, w64 (s2 + 1)))
  else
  some (.brk s1)
def so_swapRange_L1 {α : Type} (a1 : Int) (a2 : Int) (a3 : Int) (s : (List α) × Int) : Option (Ctl ((List α) × Int) (List α) (List α)) := so_swapRange_L1_b a1 a2 a3 s.1 s.2
def so_swapRange_L1_a {α : Type} (s3 : (List α)) : Option (List α) :=
  some s3
def so_swapRange_L1_k {α : Type} (x : ((List α)) ⊕ ((List α))) : Option (List α) := match x with
  | .inl t => so_swapRange_L1_a t
  | .inr y => some y
def so_swapRange {α : Type} (a0 : ((List α))) (a1 : Int) (a2 : Int) (a3 : Int) : Option (List α) :=
  (loopM (so_swapRange_L1 a1 a2 a3) big (a0, 0)).bind (so_swapRange_L1_k)
def so_rotate_L1_b {α : Type} (a2 : Int) (s1 : (List α)) (s2 : Int) (s3 : Int) : Option (Ctl ((List α) × Int × Int) ((List α) × Int) (List α)) :=
  bif (s2 != s3) then
  bif (decide (s2 > s3)) then
  (so_swapRange s1 (w64 (a2 - s2)) a2 s3).bind fun v10 =>
  some (.next (v10, w64 (s2 - s3), s3))
  else
  (so_swapRange s1 (w64 (a2 - s2)) (w64 ((w64 (a2 + s3)) - s2)) s2).bind fun v12 =>
  some (.next (v12, s2, w64 (s3 - s2)))
  else
  some (.brk (s1, s2))
def so_rotate_L1 {α : Type} (a2 : Int) (s : (List α) × Int × Int) : Option (Ctl ((List α) × Int × Int) ((List α) × Int) (List α)) := so_rotate_L1_b a2 s.1 s.2.1 s.2.2
def so_rotate_L1_a {α : Type} (a2 : Int) (s4 : (List α)) (s5 : Int) : Option (List α) :=
  (so_swapRange s4 (w64 (a2 - s5)) a2 s5).bind fun v6 =>
  some v6
def so_rotate_L1_k {α : Type} (a2 : Int) (x : ((List α) × Int) ⊕ ((List α))) : Option (List α) := match x with
  | .inl t => so_rotate_L1_a a2 t.1 t.2
  | .inr y => some y
def so_rotate {α : Type} (a0 : ((List α))) (a1 : Int) (a2 : Int) (a3 : Int) : Option (List α) :=
  (loopM (so_rotate_L1 a2) big (a0, w64 (a2 - a1), w64 (a3 - a2))).bind (so_rotate_L1_k a2)
def so_symMerge_L2_b {α : Type} (s4 : Int) (s5 : (List α)) (s6 : Int) : Option (Ctl ((List α) × Int) (List α) (List α)) :=
  bif (decide (s6 < (w64 (s4 - 1)))) then
  (gi s5 s6).bind fun v9 =>
  (gi s5 (w64 (s6 + 1))).bind fun v11 =>
  some (.next (List.set (List.set s5 (Int.toNat s6) v11) (Int.toNat (w64 (s6 + 1))) v9, w64 (s6 + 1)))
  else
  some (.brk s5)
def so_symMerge_L2 {α : Type} (s4 : Int) (s : (List α) × Int) : Option (Ctl ((List α) × Int) (List α) (List α)) := so_symMerge_L2_b s4 s.1 s.2
def so_symMerge_L2_a {α : Type} (s7 : (List α)) : Option (List α) :=
  some s7
def so_symMerge_L2_k {α : Type} (x : ((List α)) ⊕ ((List α))) : Option (List α) := match x with
  | .inl t => so_symMerge_L2_a t
  | .inr y => some y
def so_symMerge_L1_b {α : Type} (less : Int → Int → List α → Option Bool) (a0 : ((List α))) (a1 : Int) (s2 : Int) (s3 : Int) : Option (Ctl (Int × Int) Int (List α)) :=
  bif (decide (s2 < s3)) then
  (less (w64 (Int.fdiv (IntKind.u64.wrap (w64 (s2 + s3))) (2 ^ 1))) a1 a0).bind fun v14 =>
  bif v14 then
  some (.next (w64 ((w64 (Int.fdiv (IntKind.u64.wrap (w64 (s2 + s3))) (2 ^ 1))) + 1), s3))
  else
  some (.next (s2, w64 (Int.fdiv (IntKind.u64.wrap (w64 (s2 + s3))) (2 ^ 1))))
  else
  some (.brk s2)
def so_symMerge_L1 {α : Type} (less : Int → Int → List α → Option Bool) (a0 : ((List α))) (a1 : Int) (s : Int × Int) : Option (Ctl (Int × Int) Int (List α)) := so_symMerge_L1_b less a0 a1 s.1 s.2
def so_symMerge_L1_a {α : Type} (a0 : ((List α))) (a1 : Int) (s4 : Int) : Option (List α) :=
  (loopM (so_symMerge_L2 s4) big (a0, a1)).bind (so_symMerge_L2_k)
def so_symMerge_L1_k {α : Type} (a0 : ((List α))) (a1 : Int) (x : (Int) ⊕ ((List α))) : Option (List α) := match x with
  | .inl t => so_symMerge_L1_a a0 a1 t
  | .inr y => some y
def so_symMerge_L4_b {α : Type} (s20 : Int) (s21 : (List α)) (s22 : Int) : Option (Ctl ((List α) × Int) (List α) (List α)) :=
  bif (decide (s22 > s20)) then
  (gi s21 s22).bind fun v25 =>
  (gi s21 (w64 (s22 - 1))).bind fun v27 =>
  some (.next (List.set (List.set s21 (Int.toNat s22) v27) (Int.toNat (w64 (s22 - 1))) v25, w64 (s22 - 1)))
  else
  some (.brk s21)
def so_symMerge_L4 {α : Type} (s20 : Int) (s : (List α) × Int) : Option (Ctl ((List α) × Int) (List α) (List α)) := so_symMerge_L4_b s20 s.1 s.2
def so_symMerge_L4_a {α : Type} (s23 : (List α)) : Option (List α) :=
  some s23
def so_symMerge_L4_k {α : Type} (x : ((List α)) ⊕ ((List α))) : Option (List α) := match x with
  | .inl t => so_symMerge_L4_a t
  | .inr y => some y
def so_symMerge_L3_b {α : Type} (less : Int → Int → List α → Option Bool) (a0 : ((List α))) (a2 : Int) (s18 : Int) (s19 : Int) : Option (Ctl (Int × Int) Int (List α)) :=
  bif (decide (s18 < s19)) then
  (less a2 (w64 (Int.fdiv (IntKind.u64.wrap (w64 (s18 + s19))) (2 ^ 1))) a0).bind fun v30 =>
  bif (!v30) then
  some (.next (w64 ((w64 (Int.fdiv (IntKind.u64.wrap (w64 (s18 + s19))) (2 ^ 1))) + 1), s19))
  else
  some (.next (s18, w64 (Int.fdiv (IntKind.u64.wrap (w64 (s18 + s19))) (2 ^ 1))))
  else
  some (.brk s18)
def so_symMerge_L3 {α : Type} (less : Int → Int → List α → Option Bool) (a0 : ((List α))) (a2 : Int) (s : Int × Int) : Option (Ctl (Int × Int) Int (List α)) := so_symMerge_L3_b less a0 a2 s.1 s.2
def so_symMerge_L3_a {α : Type} (a0 : ((List α))) (a2 : Int) (s20 : Int) : Option (List α) :=
  (loopM (so_symMerge_L4 s20) big (a0, a2)).bind (so_symMerge_L4_k)
def so_symMerge_L3_k {α : Type} (a0 : ((List α))) (a2 : Int) (x : (Int) ⊕ ((List α))) : Option (List α) := match x with
  | .inl t => so_symMerge_L3_a a0 a2 t
  | .inr y => some y
def so_symMerge_j3 {α : Type} (self : ((List α)) → Int → Int → Int → Option (List α)) (a1 : Int) (a2 : Int) (a3 : Int) (s37 : Int) (s41 : (List α)) : Option (List α) :=
  bif (decide ((w64 (Int.fdiv (IntKind.u64.wrap (w64 (a1 + a3))) (2 ^ 1))) < (w64 ((w64 ((w64 (Int.fdiv (IntKind.u64.wrap (w64 (a1 + a3))) (2 ^ 1))) + a2)) - s37)))) then
  bif (decide ((w64 ((w64 ((w64 (Int.fdiv (IntKind.u64.wrap (w64 (a1 + a3))) (2 ^ 1))) + a2)) - s37)) < a3)) then
  (self s41 (w64 (Int.fdiv (IntKind.u64.wrap (w64 (a1 + a3))) (2 ^ 1))) (w64 ((w64 ((w64 (Int.fdiv (IntKind.u64.wrap (w64 (a1 + a3))) (2 ^ 1))) + a2)) - s37)) a3).bind fun v44 =>
  some v44
  else
  some s41
  else
  some s41
def so_symMerge_j2 {α : Type} (self : ((List α)) → Int → Int → Int → Option (List α)) (a1 : Int) (a2 : Int) (a3 : Int) (s37 : Int) (s39 : (List α)) : Option (List α) :=
  bif (decide (a1 < s37)) then
  bif (decide (s37 < (w64 (Int.fdiv (IntKind.u64.wrap (w64 (a1 + a3))) (2 ^ 1))))) then
  (self s39 a1 s37 (w64 (Int.fdiv (IntKind.u64.wrap (w64 (a1 + a3))) (2 ^ 1)))).bind fun v47 =>
  so_symMerge_j3 self a1 a2 a3 s37 v47
  else
  so_symMerge_j3 self a1 a2 a3 s37 s39
  else
  bif (decide ((w64 (Int.fdiv (IntKind.u64.wrap (w64 (a1 + a3))) (2 ^ 1))) < (w64 ((w64 ((w64 (Int.fdiv (IntKind.u64.wrap (w64 (a1 + a3))) (2 ^ 1))) + a2)) - s37)))) then
  bif (decide ((w64 ((w64 ((w64 (Int.fdiv (IntKind.u64.wrap (w64 (a1 + a3))) (2 ^ 1))) + a2)) - s37)) < a3)) then
  (self s39 (w64 (Int.fdiv (IntKind.u64.wrap (w64 (a1 + a3))) (2 ^ 1))) (w64 ((w64 ((w64 (Int.fdiv (IntKind.u64.wrap (w64 (a1 + a3))) (2 ^ 1))) + a2)) - s37)) a3).bind fun v51 =>
  some v51
  else
  some s39
  else
  some s39
def so_symMerge_j4 {α : Type} (self : ((List α)) → Int → Int → Int → Option (List α)) (a1 : Int) (a2 : Int) (a3 : Int) (s37 : Int) (s57 : (List α)) : Option (List α) :=
  bif (decide ((w64 (Int.fdiv (IntKind.u64.wrap (w64 (a1 + a3))) (2 ^ 1))) < (w64 ((w64 ((w64 (Int.fdiv (IntKind.u64.wrap (w64 (a1 + a3))) (2 ^ 1))) + a2)) - s37)))) then
  bif (decide ((w64 ((w64 ((w64 (Int.fdiv (IntKind.u64.wrap (w64 (a1 + a3))) (2 ^ 1))) + a2)) - s37)) < a3)) then
  (self s57 (w64 (Int.fdiv (IntKind.u64.wrap (w64 (a1 + a3))) (2 ^ 1))) (w64 ((w64 ((w64 (Int.fdiv (IntKind.u64.wrap (w64 (a1 + a3))) (2 ^ 1))) + a2)) - s37)) a3).bind fun v60 =>
  some v60
  else
  some s57
  else
  some s57
def so_symMerge_L5_b {α : Type} (less : Int → Int → List α → Option Bool) (a0 : ((List α))) (a1 : Int) (a2 : Int) (a3 : Int) (s35 : Int) (s36 : Int) : Option (Ctl (Int × Int) Int (List α)) :=
  bif (decide (s35 < s36)) then
  (less (w64 ((w64 ((w64 ((w64 (Int.fdiv (IntKind.u64.wrap (w64 (a1 + a3))) (2 ^ 1))) + a2)) - 1)) - (w64 (Int.fdiv (IntKind.u64.wrap (w64 (s35 + s36))) (2 ^ 1))))) (w64 (Int.fdiv (IntKind.u64.wrap (w64 (s35 + s36))) (2 ^ 1))) a0).bind fun v70 =>
  bif (!v70) then
  some (.next (w64 ((w64 (Int.fdiv (IntKind.u64.wrap (w64 (s35 + s36))) (2 ^ 1))) + 1), s36))
  else
  some (.next (s35, w64 (Int.fdiv (IntKind.u64.wrap (w64 (s35 + s36))) (2 ^ 1))))
  else
  some (.brk s35)
def so_symMerge_L5 {α : Type} (less : Int → Int → List α → Option Bool) (a0 : ((List α))) (a1 : Int) (a2 : Int) (a3 : Int) (s : Int × Int) : Option (Ctl (Int × Int) Int (List α)) := so_symMerge_L5_b less a0 a1 a2 a3 s.1 s.2
def so_symMerge_L5_a {α : Type} (self : ((List α)) → Int → Int → Int → Option (List α)) (a0 : ((List α))) (a1 : Int) (a2 : Int) (a3 : Int) (s37 : Int) : Option (List α) :=
  bif (decide (s37 < a2)) then
  bif (decide (a2 < (w64 ((w64 ((w64 (Int.fdiv (IntKind.u64.wrap (w64 (a1 + a3))) (2 ^ 1))) + a2)) - s37)))) then
  (so_rotate a0 s37 a2 (w64 ((w64 ((w64 (Int.fdiv (IntKind.u64.wrap (w64 (a1 + a3))) (2 ^ 1))) + a2)) - s37))).bind fun v54 =>
  so_symMerge_j2 self a1 a2 a3 s37 v54
  else
  so_symMerge_j2 self a1 a2 a3 s37 a0
  else
  bif (decide (a1 < s37)) then
  bif (decide (s37 < (w64 (Int.fdiv (IntKind.u64.wrap (w64 (a1 + a3))) (2 ^ 1))))) then
  (self a0 a1 s37 (w64 (Int.fdiv (IntKind.u64.wrap (w64 (a1 + a3))) (2 ^ 1)))).bind fun v63 =>
  so_symMerge_j4 self a1 a2 a3 s37 v63
  else
  so_symMerge_j4 self a1 a2 a3 s37 a0
  else
  bif (decide ((w64 (Int.fdiv (IntKind.u64.wrap (w64 (a1 + a3))) (2 ^ 1))) < (w64 ((w64 ((w64 (Int.fdiv (IntKind.u64.wrap (w64 (a1 + a3))) (2 ^ 1))) + a2)) - s37)))) then
  bif (decide ((w64 ((w64 ((w64 (Int.fdiv (IntKind.u64.wrap (w64 (a1 + a3))) (2 ^ 1))) + a2)) - s37)) < a3)) then
  (self a0 (w64 (Int.fdiv (IntKind.u64.wrap (w64 (a1 + a3))) (2 ^ 1))) (w64 ((w64 ((w64 (Int.fdiv (IntKind.u64.wrap (w64 (a1 + a3))) (2 ^ 1))) + a2)) - s37)) a3).bind fun v67 =>
  some v67
  else
  some a0
  else
  some a0
def so_symMerge_L5_k {α : Type} (self : ((List α)) → Int → Int → Int → Option (List α)) (a0 : ((List α))) (a1 : Int) (a2 : Int) (a3 : Int) (x : (Int) ⊕ ((List α))) : Option (List α) := match x with
  | .inl t => so_symMerge_L5_a self a0 a1 a2 a3 t
  | .inr y => some y
def so_symMerge_j1 {α : Type} (less : Int → Int → List α → Option Bool) (self : ((List α)) → Int → Int → Int → Option (List α)) (a0 : ((List α))) (a1 : Int) (a2 : Int) (a3 : Int) (s33 : Int) (s34 : Int) : Option (List α) :=
  (loopM (so_symMerge_L5 less a0 a1 a2 a3) big (s33, s34)).bind (so_symMerge_L5_k self a0 a1 a2 a3)
def so_symMerge_F {α : Type} (less : Int → Int → List α → Option Bool) (self : ((List α)) → Int → Int → Int → Option (List α)) (a0 : ((List α))) (a1 : Int) (a2 : Int) (a3 : Int) : Option (List α) :=
  bif ((w64 (a2 - a1)) == 1) then
  (loopM (so_symMerge_L1 less a0 a1) big (a2, a3)).bind (so_symMerge_L1_k a0 a1)
  else
  bif ((w64 (a3 - a2)) == 1) then
  (loopM (so_symMerge_L3 less a0 a2) big (a1, a2)).bind (so_symMerge_L3_k a0 a2)
  else
  bif (decide (a2 > (w64 (Int.fdiv (IntKind.u64.wrap (w64 (a1 + a3))) (2 ^ 1))))) then
  so_symMerge_j1 less self a0 a1 a2 a3 (w64 ((w64 ((w64 (Int.fdiv (IntKind.u64.wrap (w64 (a1 + a3))) (2 ^ 1))) + a2)) - a3)) (w64 (Int.fdiv (IntKind.u64.wrap (w64 (a1 + a3))) (2 ^ 1)))
  else
  so_symMerge_j1 less self a0 a1 a2 a3 a1 a2
def so_symMerge_n {α : Type} (less : Int → Int → List α → Option Bool) : Nat → ((List α)) → Int → Int → Int → Option (List α)
  | 0, _, _, _, _ => none
  | n + 1, a0, a1, a2, a3 => so_symMerge_F less (so_symMerge_n less n) a0 a1 a2 a3
def so_symMerge {α : Type} (less : Int → Int → List α → Option Bool) (a0 : ((List α))) (a1 : Int) (a2 : Int) (a3 : Int) : Option (List α) := so_symMerge_n less big a0 a1 a2 a3
def so_stable_L3_b {α : Type} (less : Int → Int → List α → Option Bool) (a1 : Int) (s9 : Int) (s12 : (List α)) (s13 : Int) (s14 : Int) : Option (Ctl ((List α) × Int × Int) ((List α) × Int) (List α)) :=
  bif (decide (s14 ≤ a1)) then
  (so_symMerge less s12 s13 (w64 (s13 + s9)) s14).bind fun v21 =>
  some (.next (v21, s14, w64 (s14 + (w64 (2 * s9)))))
  else
  some (.brk (s12, s13))
def so_stable_L3 {α : Type} (less : Int → Int → List α → Option Bool) (a1 : Int) (s9 : Int) (s : (List α) × Int × Int) : Option (Ctl ((List α) × Int × Int) ((List α) × Int) (List α)) := so_stable_L3_b less a1 s9 s.1 s.2.1 s.2.2
def so_stable_L3_a {α : Type} (less : Int → Int → List α → Option Bool) (a1 : Int) (s9 : Int) (s15 : (List α)) (s16 : Int) : Option (Ctl ((List α) × Int) (List α) (List α)) :=
  bif (decide ((w64 (s16 + s9)) < a1)) then
  (so_symMerge less s15 s16 (w64 (s16 + s9)) a1).bind fun v18 =>
  some (.next (v18, w64 (s9 * 2)))
  else
  some (.next (s15, w64 (s9 * 2)))
def so_stable_L3_k {α : Type} (less : Int → Int → List α → Option Bool) (a1 : Int) (s9 : Int) (x : ((List α) × Int) ⊕ ((List α))) : Option (Ctl ((List α) × Int) (List α) (List α)) := match x with
  | .inl t => so_stable_L3_a less a1 s9 t.1 t.2
  | .inr y => some (.ret y)
def so_stable_L2_b {α : Type} (less : Int → Int → List α → Option Bool) (a1 : Int) (s8 : (List α)) (s9 : Int) : Option (Ctl ((List α) × Int) (List α) (List α)) :=
  bif (decide (s9 < a1)) then
  (loopM (so_stable_L3 less a1 s9) big (s8, 0, w64 (2 * s9))).bind (so_stable_L3_k less a1 s9)
  else
  some (.brk s8)
def so_stable_L2 {α : Type} (less : Int → Int → List α → Option Bool) (a1 : Int) (s : (List α) × Int) : Option (Ctl ((List α) × Int) (List α) (List α)) := so_stable_L2_b less a1 s.1 s.2
def so_stable_L2_a {α : Type} (s10 : (List α)) : Option (List α) :=
  some s10
def so_stable_L2_k {α : Type} (x : ((List α)) ⊕ ((List α))) : Option (List α) := match x with
  | .inl t => so_stable_L2_a t
  | .inr y => some y
def so_stable_L1_b {α : Type} (less : Int → Int → List α → Option Bool) (a1 : Int) (s1 : (List α)) (s2 : Int) (s3 : Int) : Option (Ctl ((List α) × Int × Int) ((List α) × Int) (List α)) :=
  bif (decide (s3 ≤ a1)) then
  (so_insertionSort less s1 s2 s3).bind fun v24 =>
  some (.next (v24, s3, w64 (s3 + 20)))
  else
  some (.brk (s1, s2))
def so_stable_L1 {α : Type} (less : Int → Int → List α → Option Bool) (a1 : Int) (s : (List α) × Int × Int) : Option (Ctl ((List α) × Int × Int) ((List α) × Int) (List α)) := so_stable_L1_b less a1 s.1 s.2.1 s.2.2
def so_stable_L1_a {α : Type} (less : Int → Int → List α → Option Bool) (a1 : Int) (s4 : (List α)) (s5 : Int) : Option (List α) :=
  (so_insertionSort less s4 s5 a1).bind fun v6 =>
  (loopM (so_stable_L2 less a1) big (v6, 20)).bind (so_stable_L2_k)
def so_stable_L1_k {α : Type} (less : Int → Int → List α → Option Bool) (a1 : Int) (x : ((List α) × Int) ⊕ ((List α))) : Option (List α) := match x with
  | .inl t => so_stable_L1_a less a1 t.1 t.2
  | .inr y => some y
def so_stable {α : Type} (less : Int → Int → List α → Option Bool) (a0 : ((List α))) (a1 : Int) : Option (List α) :=
  (loopM (so_stable_L1 less a1) big (a0, 0, 20)).bind (so_stable_L1_k less a1)
end Go.Sx
end
section
/- The library's stable sort, over any comparison: blocks exchanged and turned; a search by halves. -/
namespace Go.Sx
set_option linter.unusedVariables false

theorem nat64 {n : Nat} (h : n ≤ 4611686018427387904) : w64 (n : Int) = n := w64_id (by omega) (by omega)
/-- the middle of two indices, as Go writes it -/
theorem mid64 {x y : Nat} (h : x + y ≤ 4611686018427387904) : w64 (Int.fdiv (IntKind.u64.wrap (w64 ((x : Int) + y))) (2 ^ 1)) = (((x + y) / 2 : Nat) : Int) := by
  have e1 : w64 ((x : Int) + y) = ((x + y : Nat) : Int) := by
    rw [show (x : Int) + y = ((x + y : Nat) : Int) by omega]; exact nat64 h
  rw [e1]
  have e2 : IntKind.u64.wrap ((x + y : Nat) : Int) = ((x + y : Nat) : Int) := by
    simp [IntKind.wrap, IntKind.bits, IntKind.signed]; omega
  rw [e2, show ((x + y : Nat) : Int).fdiv (2 ^ 1) = (((x + y) / 2 : Nat) : Int) by
    rw [Int.fdiv_eq_ediv_of_nonneg _ (by omega)]; omega]
  exact nat64 (by omega)
theorem gi_at {α : Type} {L R : List α} {x : α} {i : Int} (hi : i = (L.length : Nat)) : gi (L ++ x :: R) i = some x := by
  subst hi; simp [gi]
theorem gi_app {α : Type} (l : List α) (i : Nat) : gi l (i : Int) = l[i]? := by simp [gi]
/-- two places exchanged -/
theorem set_two {α : Type} {L M R : List α} {x y : α} {i j : Nat} (hi : i = L.length) (hj : j = L.length + 1 + M.length) : List.set (List.set (L ++ x :: (M ++ y :: R)) i y) j x = L ++ y :: (M ++ x :: R) := by
  subst hi hj
  have h1 : ¬ (L.length + 1 + M.length < L.length) := by omega
  have h2 : L.length + 1 + M.length - L.length = M.length + 1 := by omega
  simp [List.set_append, h1, h2]
theorem set_two' {α : Type} {L M R : List α} {x y : α} {i j : Nat} (hi : i = L.length) (hj : j = L.length + 1 + M.length) : List.set (List.set (L ++ x :: (M ++ y :: R)) j x) i y = L ++ y :: (M ++ x :: R) := by
  subst hi hj
  have h1 : ¬ (L.length + 1 + M.length < L.length) := by omega
  have h2 : L.length + 1 + M.length - L.length = M.length + 1 := by omega
  simp [List.set_append, h1, h2]
/-- a loop that comes to its end: I holds on the way, m falls -/
theorem loop_end {σ τ ρ : Type} {body : σ → Option (Ctl σ τ ρ)} (I : σ → Prop) (m : σ → Nat) (Q : τ → Prop)
    (h : ∀ s, I s → (∃ s', body s = some (.next s') ∧ I s' ∧ m s' < m s) ∨ (∃ t, body s = some (.brk t) ∧ Q t)) : ∀ (n : Nat) (s : σ), I s → m s < n → ∃ t, loopM body n s = some (.inl t) ∧ Q t
  | 0, s, _, hn => by omega
  | n + 1, s, hI, hn => by
    rcases h s hI with ⟨s', e, hI', hm⟩ | ⟨t, e, hQ⟩
    · obtain ⟨t, e2, hQ⟩ := loop_end I m Q h n s' hI' (by omega)
      exact ⟨t, by simp only [loopM, e]; exact e2, hQ⟩
    · exact ⟨t, by simp only [loopM, e], hQ⟩
abbrev LIM : Nat := 1048576
theorem lim_big {n : Nat} (h : n ≤ 4 * LIM) : n < big := by unfold big; unfold LIM at h; omega

/-- a search by halves -/
theorem bs_loop {ρ : Type} {body : Int × Int → Option (Ctl (Int × Int) Int ρ)} (p : Nat → Bool) (lo hi : Nat) (hhi : hi ≤ LIM)
    (hb : ∀ x y : Nat, lo ≤ x → x < y → y ≤ hi → body ((x : Int), (y : Int)) = if p ((x + y) / 2) then some (.next ((((x + y) / 2 + 1 : Nat) : Int), (y : Int))) else some (.next ((x : Int), (((x + y) / 2 : Nat) : Int))))
    (he : ∀ x : Nat, lo ≤ x → x ≤ hi → body ((x : Int), (x : Int)) = some (.brk (x : Int)))
    (mono : ∀ h h', lo ≤ h → h ≤ h' → h' < hi → p h' = true → p h = true) (hle : lo ≤ hi) :
    ∃ i : Nat, lo ≤ i ∧ i ≤ hi ∧ loopM body big ((lo : Int), (hi : Int)) = some (.inl (i : Int)) ∧ (∀ h, lo ≤ h → h < i → p h = true) ∧ (∀ h, i ≤ h → h < hi → p h = false) := by
  have key := loop_end (body := body) (fun s => ∃ x y : Nat, s = ((x : Int), (y : Int)) ∧ lo ≤ x ∧ x ≤ y ∧ y ≤ hi ∧ (∀ h, lo ≤ h → h < x → p h = true) ∧ (∀ h, y ≤ h → h < hi → p h = false)) (fun s => (s.2 - s.1).toNat)
    (fun t => ∃ i : Nat, t = (i : Int) ∧ lo ≤ i ∧ i ≤ hi ∧ (∀ h, lo ≤ h → h < i → p h = true) ∧ (∀ h, i ≤ h → h < hi → p h = false)) (fun s hs => by
      obtain ⟨x, y, rfl, h1, h2, h3, h4, h5⟩ := hs
      by_cases hxy : x < y
      · left
        rw [hb x y h1 hxy h3]
        have hm1 : x ≤ (x + y) / 2 := by omega
        have hm2 : (x + y) / 2 < y := by omega
        cases hp : p ((x + y) / 2) with
        | true =>
          refine ⟨_, by rw [if_pos rfl], ⟨(x + y) / 2 + 1, y, rfl, by omega, by omega, h3, fun h hl hh => ?_, h5⟩, by simp only; omega⟩
          exact mono h ((x + y) / 2) hl (by omega) (by omega) hp
        | false =>
          refine ⟨_, by rw [if_neg (by simp)], ⟨x, (x + y) / 2, rfl, h1, hm1, by omega, h4, fun h hl hh => ?_⟩, by simp only; omega⟩
          cases hq : p h with
          | false => rfl
          | true => rw [mono ((x + y) / 2) h (by omega) hl hh hq] at hp; cases hp
      · right
        have hxy : x = y := by omega
        subst hxy
        exact ⟨_, he x h1 h3, x, rfl, h1, h3, h4, h5⟩) big ((lo : Int), (hi : Int)) ⟨lo, hi, rfl, Nat.le_refl _, hle, Nat.le_refl _, fun h a b => by omega, fun h a b => by omega⟩ (by simp only; exact lim_big (by omega))
  obtain ⟨t, e, i, rfl, h1, h2, h3, h4⟩ := key
  exact ⟨i, h1, h2, e, h3, h4⟩

section
variable {α : Type}
/-- two blocks of one length are exchanged -/
theorem so_swapRange_spec (P X M Y S : List α) (hXY : X.length = Y.length) (hl : (P ++ X ++ M ++ Y ++ S).length ≤ LIM) (hX : 0 < X.length) :
    so_swapRange (P ++ X ++ M ++ Y ++ S) (P.length : Nat) ((P.length + X.length + M.length : Nat) : Int) (X.length : Nat) = some (P ++ Y ++ M ++ X ++ S) := by
  unfold LIM at hl
  simp only [List.length_append] at hl
  have key := loop_val (body := so_swapRange_L1 (P.length : Int) ((P.length + X.length + M.length : Nat) : Int) (X.length : Int)) X.length
    (fun i => (P ++ Y.take i ++ X.drop i ++ M ++ X.take i ++ Y.drop i ++ S, (i : Int))) (P ++ Y ++ M ++ X ++ S) (by omega) (fun i hi => by
      have hiY : i < Y.length := by omega
      have e1 : X.drop i = X[i] :: X.drop (i + 1) := (List.drop_eq_getElem_cons hi)
      have e2 : Y.drop i = Y[i] :: Y.drop (i + 1) := (List.drop_eq_getElem_cons hiY)
      have e3 : X.take (i + 1) = X.take i ++ [X[i]] := by rw [List.take_succ_eq_append_getElem hi]
      have e4 : Y.take (i + 1) = Y.take i ++ [Y[i]] := by rw [List.take_succ_eq_append_getElem hiY]
      have i1 : w64 ((P.length : Int) + i) = ((P.length + i : Nat) : Int) := by rw [show (P.length : Int) + i = ((P.length + i : Nat) : Int) by omega]; exact nat64 (by omega)
      have i2 : w64 (((P.length + X.length + M.length : Nat) : Int) + i) = ((P.length + X.length + M.length + i : Nat) : Int) := by rw [show ((P.length + X.length + M.length : Nat) : Int) + i = ((P.length + X.length + M.length + i : Nat) : Int) by omega]; exact nat64 (by omega)
      have hrow : P ++ Y.take i ++ X.drop i ++ M ++ X.take i ++ Y.drop i ++ S = (P ++ Y.take i) ++ X[i] :: ((X.drop (i + 1) ++ M ++ X.take i) ++ Y[i] :: (Y.drop (i + 1) ++ S)) := by rw [e1, e2]; simp only [List.append_assoc, List.cons_append]
      have hrow' : (P ++ Y.take i) ++ Y[i] :: ((X.drop (i + 1) ++ M ++ X.take i) ++ X[i] :: (Y.drop (i + 1) ++ S)) = P ++ Y.take (i + 1) ++ X.drop (i + 1) ++ M ++ X.take (i + 1) ++ Y.drop (i + 1) ++ S := by rw [e3, e4]; simp only [List.append_assoc, List.cons_append, List.nil_append]
      have g1 : gi (P ++ Y.take i ++ X.drop i ++ M ++ X.take i ++ Y.drop i ++ S) ((P.length + i : Nat) : Int) = some X[i] := by
        rw [hrow]; exact gi_at (by simp; omega)
      have g2 : gi (P ++ Y.take i ++ X.drop i ++ M ++ X.take i ++ Y.drop i ++ S) ((P.length + X.length + M.length + i : Nat) : Int) = some Y[i] := by
        rw [hrow, show (P ++ Y.take i) ++ X[i] :: ((X.drop (i + 1) ++ M ++ X.take i) ++ Y[i] :: (Y.drop (i + 1) ++ S)) = (P ++ Y.take i ++ X[i] :: (X.drop (i + 1) ++ M ++ X.take i)) ++ Y[i] :: (Y.drop (i + 1) ++ S) by simp only [List.append_assoc, List.cons_append]]
        exact gi_at (by simp; omega)
      have hd : decide ((i : Int) < (X.length : Int)) = true := by simp; exact hi
      simp only [so_swapRange_L1, so_swapRange_L1_b, hd, cond_true, i1, i2, g1, g2, Option.bind_some, w64_succ (show i ≤ 1048576 by omega)]
      rw [← hrow', hrow]
      rw [set_two (by simp; omega) (by simp; omega)]) (by
      have hd : decide ((X.length : Int) < (X.length : Int)) = false := by simp
      simp only [so_swapRange_L1, so_swapRange_L1_b, hd, cond_false]
      rw [List.drop_length, List.take_length, List.take_of_length_le (show Y.length ≤ X.length by omega), List.drop_eq_nil_of_le (show Y.length ≤ X.length by omega), List.append_nil, List.append_nil])
  unfold so_swapRange
  have h0 : ((P ++ Y.take 0 ++ X.drop 0 ++ M ++ X.take 0 ++ Y.drop 0 ++ S, ((0 : Nat) : Int)) : List α × Int) = (P ++ X ++ M ++ Y ++ S, 0) := by simp
  simp only [h0] at key
  rw [key]
  rfl
end
end Go.Sx
end
section
/- The library's stable sort, over any comparison: two neighbouring blocks change places; one element moves. -/
namespace Go.Sx
set_option linter.unusedVariables false
section
variable {α : Type}
theorem sub64 {x y : Nat} (h : y ≤ x) (hx : x ≤ 4611686018427387904) : w64 ((x : Int) - y) = ((x - y : Nat) : Int) := by
  rw [show (x : Int) - y = ((x - y : Nat) : Int) by omega]; exact nat64 (by omega)
theorem add64 {x y : Nat} (hx : x + y ≤ 4611686018427387904) : w64 ((x : Int) + y) = ((x + y : Nat) : Int) := by
  rw [show (x : Int) + y = ((x + y : Nat) : Int) by omega]; exact nat64 hx
/-- A ++ B becomes B ++ A -/
theorem so_rotate_spec (P A B S : List α) (hA : 0 < A.length) (hB : 0 < B.length) (hl : (P ++ A ++ B ++ S).length ≤ LIM) {a m b : Int} (ha : a = (P.length : Nat)) (hm : m = ((P.length + A.length : Nat) : Int)) (hb : b = ((P.length + A.length + B.length : Nat) : Int)) :
    so_rotate (P ++ A ++ B ++ S) a m b = some (P ++ B ++ A ++ S) := by
  subst ha hm hb
  have key := loop_end (body := so_rotate_L1 ((P.length + A.length : Nat) : Int) (α := α))
    (fun s => ∃ P' A' B' S' : List α, s = (P' ++ A' ++ B' ++ S', ((A'.length : Nat) : Int), ((B'.length : Nat) : Int)) ∧ 0 < A'.length ∧ 0 < B'.length ∧ P'.length + A'.length = P.length + A.length ∧ P' ++ B' ++ A' ++ S' = P ++ B ++ A ++ S) (fun s => (s.2.1 + s.2.2).toNat)
    (fun t => ∃ P' A' B' S' : List α, t = (P' ++ A' ++ B' ++ S', ((A'.length : Nat) : Int)) ∧ A'.length = B'.length ∧ 0 < A'.length ∧ P'.length + A'.length = P.length + A.length ∧ P' ++ B' ++ A' ++ S' = P ++ B ++ A ++ S) (fun s hs => by
      obtain ⟨P', A', B', S', rfl, hA', hB', hm', hF⟩ := hs
      have hlen : (P' ++ A' ++ B' ++ S').length = (P ++ A ++ B ++ S).length := by
        have := congrArg List.length hF
        simp only [List.length_append] at this ⊢
        omega
      have hl' : (P' ++ A' ++ B' ++ S').length ≤ LIM := by rw [hlen]; exact hl
      have hlx := hl'
      unfold LIM at hlx
      simp only [List.length_append] at hlx
      have e1 : w64 (((P.length + A.length : Nat) : Int) - (A'.length : Nat)) = ((P'.length : Nat) : Int) := by
        rw [sub64 (by omega) (by omega)]; congr 1; omega
      rcases Nat.lt_trichotomy A'.length B'.length with h | h | h
      · left
        -- the right block is longer
        have hR : B' = B'.take (B'.length - A'.length) ++ B'.drop (B'.length - A'.length) := (List.take_append_drop _ _).symm
        generalize h1 : B'.take (B'.length - A'.length) = R1 at hR
        generalize h2 : B'.drop (B'.length - A'.length) = R2 at hR
        have l1 : R1.length = B'.length - A'.length := by rw [← h1, List.length_take]; omega
        have l2 : R2.length = A'.length := by rw [← h2, List.length_drop]; omega
        have e2 : w64 ((w64 (((P.length + A.length : Nat) : Int) + ((B'.length : Nat) : Int))) - ((A'.length : Nat) : Int)) = ((P'.length + A'.length + R1.length : Nat) : Int) := by
          rw [add64 (by omega), sub64 (by omega) (by omega)]; congr 1; omega
        have hsw := so_swapRange_spec P' A' R1 R2 S' l2.symm (by rw [hR] at hl'; simpa using hl') hA'
        refine ⟨(P' ++ R2 ++ R1 ++ A' ++ S', ((A'.length : Nat) : Int), ((R1.length : Nat) : Int)), ?_, ⟨P', R2, R1, A' ++ S', ?_, by omega, by omega, by omega, ?_⟩, ?_⟩
        · have c1 : ((((A'.length : Nat) : Int)) != ((B'.length : Nat) : Int)) = true := by rw [bneI]; simp; omega
          have c2 : decide (((A'.length : Nat) : Int) > ((B'.length : Nat) : Int)) = false := by simp; omega
          simp only [so_rotate_L1, so_rotate_L1_b, c1, c2, cond_true, cond_false, e1, e2]
          rw [show P' ++ A' ++ B' ++ S' = P' ++ A' ++ R1 ++ R2 ++ S' by rw [hR]; simp, hsw, Option.bind_some, sub64 (by omega) (by omega), ← l1]
        · simp only [List.append_assoc, l2]
        · rw [← hF, hR]; simp
        · simp only; omega
      · right
        have c1 : ((((A'.length : Nat) : Int)) != ((B'.length : Nat) : Int)) = false := by rw [bneI]; simp; omega
        exact ⟨(P' ++ A' ++ B' ++ S', ((A'.length : Nat) : Int)), by simp only [so_rotate_L1, so_rotate_L1_b, c1, cond_false], P', A', B', S', rfl, h, hA', hm', hF⟩
      · left
        have hR : A' = A'.take B'.length ++ A'.drop B'.length := (List.take_append_drop _ _).symm
        generalize h1 : A'.take B'.length = L1 at hR
        generalize h2 : A'.drop B'.length = L2 at hR
        have l1 : L1.length = B'.length := by rw [← h1, List.length_take]; omega
        have l2 : L2.length = A'.length - B'.length := by rw [← h2, List.length_drop]
        have hsw := so_swapRange_spec P' L1 L2 B' S' l1 (by rw [hR] at hl'; simpa using hl') (by omega)
        rw [show P'.length + L1.length + L2.length = P.length + A.length by omega, l1] at hsw
        refine ⟨(P' ++ B' ++ L2 ++ L1 ++ S', ((L2.length : Nat) : Int), ((B'.length : Nat) : Int)), ?_, ⟨P' ++ B', L2, L1, S', ?_, by omega, by omega, by simp; omega, ?_⟩, ?_⟩
        · have c1 : ((((A'.length : Nat) : Int)) != ((B'.length : Nat) : Int)) = true := by rw [bneI]; simp; omega
          have c2 : decide (((A'.length : Nat) : Int) > ((B'.length : Nat) : Int)) = true := by simp; omega
          simp only [so_rotate_L1, so_rotate_L1_b, c1, c2, cond_true, e1]
          rw [show P' ++ A' ++ B' ++ S' = P' ++ L1 ++ L2 ++ B' ++ S' by rw [hR]; simp, hsw, Option.bind_some, sub64 (by omega) (by omega), ← l2]
        · rw [l1]
        · rw [← hF, hR]; simp
        · simp only; omega) big (P ++ A ++ B ++ S, ((A.length : Nat) : Int), ((B.length : Nat) : Int)) ⟨P, A, B, S, rfl, hA, hB, rfl, rfl⟩
      (by simp only [List.length_append] at hl; simp only; unfold LIM at hl; exact lim_big (by unfold LIM; omega))
  obtain ⟨t, e, P', A', B', S', rfl, h1, h2, h3, h4⟩ := key
  have hlx := hl
  unfold LIM at hlx
  simp only [List.length_append] at hlx
  have hlen := congrArg List.length h4
  simp only [List.length_append] at hlen
  unfold so_rotate
  rw [sub64 (by omega) (by omega), sub64 (by omega) (by omega), show P.length + A.length - P.length = A.length by omega, show P.length + A.length + B.length - (P.length + A.length) = B.length by omega, e]
  have hsw := so_swapRange_spec P' A' [] B' S' h1 (by unfold LIM; simp only [List.length_append, List.length_nil]; omega) h2
  simp only [List.append_nil, List.length_nil, Nat.add_zero, h3] at hsw
  simp only [Option.bind_some, so_rotate_L1_k, so_rotate_L1_a]
  rw [sub64 (by omega) (by omega), show P.length + A.length - A'.length = P'.length by omega, hsw, Option.bind_some, h4]

/-- one element moves to the left over a block -/
theorem shift_left {body : List α × Int → Option (Ctl (List α × Int) (List α) (List α))} (P A S : List α) (x : α) (hl : (P ++ A ++ x :: S).length ≤ LIM)
    (hb : ∀ (L R : List α) (y : α), P.length ≤ L.length → (L ++ y :: x :: R).length ≤ LIM → body (L ++ y :: x :: R, ((L.length + 1 : Nat) : Int)) = some (.next (L ++ x :: y :: R, ((L.length : Nat) : Int))))
    (he : ∀ R : List α, body (P ++ R, ((P.length : Nat) : Int)) = some (.brk (P ++ R))) :
    loopM body big (P ++ A ++ x :: S, ((P.length + A.length : Nat) : Int)) = some (.inl (P ++ x :: A ++ S)) := by
  have key := loop_end (body := body) (fun s => ∃ A1 A2 : List α, s = (P ++ A1 ++ x :: (A2 ++ S), ((P.length + A1.length : Nat) : Int)) ∧ A1 ++ A2 = A) (fun s => s.2.toNat) (fun t => t = P ++ x :: A ++ S) (fun s hs => by
    obtain ⟨A1, A2, rfl, hA⟩ := hs
    rcases List.eq_nil_or_concat A1 with rfl | ⟨A1', y, rfl⟩
    · right
      refine ⟨P ++ x :: (A2 ++ S), by simpa using he (x :: (A2 ++ S)), ?_⟩
      rw [← hA]; simp
    · left
      have hlen : (P ++ A1' ++ y :: x :: (A2 ++ S)).length ≤ LIM := by
        have : (P ++ A ++ x :: S).length = (P ++ A1' ++ y :: x :: (A2 ++ S)).length := by rw [← hA]; simp; omega
        rw [← this]; exact hl
      refine ⟨(P ++ A1' ++ x :: (y :: A2 ++ S), ((P.length + A1'.length : Nat) : Int)), ?_, ⟨A1', y :: A2, rfl, by rw [← hA]; simp⟩, by simp only [List.concat_eq_append, List.length_append, List.length_cons, List.length_nil]; omega⟩
      have := hb (P ++ A1') (A2 ++ S) y (by simp) hlen
      simp only [List.length_append] at this
      rw [show P ++ A1'.concat y ++ x :: (A2 ++ S) = P ++ A1' ++ y :: x :: (A2 ++ S) by simp, show P.length + (A1'.concat y).length = P.length + A1'.length + 1 by simp; omega, this]
      simp) big (P ++ A ++ x :: S, ((P.length + A.length : Nat) : Int)) ⟨A, [], by simp, by simp⟩ (by simp only [List.length_append, List.length_cons] at hl; unfold LIM at hl; exact lim_big (by unfold LIM; simp only; omega))
  obtain ⟨t, e, rfl⟩ := key
  exact e
/-- one element moves to the right over a block -/
theorem shift_right {body : List α × Int → Option (Ctl (List α × Int) (List α) (List α))} (P A S : List α) (x : α) (hl : (P ++ x :: A ++ S).length ≤ LIM)
    (hb : ∀ (L R : List α) (y : α), L.length < P.length + A.length → (L ++ x :: y :: R).length ≤ LIM → body (L ++ x :: y :: R, ((L.length : Nat) : Int)) = some (.next (L ++ y :: x :: R, ((L.length + 1 : Nat) : Int))))
    (he : ∀ R : List α, body (R, ((P.length + A.length : Nat) : Int)) = some (.brk R)) :
    loopM body big (P ++ x :: A ++ S, ((P.length : Nat) : Int)) = some (.inl (P ++ A ++ x :: S)) := by
  have key := loop_end (body := body) (fun s => ∃ A1 A2 : List α, s = (P ++ A1 ++ x :: (A2 ++ S), ((P.length + A1.length : Nat) : Int)) ∧ A1 ++ A2 = A) (fun s => P.length + A.length - s.2.toNat) (fun t => t = P ++ A ++ x :: S) (fun s hs => by
    obtain ⟨A1, A2, rfl, hA⟩ := hs
    have hal := congrArg List.length hA
    simp only [List.length_append] at hal
    cases A2 with
    | nil =>
      right
      simp only [List.append_nil] at hA
      subst hA
      exact ⟨P ++ A1 ++ x :: ([] ++ S), he _, by simp⟩
    | cons y A2 =>
      left
      have hlen : (P ++ A1 ++ x :: y :: (A2 ++ S)).length ≤ LIM := by
        have : (P ++ x :: A ++ S).length = (P ++ A1 ++ x :: y :: (A2 ++ S)).length := by rw [← hA]; simp; omega
        rw [← this]; exact hl
      simp only [List.length_cons] at hal
      refine ⟨(P ++ (A1 ++ [y]) ++ x :: (A2 ++ S), ((P.length + (A1 ++ [y]).length : Nat) : Int)), ?_, ⟨A1 ++ [y], A2, rfl, by rw [← hA]; simp⟩, ?_⟩
      · have := hb (P ++ A1) (A2 ++ S) y (by simp; omega) hlen
        simp only [List.length_append] at this
        simp only [List.cons_append, this, List.length_append, List.length_cons, List.length_nil]
        simp [Nat.add_assoc]
      · simp only [List.length_append, List.length_cons, List.length_nil]; omega) big (P ++ x :: A ++ S, ((P.length : Nat) : Int)) ⟨[], A, by simp, by simp⟩ (by simp only [List.length_append, List.length_cons] at hl; unfold LIM at hl; exact lim_big (by unfold LIM; simp only; omega))
  obtain ⟨t, e, rfl⟩ := key
  exact e
end
end Go.Sx
end
section
/- The library's stable sort, over any comparison: the insertion sort. -/
namespace Go.Sx
set_option linter.unusedVariables false
/-- a strict weak order -/
structure Swo {α : Type} (lt : α → α → Bool) : Prop where
  asym : ∀ a b, lt a b = true → lt b a = false
  trans : ∀ a b c, lt b a = false → lt c b = false → lt c a = false
theorem Swo.refl {α : Type} {lt : α → α → Bool} (h : Swo lt) (a : α) : lt a a = false := by
  cases hc : lt a a with
  | false => rfl
  | true => rw [h.asym a a hc] at hc; cases hc
abbrev Srt {α : Type} (lt : α → α → Bool) (l : List α) : Prop := l.Pairwise (fun a b => lt b a = false)
theorem Srt.get {α : Type} {lt : α → α → Bool} (h : Swo lt) {l : List α} (hs : Srt lt l) {i j : Nat} {x y : α} (hi : l[i]? = some x) (hj : l[j]? = some y) (hij : i ≤ j) : lt y x = false := by
  obtain ⟨h1, rfl⟩ := List.getElem?_eq_some_iff.1 hi
  obtain ⟨h2, rfl⟩ := List.getElem?_eq_some_iff.1 hj
  rcases Nat.lt_or_eq_of_le hij with h3 | rfl
  · exact List.pairwise_iff_getElem.1 hs i j h1 h2 h3
  · exact h.refl _
theorem Srt.put {α : Type} {lt : α → α → Bool} {A1 A2 : List α} {x : α} (hs : Srt lt (A1 ++ A2)) (h1 : ∀ y ∈ A1, lt x y = false) (h2 : ∀ y ∈ A2, lt y x = false) : Srt lt (A1 ++ x :: A2) := by
  obtain ⟨s1, s2, s3⟩ := List.pairwise_append.1 hs
  refine List.pairwise_append.2 ⟨s1, List.pairwise_cons.2 ⟨fun y hy => h2 y hy, s2⟩, fun y hy z hz => ?_⟩
  cases hz with
  | head => exact h1 y hy
  | tail _ hz => exact s3 y hy z hz
/-- the comparison reads two places of the row -/
abbrev Rds {α : Type} (less : Int → Int → List α → Option Bool) (lt : α → α → Bool) : Prop := ∀ (row : List α) (i j : Nat) (x y : α), row[i]? = some x → row[j]? = some y → less (i : Int) (j : Int) row = some (lt x y)
section
variable {α : Type} {less : Int → Int → List α → Option Bool} {lt : α → α → Bool}
theorem so_insert (hO : Swo lt) (hR : Rds less lt) (P A S : List α) (x : α) (hl : (P ++ A ++ x :: S).length ≤ LIM) (hs : Srt lt A) :
    ∃ A1 A2, loopM (so_insertionSort_L2 less ((P.length : Nat) : Int)) big (P ++ A ++ x :: S, ((P.length + A.length : Nat) : Int)) = some (.inl (P ++ A1 ++ x :: (A2 ++ S))) ∧ A1 ++ A2 = A ∧ Srt lt (A1 ++ x :: A2) := by
  have key := loop_end (body := so_insertionSort_L2 less ((P.length : Nat) : Int)) (fun s => ∃ A1 A2 : List α, s = (P ++ A1 ++ x :: (A2 ++ S), ((P.length + A1.length : Nat) : Int)) ∧ A1 ++ A2 = A ∧ ∀ y ∈ A2, lt x y = true) (fun s => s.2.toNat)
    (fun t => ∃ A1 A2 : List α, t = P ++ A1 ++ x :: (A2 ++ S) ∧ A1 ++ A2 = A ∧ (∀ y ∈ A2, lt x y = true) ∧ ∀ y ∈ A1, lt x y = false) (fun s hs' => by
    obtain ⟨A1, A2, rfl, hA, h2⟩ := hs'
    have hlen : (P ++ A1 ++ x :: (A2 ++ S)).length ≤ LIM := by
      have : (P ++ A ++ x :: S).length = (P ++ A1 ++ x :: (A2 ++ S)).length := by rw [← hA]; simp; omega
      rw [← this]; exact hl
    unfold LIM at hlen
    simp only [List.length_append, List.length_cons] at hlen
    rcases List.eq_nil_or_concat A1 with rfl | ⟨A1', y, rfl⟩
    · right
      refine ⟨P ++ [] ++ x :: (A2 ++ S), ?_, [], A2, rfl, hA, h2, by simp⟩
      have c : decide (((P.length + ([] : List α).length : Nat) : Int) > ((P.length : Nat) : Int)) = false := by simp
      simp only [so_insertionSort_L2, so_insertionSort_L2_b, c, cond_false]
    · have hc : decide (((P.length + (A1'.concat y).length : Nat) : Int) > ((P.length : Nat) : Int)) = true := by simp; omega
      have e1 : P.length + (A1'.concat y).length = (P ++ A1').length + 1 := by simp; omega
      have e2 : w64 ((((P ++ A1').length + 1 : Nat) : Int) - 1) = (((P ++ A1').length : Nat) : Int) := by
        have := sub64 (x := (P ++ A1').length + 1) (y := 1) (by omega) (by simp only [List.concat_eq_append, List.length_append, List.length_cons, List.length_nil] at hlen ⊢; omega)
        simpa using this
      have e3 : P ++ A1'.concat y ++ x :: (A2 ++ S) = (P ++ A1') ++ y :: x :: (A2 ++ S) := by simp
      have g1 : ((P ++ A1') ++ y :: x :: (A2 ++ S))[(P ++ A1').length + 1]? = some x := by rw [List.getElem?_append_right (by omega)]; simp
      have g2 : ((P ++ A1') ++ y :: x :: (A2 ++ S))[(P ++ A1').length]? = some y := by simp
      have hlt := hR _ _ _ _ _ g1 g2
      rw [e1] at hc ⊢
      rw [e3]
      cases hxy : lt x y with
      | true =>
        left
        refine ⟨(P ++ A1' ++ x :: (y :: A2 ++ S), ((P.length + A1'.length : Nat) : Int)), ?_, ⟨A1', y :: A2, rfl, by rw [← hA]; simp, fun z hz => ?_⟩, by simp only [List.length_append]; omega⟩
        · simp only [so_insertionSort_L2, so_insertionSort_L2_b, hc, cond_true, e2, hlt, hxy, Option.bind_some, gi_app, g1, g2]
          have := set_two' (L := P ++ A1') (M := []) (R := A2 ++ S) (x := y) (y := x) (i := Int.toNat (((P ++ A1').length : Nat) : Int)) (j := Int.toNat ((((P ++ A1').length + 1 : Nat)) : Int)) (Int.toNat_natCast _) (by rw [Int.toNat_natCast]; rfl)
          simp only [List.nil_append] at this
          rw [this]
          simp
        · cases hz with
          | head => exact hxy
          | tail _ hz => exact h2 z hz
      | false =>
        right
        refine ⟨(P ++ A1') ++ y :: x :: (A2 ++ S), ?_, A1'.concat y, A2, by simp, hA, h2, fun z hz => ?_⟩
        · simp only [so_insertionSort_L2, so_insertionSort_L2_b, hc, cond_true, e2, hlt, hxy, Option.bind_some, cond_false]
        · have hs' : Srt lt (A1'.concat y ++ A2) := by rw [hA]; exact hs
          obtain ⟨s1, _, _⟩ := List.pairwise_append.1 hs'
          rw [List.concat_eq_append] at s1 hz
          obtain ⟨_, _, s4⟩ := List.pairwise_append.1 s1
          rcases List.mem_append.1 hz with hz | hz
          · exact hO.trans z y x (s4 z hz y (by simp)) hxy
          · simp at hz; subst hz; exact hxy) big (P ++ A ++ x :: S, ((P.length + A.length : Nat) : Int)) ⟨A, [], by simp, by simp, by simp⟩ (by simp only [List.length_append, List.length_cons] at hl; unfold LIM at hl; exact lim_big (by unfold LIM; simp only; omega))
  obtain ⟨t, e, A1, A2, rfl, h1, h2, h3⟩ := key
  exact ⟨A1, A2, e, h1, Srt.put (by rw [h1]; exact hs) h3 fun y hy => hO.asym x y (h2 y hy)⟩

theorem so_insertionSort_spec (hO : Swo lt) (hR : Rds less lt) (P A S : List α) (hl : (P ++ A ++ S).length ≤ LIM) {a b : Int} (ha : a = (P.length : Nat)) (hb : b = ((P.length + A.length : Nat) : Int)) :
    ∃ A', so_insertionSort less (P ++ A ++ S) a b = some (P ++ A' ++ S) ∧ A'.Perm A ∧ Srt lt A' := by
  subst ha hb
  have hlx := hl
  unfold LIM at hlx
  simp only [List.length_append] at hlx
  have e0 : w64 (((P.length : Nat) : Int) + 1) = ((P.length + 1 : Nat) : Int) := add64 (y := 1) (by omega)
  cases A with
  | nil =>
    have c : decide (((P.length + 1 : Nat) : Int) < ((P.length + ([] : List α).length : Nat) : Int)) = false := by simp; omega
    have hbrk : so_insertionSort_L1 less ((P.length : Nat) : Int) ((P.length + ([] : List α).length : Nat) : Int) (P ++ [] ++ S, ((P.length + 1 : Nat) : Int)) = some (.brk (P ++ [] ++ S)) := by
      simp only [so_insertionSort_L1, so_insertionSort_L1_b, c, cond_false]
    obtain ⟨t, e, rfl⟩ := loop_end (body := so_insertionSort_L1 less ((P.length : Nat) : Int) ((P.length + ([] : List α).length : Nat) : Int)) (fun s => s = (P ++ [] ++ S, ((P.length + 1 : Nat) : Int))) (fun _ => 0) (fun t => t = P ++ [] ++ S) (fun s hs => by subst hs; exact .inr ⟨_, hbrk, rfl⟩) big _ rfl (lim_big (by omega))
    exact ⟨[], by unfold so_insertionSort; rw [e0, e]; rfl, List.Perm.refl _, List.Pairwise.nil⟩
  | cons x0 A0 =>
    have key := loop_end (body := so_insertionSort_L1 less ((P.length : Nat) : Int) ((P.length + (x0 :: A0).length : Nat) : Int)) (fun s => ∃ A1 A2 : List α, s = (P ++ A1 ++ (A2 ++ S), ((P.length + A1.length : Nat) : Int)) ∧ (A1 ++ A2).Perm (x0 :: A0) ∧ Srt lt A1) (fun s => P.length + (x0 :: A0).length - s.2.toNat)
      (fun t => ∃ A1 : List α, t = P ++ A1 ++ S ∧ A1.Perm (x0 :: A0) ∧ Srt lt A1) (fun s hs => by
      obtain ⟨A1, A2, rfl, hp, hs⟩ := hs
      have hal := hp.length_eq
      simp only [List.length_append] at hal
      cases A2 with
      | nil =>
        right
        have c : decide (((P.length + A1.length : Nat) : Int) < ((P.length + (x0 :: A0).length : Nat) : Int)) = false := by simp at hal ⊢; omega
        refine ⟨P ++ A1 ++ ([] ++ S), by simp only [so_insertionSort_L1, so_insertionSort_L1_b, c, cond_false], A1, by simp, by simpa using hp, hs⟩
      | cons x A2 =>
        left
        have c : decide (((P.length + A1.length : Nat) : Int) < ((P.length + (x0 :: A0).length : Nat) : Int)) = true := by simp only [List.length_cons] at hal ⊢; simp; omega
        obtain ⟨B1, B2, e, h1, h2⟩ := so_insert hO hR P A1 (A2 ++ S) x (by simp only [List.length_append, List.length_cons] at hl hal ⊢; omega) hs
        have hB := congrArg List.length h1
        simp only [List.length_append] at hB
        refine ⟨(P ++ (B1 ++ x :: B2) ++ (A2 ++ S), ((P.length + (B1 ++ x :: B2).length : Nat) : Int)), ?_, ⟨B1 ++ x :: B2, A2, rfl, ?_, h2⟩, ?_⟩
        · simp only [so_insertionSort_L1, so_insertionSort_L1_b, c, cond_true]
          rw [show P ++ A1 ++ (x :: A2 ++ S) = P ++ A1 ++ x :: (A2 ++ S) by simp, e]
          simp only [Option.bind_some, so_insertionSort_L2_k, so_insertionSort_L2_a]
          have e3 : w64 (((P.length + A1.length : Nat) : Int) + 1) = ((P.length + A1.length + 1 : Nat) : Int) := add64 (y := 1) (by simp only [List.length_cons] at hal hlx; omega)
          rw [e3]
          simp only [List.length_append, List.length_cons]
          rw [show P.length + A1.length + 1 = P.length + (B1.length + (B2.length + 1)) by omega]
          simp
        · refine List.Perm.trans ?_ hp
          rw [← h1]
          simp only [List.append_assoc, List.cons_append]
          exact List.Perm.append_left B1 (List.perm_middle (l₁ := B2)).symm
        · simp only [List.length_append, List.length_cons] at hal ⊢; omega) big (P ++ [x0] ++ (A0 ++ S), ((P.length + [x0].length : Nat) : Int)) ⟨[x0], A0, rfl, List.Perm.refl _, by simp [Srt]⟩ (by simp only; exact lim_big (by unfold LIM; simp only [List.length_cons] at hlx ⊢; omega))
    obtain ⟨t, e, A1, rfl, h1, h2⟩ := key
    refine ⟨A1, ?_, h1, h2⟩
    unfold so_insertionSort
    rw [e0]
    simp only [List.length_cons, List.length_nil, Nat.zero_add] at e
    simp only [List.length_cons]
    rw [show P ++ x0 :: A0 ++ S = P ++ [x0] ++ (A0 ++ S) by simp, e]
    rfl
end
end Go.Sx
end
section
/- The library's stable sort, over any comparison: two sorted neighbours are merged in place. -/
namespace Go.Sx
set_option linter.unusedVariables false
section
variable {α : Type} {less : Int → Int → List α → Option Bool} {lt : α → α → Bool}
def so_rest (self : List α → Int → Int → Int → Option (List α)) (a1 a3 M E s : Int) (row : List α) : Option (List α) :=
  (if a1 < s ∧ s < M then self row a1 s M else some row).bind fun row1 => if M < E ∧ E < a3 then self row1 M E a3 else some row1
theorem obind (x : Option (List α)) : (x.bind fun v => some v) = x := by cases x <;> rfl
theorem so_j2_eq {self : List α → Int → Int → Int → Option (List α)} {a1 a2 a3 s M E : Int} (hM : w64 (Int.fdiv (IntKind.u64.wrap (w64 (a1 + a3))) (2 ^ 1)) = M) (hE : w64 ((w64 (M + a2)) - s) = E) (row : List α) :
    so_symMerge_j2 self a1 a2 a3 s row = so_rest self a1 a3 M E s row := by
  unfold so_symMerge_j2 so_symMerge_j3 so_rest
  simp only [hM, hE, obind]
  by_cases h1 : a1 < s <;> by_cases h2 : s < M <;> by_cases h3 : M < E <;> by_cases h4 : E < a3 <;> simp [h1, h2, h3, h4, obind]
theorem so_L5_a_eq {self : List α → Int → Int → Int → Option (List α)} {a1 a2 a3 s M E : Int} (hM : w64 (Int.fdiv (IntKind.u64.wrap (w64 (a1 + a3))) (2 ^ 1)) = M) (hE : w64 ((w64 (M + a2)) - s) = E) (row : List α) :
    so_symMerge_L5_a self row a1 a2 a3 s = (if s < a2 ∧ a2 < E then so_rotate row s a2 E else some row).bind (so_rest self a1 a3 M E s) := by
  unfold so_symMerge_L5_a
  simp only [so_j2_eq hM hE]
  unfold so_symMerge_j4 so_rest
  simp only [hM, hE, obind]
  by_cases h5 : s < a2 <;> by_cases h6 : a2 < E <;> by_cases h1 : a1 < s <;> by_cases h2 : s < M <;> by_cases h3 : M < E <;> by_cases h4 : E < a3 <;> simp [h1, h2, h3, h4, h5, h6, obind]

theorem get_A (P A B S : List α) {k : Nat} (hk : k < A.length) : (P ++ A ++ B ++ S)[P.length + k]? = A[k]? := by
  simp only [List.append_assoc]
  rw [List.getElem?_append_right (by omega), List.getElem?_append_left (by omega)]
  congr 1; omega
theorem get_B (P A B S : List α) {k : Nat} (hk : k < B.length) : (P ++ A ++ B ++ S)[P.length + A.length + k]? = B[k]? := by
  rw [List.append_assoc, List.getElem?_append_right (by simp), List.getElem?_append_left (by simp; omega)]
  congr 1; simp
theorem mem_take' {l : List α} {t : Nat} {y : α} (h : y ∈ l.take t) : ∃ k, k < t ∧ l[k]? = some y := by
  obtain ⟨k, hk, rfl⟩ := List.mem_iff_getElem.1 h
  have : k < t ∧ k < l.length := by rw [List.length_take] at hk; omega
  exact ⟨k, this.1, by rw [List.getElem_take]; exact List.getElem?_eq_getElem this.2⟩
theorem mem_drop' {l : List α} {t : Nat} {y : α} (h : y ∈ l.drop t) : ∃ k, t ≤ k ∧ l[k]? = some y := by
  obtain ⟨k, hk, rfl⟩ := List.mem_iff_getElem.1 h
  have : t + k < l.length := by rw [List.length_drop] at hk; omega
  exact ⟨t + k, by omega, by rw [List.getElem_drop]; exact List.getElem?_eq_getElem this⟩

/-- the first run is one element -/
theorem so_merge_one (hO : Swo lt) (hR : Rds less lt) (P B S : List α) (x : α) (hl : (P ++ [x] ++ B ++ S).length ≤ LIM) (hs : Srt lt B) :
    ∃ C, (loopM (so_symMerge_L1 less (P ++ [x] ++ B ++ S) ((P.length : Nat) : Int)) big (((P.length + 1 : Nat) : Int), ((P.length + 1 + B.length : Nat) : Int))).bind (so_symMerge_L1_k (P ++ [x] ++ B ++ S) ((P.length : Nat) : Int)) = some (P ++ C ++ S) ∧ C.Perm ([x] ++ B) ∧ Srt lt C := by
  have hlx := hl
  unfold LIM at hlx
  simp only [List.length_append, List.length_cons, List.length_nil] at hlx
  have gx : (P ++ [x] ++ B ++ S)[P.length]? = some x := by simp
  have gB : ∀ k, k < B.length → (P ++ [x] ++ B ++ S)[P.length + 1 + k]? = B[k]? := fun k hk => get_B P [x] B S hk
  let p : Nat → Bool := fun h => match B[h - (P.length + 1)]? with
    | some y => lt y x
    | none => false
  have hp : ∀ h, P.length + 1 ≤ h → h < P.length + 1 + B.length → ∃ y, B[h - (P.length + 1)]? = some y ∧ p h = lt y x ∧ less (h : Int) ((P.length : Nat) : Int) (P ++ [x] ++ B ++ S) = some (p h) := fun h h1 h2 => by
    have hk : h - (P.length + 1) < B.length := by omega
    obtain ⟨y, hy⟩ : ∃ y, B[h - (P.length + 1)]? = some y := ⟨_, List.getElem?_eq_getElem hk⟩
    have hpy : p h = lt y x := by simp only [p, hy]
    have hg := gB _ hk
    rw [show P.length + 1 + (h - (P.length + 1)) = h by omega, hy] at hg
    exact ⟨y, hy, hpy, by rw [hpy]; exact hR _ _ _ _ _ hg gx⟩
  obtain ⟨i, i1, i2, hrun, i3, i4⟩ := bs_loop (body := so_symMerge_L1 less (P ++ [x] ++ B ++ S) ((P.length : Nat) : Int)) p (P.length + 1) (P.length + 1 + B.length) (by unfold LIM; omega)
    (fun u v h1 h2 h3 => by
      have c : decide ((u : Int) < (v : Int)) = true := by simp; exact h2
      have hm := mid64 (x := u) (y := v) (by omega)
      obtain ⟨y, _, _, hl'⟩ := hp ((u + v) / 2) (by omega) (by omega)
      simp only [so_symMerge_L1, so_symMerge_L1_b, c, cond_true, hm, hl', Option.bind_some]
      cases p ((u + v) / 2) with
      | true => simp only [cond_true, if_true]; rw [w64_succ (i := (u + v) / 2) (by omega)]
      | false => simp)
    (fun u h1 h2 => by
      have c : decide ((u : Int) < (u : Int)) = false := by simp
      simp only [so_symMerge_L1, so_symMerge_L1_b, c, cond_false])
    (fun h h' h1 h2 h3 ht => by
      obtain ⟨y, hy, hpy, _⟩ := hp h h1 (by omega)
      obtain ⟨y', hy', hpy', _⟩ := hp h' (by omega) h3
      rw [hpy'] at ht
      rw [hpy]
      cases hc : lt y x with
      | true => rfl
      | false => rw [hO.trans x y y' hc (hs.get hO hy hy' (by omega))] at ht; cases ht) (by omega)
  have hBs : B = B.take (i - (P.length + 1)) ++ B.drop (i - (P.length + 1)) := (List.take_append_drop _ _).symm
  have f1 : ∀ y ∈ B.take (i - (P.length + 1)), lt x y = false := fun y hy => by
    obtain ⟨k, hk, hy⟩ := mem_take' hy
    obtain ⟨y', hy', hpy, _⟩ := hp (P.length + 1 + k) (by omega) (by omega)
    rw [show P.length + 1 + k - (P.length + 1) = k by omega, hy] at hy'
    have := i3 (P.length + 1 + k) (by omega) (by omega)
    rw [hpy, ← Option.some.inj hy'] at this
    exact hO.asym _ _ this
  have f2 : ∀ y ∈ B.drop (i - (P.length + 1)), lt y x = false := fun y hy => by
    obtain ⟨k, hk, hy⟩ := mem_drop' hy
    have hkl : k < B.length := (List.getElem?_eq_some_iff.1 hy).1
    obtain ⟨y', hy', hpy, _⟩ := hp (P.length + 1 + k) (by omega) (by omega)
    rw [show P.length + 1 + k - (P.length + 1) = k by omega, hy] at hy'
    have := i4 (P.length + 1 + k) (by omega) (by omega)
    rw [hpy, ← Option.some.inj hy'] at this
    exact this
  generalize h1 : B.take (i - (P.length + 1)) = B1 at hBs f1
  generalize h2 : B.drop (i - (P.length + 1)) = B2 at hBs f2
  have l1 : B1.length = i - (P.length + 1) := by rw [← h1, List.length_take]; omega
  have hl' : (P ++ x :: B1 ++ (B2 ++ S)).length ≤ LIM := by rw [hBs] at hl; simpa using hl
  have hlz := hl'
  unfold LIM at hlz
  simp only [List.length_append, List.length_cons] at hlz
  have hsh := shift_right (body := so_symMerge_L2 (i : Int)) P B1 (B2 ++ S) x hl'
    (fun L R y hL hLl => by
      unfold LIM at hLl
      simp only [List.length_append, List.length_cons] at hLl
      have e1 : w64 ((i : Int) - 1) = ((i - 1 : Nat) : Int) := sub64 (y := 1) (by omega) (by omega)
      have e2 : w64 (((L.length : Nat) : Int) + 1) = ((L.length + 1 : Nat) : Int) := add64 (y := 1) (by omega)
      have c : decide (((L.length : Nat) : Int) < ((i - 1 : Nat) : Int)) = true := by simp; omega
      have g1 : (L ++ x :: y :: R)[L.length]? = some x := by simp
      have g2 : (L ++ x :: y :: R)[L.length + 1]? = some y := by rw [List.getElem?_append_right (by omega)]; simp
      simp only [so_symMerge_L2, so_symMerge_L2_b, e1, e2, c, cond_true, gi_app, g1, g2, Option.bind_some]
      have := set_two (L := L) (M := []) (R := R) (x := x) (y := y) (i := Int.toNat ((L.length : Nat) : Int)) (j := Int.toNat (((L.length + 1 : Nat)) : Int)) (Int.toNat_natCast _) (by rw [Int.toNat_natCast]; rfl)
      simp only [List.nil_append] at this
      rw [this])
    (fun R => by
      have e1 : w64 ((i : Int) - 1) = ((i - 1 : Nat) : Int) := sub64 (y := 1) (by omega) (by omega)
      have c : decide (((P.length + B1.length : Nat) : Int) < ((i - 1 : Nat) : Int)) = false := by simp; omega
      simp only [so_symMerge_L2, so_symMerge_L2_b, e1, c, cond_false])
  refine ⟨B1 ++ x :: B2, ?_, ?_, Srt.put (by rw [← hBs]; exact hs) f1 f2⟩
  · rw [hrun]
    simp only [Option.bind_some, so_symMerge_L1_k, so_symMerge_L1_a]
    rw [show P ++ [x] ++ B ++ S = P ++ x :: B1 ++ (B2 ++ S) by rw [hBs]; simp, hsh]
    simp [so_symMerge_L2_k, so_symMerge_L2_a]
  · rw [hBs]; exact List.perm_middle
/-- the second run is one element -/
theorem so_merge_last (hO : Swo lt) (hR : Rds less lt) (P A S : List α) (x : α) (hl : (P ++ A ++ [x] ++ S).length ≤ LIM) (hs : Srt lt A) :
    ∃ C, (loopM (so_symMerge_L3 less (P ++ A ++ [x] ++ S) ((P.length + A.length : Nat) : Int)) big (((P.length : Nat) : Int), ((P.length + A.length : Nat) : Int))).bind (so_symMerge_L3_k (P ++ A ++ [x] ++ S) ((P.length + A.length : Nat) : Int)) = some (P ++ C ++ S) ∧ C.Perm (A ++ [x]) ∧ Srt lt C := by
  have hlx := hl
  unfold LIM at hlx
  simp only [List.length_append, List.length_cons, List.length_nil] at hlx
  have gx : (P ++ A ++ [x] ++ S)[P.length + A.length]? = some x := by simp
  have gA : ∀ k, k < A.length → (P ++ A ++ [x] ++ S)[P.length + k]? = A[k]? := fun k hk => get_A P A [x] S hk
  let p : Nat → Bool := fun h => match A[h - P.length]? with
    | some y => !lt x y
    | none => false
  have hp : ∀ h, P.length ≤ h → h < P.length + A.length → ∃ y, A[h - P.length]? = some y ∧ p h = !lt x y ∧ less ((P.length + A.length : Nat) : Int) (h : Int) (P ++ A ++ [x] ++ S) = some (!p h) := fun h h1 h2 => by
    have hk : h - P.length < A.length := by omega
    obtain ⟨y, hy⟩ : ∃ y, A[h - P.length]? = some y := ⟨_, List.getElem?_eq_getElem hk⟩
    have hpy : p h = !lt x y := by simp only [p, hy]
    have hg := gA _ hk
    rw [show P.length + (h - P.length) = h by omega, hy] at hg
    exact ⟨y, hy, hpy, by rw [hpy, Bool.not_not]; exact hR _ _ _ _ _ gx hg⟩
  obtain ⟨i, i1, i2, hrun, i3, i4⟩ := bs_loop (body := so_symMerge_L3 less (P ++ A ++ [x] ++ S) ((P.length + A.length : Nat) : Int)) p P.length (P.length + A.length) (by unfold LIM; omega)
    (fun u v h1 h2 h3 => by
      have c : decide ((u : Int) < (v : Int)) = true := by simp; exact h2
      have hm := mid64 (x := u) (y := v) (by omega)
      obtain ⟨y, _, _, hl'⟩ := hp ((u + v) / 2) (by omega) (by omega)
      simp only [so_symMerge_L3, so_symMerge_L3_b, c, cond_true, hm, hl', Option.bind_some, Bool.not_not]
      cases p ((u + v) / 2) with
      | true => simp only [cond_true, if_true]; rw [w64_succ (i := (u + v) / 2) (by omega)]
      | false => simp)
    (fun u h1 h2 => by
      have c : decide ((u : Int) < (u : Int)) = false := by simp
      simp only [so_symMerge_L3, so_symMerge_L3_b, c, cond_false])
    (fun h h' h1 h2 h3 ht => by
      obtain ⟨y, hy, hpy, _⟩ := hp h h1 (by omega)
      obtain ⟨y', hy', hpy', _⟩ := hp h' (by omega) h3
      rw [hpy'] at ht
      rw [hpy]
      have ht : lt x y' = false := by simpa using ht
      rw [hO.trans y y' x (hs.get hO hy hy' (by omega)) ht]; rfl) (by omega)
  have hAs : A = A.take (i - P.length) ++ A.drop (i - P.length) := (List.take_append_drop _ _).symm
  have f1 : ∀ y ∈ A.take (i - P.length), lt x y = false := fun y hy => by
    obtain ⟨k, hk, hy⟩ := mem_take' hy
    obtain ⟨y', hy', hpy, _⟩ := hp (P.length + k) (by omega) (by omega)
    rw [show P.length + k - P.length = k by omega, hy] at hy'
    have := i3 (P.length + k) (by omega) (by omega)
    rw [hpy, ← Option.some.inj hy'] at this
    simpa using this
  have f2 : ∀ y ∈ A.drop (i - P.length), lt y x = false := fun y hy => by
    obtain ⟨k, hk, hy⟩ := mem_drop' hy
    have hkl : k < A.length := (List.getElem?_eq_some_iff.1 hy).1
    obtain ⟨y', hy', hpy, _⟩ := hp (P.length + k) (by omega) (by omega)
    rw [show P.length + k - P.length = k by omega, hy] at hy'
    have := i4 (P.length + k) (by omega) (by omega)
    rw [hpy, ← Option.some.inj hy'] at this
    exact hO.asym _ _ (by simpa using this)
  have l0 : (A.take (i - P.length)).length = i - P.length := by rw [List.length_take]; omega
  generalize h1 : A.take (i - P.length) = A1 at hAs f1 l0
  generalize h2 : A.drop (i - P.length) = A2 at hAs f2
  have hl' : ((P ++ A1) ++ A2 ++ x :: S).length ≤ LIM := by rw [hAs] at hl; simpa using hl
  have hlz := hl'
  unfold LIM at hlz
  simp only [List.length_append, List.length_cons] at hlz
  have hAl := congrArg List.length hAs
  simp only [List.length_append] at hAl
  have hsh := shift_left (body := so_symMerge_L4 (i : Int)) (P ++ A1) A2 S x hl'
    (fun L R y hL hLl => by
      unfold LIM at hLl
      simp only [List.length_append, List.length_cons] at hLl hL
      have e2 : w64 (((L.length + 1 : Nat) : Int) - 1) = ((L.length : Nat) : Int) := by
        have := sub64 (x := L.length + 1) (y := 1) (by omega) (by omega)
        simpa using this
      have c : decide (((L.length + 1 : Nat) : Int) > (i : Int)) = true := by simp; omega
      have g1 : (L ++ y :: x :: R)[L.length]? = some y := by simp
      have g2 : (L ++ y :: x :: R)[L.length + 1]? = some x := by rw [List.getElem?_append_right (by omega)]; simp
      simp only [so_symMerge_L4, so_symMerge_L4_b, e2, c, cond_true, gi_app, g1, g2, Option.bind_some]
      have := set_two' (L := L) (M := []) (R := R) (x := y) (y := x) (i := Int.toNat ((L.length : Nat) : Int)) (j := Int.toNat (((L.length + 1 : Nat)) : Int)) (Int.toNat_natCast _) (by rw [Int.toNat_natCast]; rfl)
      simp only [List.nil_append] at this
      rw [this])
    (fun R => by
      have c : decide ((((P ++ A1).length : Nat) : Int) > (i : Int)) = false := by simp; omega
      simp only [so_symMerge_L4, so_symMerge_L4_b, c, cond_false])
  refine ⟨A1 ++ x :: A2, ?_, ?_, Srt.put (by rw [← hAs]; exact hs) f1 f2⟩
  · rw [hrun]
    simp only [Option.bind_some, so_symMerge_L3_k, so_symMerge_L3_a]
    rw [show P ++ A ++ [x] ++ S = (P ++ A1) ++ A2 ++ x :: S by rw [hAs]; simp, show P.length + A.length = (P ++ A1).length + A2.length by simp; omega, hsh]
    simp [so_symMerge_L4_k, so_symMerge_L4_a]
  · rw [hAs]
    have : (A1 ++ A2 ++ [x]).Perm (A1 ++ (x :: A2)) := by
      rw [List.append_assoc]; exact List.Perm.append_left A1 (List.perm_append_comm (l₁ := A2) (l₂ := [x]))
    exact this.symm
end
end Go.Sx
end
section
/- The library's stable sort, over any comparison: the merge, and the whole. -/
namespace Go.Sx
set_option linter.unusedVariables false
section
variable {α : Type} {less : Int → Int → List α → Option Bool} {lt : α → α → Bool}
theorem Srt.app {A B : List α} (hA : Srt lt A) (hB : Srt lt B) (h : ∀ x ∈ A, ∀ y ∈ B, lt y x = false) : Srt lt (A ++ B) := List.pairwise_append.2 ⟨hA, hB, h⟩
/-- where the two runs are cut -/
theorem so_cut (hO : Swo lt) (hR : Rds less lt) (P A B S : List α) (hA : 1 < A.length) (hB : 1 < B.length) (hl : (P ++ A ++ B ++ S).length ≤ LIM) (hsA : Srt lt A) (hsB : Srt lt B)
    (a m b mid lo hi : Nat) (ha : a = P.length) (hm : m = P.length + A.length) (hb : b = P.length + A.length + B.length) (hmid : mid = (a + b) / 2) (hlh : (mid < m ∧ lo = mid + m - b ∧ hi = mid) ∨ (m ≤ mid ∧ lo = a ∧ hi = m)) :
    ∃ s, a ≤ s ∧ s ≤ m ∧ s ≤ mid ∧ m ≤ mid + m - s ∧ mid + m - s ≤ b ∧ loopM (so_symMerge_L5 less (P ++ A ++ B ++ S) ((a : Nat) : Int) ((m : Nat) : Int) ((b : Nat) : Int)) big (((lo : Nat) : Int), ((hi : Nat) : Int)) = some (.inl ((s : Nat) : Int)) ∧
      (∀ x ∈ A.take (s - a), ∀ y ∈ B.drop (mid - s), lt y x = false) ∧ (∀ y ∈ B.take (mid - s), ∀ x ∈ A.drop (s - a), lt x y = false) := by
  have hlx := hl
  unfold LIM at hlx
  simp only [List.length_append] at hlx
  have gA : ∀ k, k < A.length → (P ++ A ++ B ++ S)[a + k]? = A[k]? := fun k hk => by rw [ha]; exact get_A P A B S hk
  have gB : ∀ k, k < B.length → (P ++ A ++ B ++ S)[m + k]? = B[k]? := fun k hk => by rw [hm]; exact get_B P A B S hk
  let p : Nat → Bool := fun c => match B[mid + m - 1 - c - m]?, A[c - a]? with
    | some u, some v => !lt u v
    | _, _ => false
  have hp : ∀ c, lo ≤ c → c < hi → ∃ u v, B[mid + m - 1 - c - m]? = some u ∧ A[c - a]? = some v ∧ p c = (!lt u v) ∧ less (((mid + m - 1 - c : Nat) : Nat) : Int) ((c : Nat) : Int) (P ++ A ++ B ++ S) = some (!p c) := fun c h1 h2 => by
    have hk : c - a < A.length := by omega
    have hk2 : mid + m - 1 - c - m < B.length := by omega
    obtain ⟨v, hv⟩ : ∃ v, A[c - a]? = some v := ⟨_, List.getElem?_eq_getElem hk⟩
    obtain ⟨u, hu⟩ : ∃ u, B[mid + m - 1 - c - m]? = some u := ⟨_, List.getElem?_eq_getElem hk2⟩
    have hpc : p c = (!lt u v) := by simp only [p, hv, hu]
    have g1 := gA _ hk
    have g2 := gB _ hk2
    rw [show a + (c - a) = c by omega, hv] at g1
    rw [show m + (mid + m - 1 - c - m) = mid + m - 1 - c by omega, hu] at g2
    exact ⟨u, v, hu, hv, hpc, by rw [hpc, Bool.not_not]; exact hR _ _ _ _ _ g2 g1⟩
  have hM : w64 (Int.fdiv (IntKind.u64.wrap (w64 (((a : Nat) : Int) + ((b : Nat) : Int)))) (2 ^ 1)) = ((mid : Nat) : Int) := by rw [hmid]; exact mid64 (by omega)
  have hn : w64 ((w64 (((mid : Nat) : Int) + ((m : Nat) : Int))) - 1) = ((mid + m - 1 : Nat) : Int) := by
    rw [add64 (by omega)]; exact sub64 (y := 1) (by omega) (by omega)
  obtain ⟨s, s1, s2, hrun, s3, s4⟩ := bs_loop (body := so_symMerge_L5 less (P ++ A ++ B ++ S) ((a : Nat) : Int) ((m : Nat) : Int) ((b : Nat) : Int)) p lo hi (by unfold LIM; omega)
    (fun u v h1 h2 h3 => by
      have c : decide ((u : Int) < (v : Int)) = true := by simp; exact h2
      have hm2 := mid64 (x := u) (y := v) (by omega)
      obtain ⟨_, _, _, _, _, hl'⟩ := hp ((u + v) / 2) (by omega) (by omega)
      have hi2 : w64 (((mid + m - 1 : Nat) : Int) - (((u + v) / 2 : Nat) : Int)) = ((mid + m - 1 - (u + v) / 2 : Nat) : Int) := sub64 (by omega) (by omega)
      simp only [so_symMerge_L5, so_symMerge_L5_b, c, cond_true, hm2, hM, hn, hi2, hl', Option.bind_some, Bool.not_not]
      cases p ((u + v) / 2) with
      | true => simp only [cond_true, if_true]; rw [w64_succ (i := (u + v) / 2) (by omega)]
      | false => simp)
    (fun u h1 h2 => by
      have c : decide ((u : Int) < (u : Int)) = false := by simp
      simp only [so_symMerge_L5, so_symMerge_L5_b, c, cond_false])
    (fun h h' h1 h2 h3 ht => by
      obtain ⟨u, v, hu, hv, hpc, _⟩ := hp h h1 (by omega)
      obtain ⟨u', v', hu', hv', hpc', _⟩ := hp h' (by omega) h3
      rw [hpc'] at ht
      rw [hpc]
      have ht : lt u' v' = false := by simpa using ht
      have q1 := hsA.get hO hv hv' (by omega)
      have q2 := hsB.get hO hu' hu (by omega)
      rw [hO.trans v v' u q1 (hO.trans v' u' u ht q2)]; rfl) (by omega)
  refine ⟨s, by omega, by omega, by omega, by omega, by omega, hrun, fun x hx y hy => ?_, fun y hy x hx => ?_⟩
  · obtain ⟨k, hk, hx⟩ := mem_take' hx
    obtain ⟨k', hk', hy⟩ := mem_drop' hy
    have hkl : k < A.length := (List.getElem?_eq_some_iff.1 hx).1
    have hkl' : k' < B.length := (List.getElem?_eq_some_iff.1 hy).1
    obtain ⟨u, v, hu, hv, hpc, _⟩ := hp (s - 1) (by omega) (by omega)
    have hps := s3 (s - 1) (by omega) (by omega)
    rw [hpc] at hps
    have q0 : lt u v = false := by simpa using hps
    have q1 := hsA.get hO hx hv (by omega)
    have q2 := hsB.get hO hu hy (by omega)
    exact hO.trans x v y q1 (hO.trans v u y q0 q2)
  · obtain ⟨k', hk', hy⟩ := mem_take' hy
    obtain ⟨k, hk, hx⟩ := mem_drop' hx
    have hkl : k < A.length := (List.getElem?_eq_some_iff.1 hx).1
    have hkl' : k' < B.length := (List.getElem?_eq_some_iff.1 hy).1
    obtain ⟨u, v, hu, hv, hpc, _⟩ := hp s (by omega) (by omega)
    have hps := s4 s (by omega) (by omega)
    rw [hpc] at hps
    have q0 : lt v u = false := hO.asym u v (by simpa using hps)
    have q1 := hsA.get hO hv hx (by omega)
    have q2 := hsB.get hO hy hu (by omega)
    exact hO.trans y u x q2 (hO.trans u v x q0 q1)

theorem so_merge (hO : Swo lt) (hR : Rds less lt) : ∀ (n : Nat) (P A B S : List α), 0 < A.length → 0 < B.length → A.length + B.length ≤ n → (P ++ A ++ B ++ S).length ≤ LIM → Srt lt A → Srt lt B →
    ∃ C, so_symMerge_n less n (P ++ A ++ B ++ S) ((P.length : Nat) : Int) ((P.length + A.length : Nat) : Int) ((P.length + A.length + B.length : Nat) : Int) = some (P ++ C ++ S) ∧ C.Perm (A ++ B) ∧ Srt lt C
  | 0, P, A, B, S, hA, hB, hn, _, _, _ => by omega
  | n + 1, P, A, B, S, hA, hB, hn, hl, hsA, hsB => by
    have hlx := hl
    unfold LIM at hlx
    simp only [List.length_append] at hlx
    have e1 : w64 (((P.length + A.length : Nat) : Int) - ((P.length : Nat) : Int)) = ((A.length : Nat) : Int) := by rw [sub64 (by omega) (by omega)]; congr 1; omega
    have e2 : w64 (((P.length + A.length + B.length : Nat) : Int) - ((P.length + A.length : Nat) : Int)) = ((B.length : Nat) : Int) := by rw [sub64 (by omega) (by omega)]; congr 1; omega
    show ∃ C, so_symMerge_F less (so_symMerge_n less n) _ _ _ _ = _ ∧ _
    unfold so_symMerge_F
    rw [e1, e2]
    by_cases hA1 : A.length = 1
    · match A, hA1 with
      | [x], _ =>
        have := so_merge_one hO hR P B S x hl hsB
        simpa using this
    have c1 : (((A.length : Nat) : Int) == 1) = false := by rw [beqI]; simp; omega
    rw [c1, cond_false]
    by_cases hB1 : B.length = 1
    · match B, hB1 with
      | [x], _ =>
        have := so_merge_last hO hR P A S x hl hsA
        simpa using this
    have c2 : (((B.length : Nat) : Int) == 1) = false := by rw [beqI]; simp; omega
    rw [c2, cond_false]
    generalize hm : P.length + A.length = m at *
    generalize hb : m + B.length = b at *
    generalize hmid : (P.length + b) / 2 = mid
    have hM : w64 (Int.fdiv (IntKind.u64.wrap (w64 (((P.length : Nat) : Int) + ((b : Nat) : Int)))) (2 ^ 1)) = ((mid : Nat) : Int) := by rw [← hmid]; exact mid64 (by omega)
    have hnn : mid < m → w64 ((w64 (((mid : Nat) : Int) + ((m : Nat) : Int))) - ((b : Nat) : Int)) = ((mid + m - b : Nat) : Int) := fun hc => by
      rw [add64 (by omega), sub64 (by omega) (by omega)]
    rw [hM]
    have hj : ∃ lo hi, ((mid < m ∧ lo = mid + m - b ∧ hi = mid) ∨ (m ≤ mid ∧ lo = P.length ∧ hi = m)) ∧
        (bif decide (((m : Nat) : Int) > ((mid : Nat) : Int)) then so_symMerge_j1 less (so_symMerge_n less n) (P ++ A ++ B ++ S) ((P.length : Nat) : Int) ((m : Nat) : Int) ((b : Nat) : Int) (w64 ((w64 (((mid : Nat) : Int) + ((m : Nat) : Int))) - ((b : Nat) : Int))) ((mid : Nat) : Int)
          else so_symMerge_j1 less (so_symMerge_n less n) (P ++ A ++ B ++ S) ((P.length : Nat) : Int) ((m : Nat) : Int) ((b : Nat) : Int) ((P.length : Nat) : Int) ((m : Nat) : Int)) =
        so_symMerge_j1 less (so_symMerge_n less n) (P ++ A ++ B ++ S) ((P.length : Nat) : Int) ((m : Nat) : Int) ((b : Nat) : Int) ((lo : Nat) : Int) ((hi : Nat) : Int) := by
      by_cases hc : mid < m
      · exact ⟨mid + m - b, mid, .inl ⟨hc, rfl, rfl⟩, by rw [show decide (((m : Nat) : Int) > ((mid : Nat) : Int)) = true by simp; exact hc, cond_true, hnn hc]⟩
      · exact ⟨P.length, m, .inr ⟨by omega, rfl, rfl⟩, by rw [show decide (((m : Nat) : Int) > ((mid : Nat) : Int)) = false by simp; omega, cond_false]⟩
    obtain ⟨lo, hi, hlh, hj⟩ := hj
    rw [hj]
    obtain ⟨s, s1, s2, s3, s4, s5, hrun, f1, f2⟩ := so_cut hO hR P A B S (by omega) (by omega) hl hsA hsB P.length m b mid lo hi rfl hm.symm (by omega) hmid.symm hlh
    have hE : w64 ((w64 (((mid : Nat) : Int) + ((m : Nat) : Int))) - ((s : Nat) : Int)) = ((mid + m - s : Nat) : Int) := by
      rw [add64 (by omega), sub64 (by omega) (by omega)]
    unfold so_symMerge_j1
    rw [hrun]
    simp only [Option.bind_some, so_symMerge_L5_k]
    rw [so_L5_a_eq hM hE]
    have hAs : A = A.take (s - P.length) ++ A.drop (s - P.length) := (List.take_append_drop _ _).symm
    have hBs : B = B.take (mid - s) ++ B.drop (mid - s) := (List.take_append_drop _ _).symm
    have lA1 : (A.take (s - P.length)).length = s - P.length := by rw [List.length_take]; omega
    have lB1 : (B.take (mid - s)).length = mid - s := by rw [List.length_take]; omega
    have lA2 : (A.drop (s - P.length)).length = m - s := by rw [List.length_drop]; omega
    have lB2 : (B.drop (mid - s)).length = b - (mid + m - s) := by rw [List.length_drop]; omega
    have sA1 : Srt lt (A.take (s - P.length)) := hsA.sublist (List.take_sublist _ _)
    have sA2 : Srt lt (A.drop (s - P.length)) := hsA.sublist (List.drop_sublist _ _)
    have sB1 : Srt lt (B.take (mid - s)) := hsB.sublist (List.take_sublist _ _)
    have sB2 : Srt lt (B.drop (mid - s)) := hsB.sublist (List.drop_sublist _ _)
    have fA : ∀ x ∈ A.take (s - P.length), ∀ y ∈ A.drop (s - P.length), lt y x = false := by
      have h0 : Srt lt (A.take (s - P.length) ++ A.drop (s - P.length)) := by rw [← hAs]; exact hsA
      exact (List.pairwise_append.1 h0).2.2
    have fB : ∀ x ∈ B.take (mid - s), ∀ y ∈ B.drop (mid - s), lt y x = false := by
      have h0 : Srt lt (B.take (mid - s) ++ B.drop (mid - s)) := by rw [← hBs]; exact hsB
      exact (List.pairwise_append.1 h0).2.2
    generalize A.take (s - P.length) = A1 at *
    generalize A.drop (s - P.length) = A2 at *
    generalize B.take (mid - s) = B1 at *
    generalize B.drop (mid - s) = B2 at *
    subst hAs hBs
    simp only [List.length_append] at hm hb hn hlx hA hB
    -- the two inner blocks change places
    have hrot : (if ((s : Nat) : Int) < ((m : Nat) : Int) ∧ ((m : Nat) : Int) < ((mid + m - s : Nat) : Int) then so_rotate (P ++ (A1 ++ A2) ++ (B1 ++ B2) ++ S) ((s : Nat) : Int) ((m : Nat) : Int) ((mid + m - s : Nat) : Int) else some (P ++ (A1 ++ A2) ++ (B1 ++ B2) ++ S)) = some (P ++ A1 ++ B1 ++ A2 ++ B2 ++ S) := by
      by_cases hc : s < m ∧ m < mid + m - s
      · rw [if_pos (by omega), show P ++ (A1 ++ A2) ++ (B1 ++ B2) ++ S = (P ++ A1) ++ A2 ++ B1 ++ (B2 ++ S) by simp]
        have := so_rotate_spec (P ++ A1) A2 B1 (B2 ++ S) (by omega) (by omega) (by simp only [List.length_append] at hl ⊢; omega) (a := ((s : Nat) : Int)) (m := ((m : Nat) : Int)) (b := ((mid + m - s : Nat) : Int)) (by simp only [List.length_append]; omega) (by simp only [List.length_append]; omega) (by simp only [List.length_append]; omega)
        rw [this]; simp
      · rw [if_neg (by omega)]
        have : A2 = [] ∨ B1 = [] := by
          by_cases hq : A2.length = 0
          · exact .inl (List.eq_nil_of_length_eq_zero hq)
          · exact .inr (List.eq_nil_of_length_eq_zero (by omega))
        rcases this with rfl | rfl <;> simp
    rw [hrot]
    simp only [Option.bind_some]
    unfold so_rest
    -- the left half
    have hleft : ∃ C1, (if ((P.length : Nat) : Int) < ((s : Nat) : Int) ∧ ((s : Nat) : Int) < ((mid : Nat) : Int) then so_symMerge_n less n (P ++ A1 ++ B1 ++ A2 ++ B2 ++ S) ((P.length : Nat) : Int) ((s : Nat) : Int) ((mid : Nat) : Int) else some (P ++ A1 ++ B1 ++ A2 ++ B2 ++ S)) = some (P ++ C1 ++ A2 ++ B2 ++ S) ∧ C1.Perm (A1 ++ B1) ∧ Srt lt C1 := by
      by_cases hc : P.length < s ∧ s < mid
      · rw [if_pos (by omega)]
        obtain ⟨C1, q1, q2, q3⟩ := so_merge hO hR n P A1 B1 (A2 ++ B2 ++ S) (by omega) (by omega) (by omega) (by simp only [List.length_append] at hl ⊢; omega) sA1 sB1
        rw [show P.length + A1.length = s by omega, show s + B1.length = mid by omega] at q1
        exact ⟨C1, by rw [show P ++ A1 ++ B1 ++ A2 ++ B2 ++ S = P ++ A1 ++ B1 ++ (A2 ++ B2 ++ S) by simp, q1]; simp, q2, q3⟩
      · rw [if_neg (by omega)]
        refine ⟨A1 ++ B1, by simp, List.Perm.refl _, ?_⟩
        have : A1 = [] ∨ B1 = [] := by
          by_cases hq : A1.length = 0
          · exact .inl (List.eq_nil_of_length_eq_zero hq)
          · exact .inr (List.eq_nil_of_length_eq_zero (by omega))
        rcases this with rfl | rfl
        · simpa using sB1
        · simpa using sA1
    obtain ⟨C1, q1, q2, q3⟩ := hleft
    have lC1 := q2.length_eq
    simp only [List.length_append] at lC1
    rw [q1]
    simp only [Option.bind_some]
    have hright : ∃ C2, (if ((mid : Nat) : Int) < ((mid + m - s : Nat) : Int) ∧ ((mid + m - s : Nat) : Int) < ((b : Nat) : Int) then so_symMerge_n less n (P ++ C1 ++ A2 ++ B2 ++ S) ((mid : Nat) : Int) ((mid + m - s : Nat) : Int) ((b : Nat) : Int) else some (P ++ C1 ++ A2 ++ B2 ++ S)) = some (P ++ C1 ++ C2 ++ S) ∧ C2.Perm (A2 ++ B2) ∧ Srt lt C2 := by
      by_cases hc : mid < mid + m - s ∧ mid + m - s < b
      · rw [if_pos (by omega)]
        obtain ⟨C2, r1, r2, r3⟩ := so_merge hO hR n (P ++ C1) A2 B2 S (by omega) (by omega) (by omega) (by simp only [List.length_append] at hl ⊢; omega) sA2 sB2
        simp only [List.length_append] at r1
        rw [show P.length + C1.length = mid by omega, show mid + A2.length = mid + m - s by omega, show mid + m - s + B2.length = b by omega] at r1
        exact ⟨C2, r1, r2, r3⟩
      · rw [if_neg (by omega)]
        refine ⟨A2 ++ B2, by simp, List.Perm.refl _, ?_⟩
        have : A2 = [] ∨ B2 = [] := by
          by_cases hq : A2.length = 0
          · exact .inl (List.eq_nil_of_length_eq_zero hq)
          · exact .inr (List.eq_nil_of_length_eq_zero (by omega))
        rcases this with rfl | rfl
        · simpa using sB2
        · simpa using sA2
    obtain ⟨C2, r1, r2, r3⟩ := hright
    rw [r1]
    refine ⟨C1 ++ C2, by simp, ?_, Srt.app q3 r3 fun x hx y hy => ?_⟩
    · refine (q2.append r2).trans ?_
      simp only [List.append_assoc]
      refine List.Perm.append_left A1 ?_
      rw [← List.append_assoc, ← List.append_assoc A2]
      exact List.Perm.append_right B2 List.perm_append_comm
    · rcases List.mem_append.1 (q2.mem_iff.1 hx) with hx | hx <;> rcases List.mem_append.1 (r2.mem_iff.1 hy) with hy | hy
      · exact fA x hx y hy
      · exact f1 x hx y hy
      · exact f2 x hx y hy
      · exact fB x hx y hy
end
end Go.Sx
end
section
/- The library's stable sort, over any comparison: it sorts. -/
namespace Go.Sx
set_option linter.unusedVariables false
section
variable {α : Type} {less : Int → Int → List α → Option Bool} {lt : α → α → Bool}
/-- sorted pieces of k elements, the last of k or fewer -/
inductive Chk (lt : α → α → Bool) (k : Nat) : List α → Prop where
  | last (l : List α) : l.length ≤ k → Srt lt l → Chk lt k l
  | cons (c r : List α) : c.length = k → Srt lt c → Chk lt k r → Chk lt k (c ++ r)
inductive Ful (lt : α → α → Bool) (k : Nat) : List α → Prop where
  | nil : Ful lt k []
  | snoc (q c : List α) : Ful lt k q → c.length = k → Srt lt c → Ful lt k (q ++ c)
theorem Ful.chk {k : Nat} {Q : List α} (h : Ful lt k Q) : ∀ {T : List α}, Chk lt k T → Chk lt k (Q ++ T) := by
  induction h with
  | nil => intro T hT; exact hT
  | snoc q c _ hc hs ih => intro T hT; rw [List.append_assoc]; exact ih (.cons c T hc hs hT)
theorem Chk.srt {k : Nat} {T : List α} (h : Chk lt k T) (hl : T.length ≤ k) : Srt lt T := by
  cases h with
  | last _ _ hs => exact hs
  | cons c r hc hs hr =>
    have : r = [] := List.eq_nil_of_length_eq_zero (by rw [List.length_append] at hl; omega)
    subst this
    simpa using hs
theorem Chk.one {k : Nat} {T : List α} (h : Chk lt k T) (hl : k < T.length) : ∃ c r, T = c ++ r ∧ c.length = k ∧ Srt lt c ∧ Chk lt k r := by
  cases h with
  | last _ h1 _ => omega
  | cons c r hc hs hr => exact ⟨c, r, rfl, hc, hs, hr⟩
theorem Chk.two {k : Nat} {T : List α} (h : Chk lt k T) (hk : 0 < k) (hl : 2 * k ≤ T.length) : ∃ c d r, T = c ++ d ++ r ∧ c.length = k ∧ d.length = k ∧ Srt lt c ∧ Srt lt d ∧ Chk lt k r := by
  obtain ⟨c, r, rfl, hc, hs, hr⟩ := h.one (by omega)
  rw [List.length_append] at hl
  by_cases hrk : r.length ≤ k
  · exact ⟨c, r, [], by simp, hc, by omega, hs, hr.srt hrk, .last [] (by simp) List.Pairwise.nil⟩
  · obtain ⟨d, r', rfl, hd, hs2, hr2⟩ := hr.one (by omega)
    exact ⟨c, d, r', by simp, hc, hd, hs, hs2, hr2⟩

/-- one round of merging -/
theorem so_pass (hO : Swo lt) (hR : Rds less lt) (row : List α) (k n : Nat) (hn : n = row.length) (hk : 0 < k) (hkn : k < n) (hl : row.length ≤ LIM) (hc : Chk lt k row) :
    ∃ row', (loopM (so_stable_L3 less ((n : Nat) : Int) ((k : Nat) : Int)) big (row, 0, w64 (2 * ((k : Nat) : Int)))).bind (so_stable_L3_k less ((n : Nat) : Int) ((k : Nat) : Int)) = some (.next (row', ((2 * k : Nat) : Int))) ∧ Chk lt (2 * k) row' ∧ row'.Perm row := by
  subst hn
  have hlx := hl
  unfold LIM at hlx
  have e2 : w64 (2 * ((k : Nat) : Int)) = ((2 * k : Nat) : Int) := by rw [show 2 * ((k : Nat) : Int) = ((2 * k : Nat) : Int) by omega]; exact nat64 (by omega)
  have key := loop_end (body := so_stable_L3 less ((row.length : Nat) : Int) ((k : Nat) : Int)) (fun s => ∃ Q T : List α, s = (Q ++ T, ((Q.length : Nat) : Int), ((Q.length + 2 * k : Nat) : Int)) ∧ Ful lt (2 * k) Q ∧ Chk lt k T ∧ (Q ++ T).Perm row) (fun s => row.length - s.2.1.toNat)
    (fun t => ∃ Q T : List α, t = (Q ++ T, ((Q.length : Nat) : Int)) ∧ Ful lt (2 * k) Q ∧ Chk lt k T ∧ (Q ++ T).Perm row ∧ T.length < 2 * k) (fun s hs => by
    obtain ⟨Q, T, rfl, hQ, hT, hp⟩ := hs
    have hpl := hp.length_eq
    rw [List.length_append] at hpl
    by_cases hlt : Q.length + 2 * k ≤ row.length
    · left
      have c : decide (((Q.length + 2 * k : Nat) : Int) ≤ ((row.length : Nat) : Int)) = true := by simp only [decide_eq_true_eq]; omega
      obtain ⟨c1, c2, r, rfl, h1, h2, h3, h4, h5⟩ := hT.two hk (by omega)
      simp only [List.length_append] at hpl
      obtain ⟨C, q1, q2, q3⟩ := so_merge hO hR big Q c1 c2 r (by omega) (by omega) (Nat.le_of_lt (lim_big (by unfold LIM; omega))) (by simp only [List.length_append]; omega) h3 h4
      have hC := q2.length_eq
      rw [List.length_append] at hC
      have e3 : w64 (((Q.length : Nat) : Int) + ((k : Nat) : Int)) = ((Q.length + c1.length : Nat) : Int) := by rw [h1]; exact add64 (by omega)
      refine ⟨((Q ++ C) ++ r, (((Q ++ C).length : Nat) : Int), (((Q ++ C).length + 2 * k : Nat) : Int)), ?_, ⟨Q ++ C, r, rfl, .snoc Q C hQ (by omega) q3, h5, ?_⟩, by simp only [List.length_append]; omega⟩
      · simp only [so_stable_L3, so_stable_L3_b, c, cond_true, e3, e2]
        rw [show Q ++ (c1 ++ c2 ++ r) = Q ++ c1 ++ c2 ++ r by simp, show ((Q.length + 2 * k : Nat) : Int) = ((Q.length + c1.length + c2.length : Nat) : Int) by omega]
        unfold so_symMerge
        rw [q1]
        simp only [Option.bind_some]
        rw [add64 (by omega)]
        simp only [List.length_append]
        rw [show Q.length + c1.length + c2.length = Q.length + C.length by omega]
      · refine List.Perm.trans ?_ hp
        rw [List.append_assoc]
        exact List.Perm.append_left Q (List.Perm.append_right r q2)
    · right
      have c : decide (((Q.length + 2 * k : Nat) : Int) ≤ ((row.length : Nat) : Int)) = false := by simp only [decide_eq_false_iff_not]; omega
      exact ⟨(Q ++ T, ((Q.length : Nat) : Int)), by simp only [so_stable_L3, so_stable_L3_b, c, cond_false], Q, T, rfl, hQ, hT, hp, by omega⟩) big (row, 0, ((2 * k : Nat) : Int)) ⟨[], row, by simp, .nil, hc, List.Perm.refl _⟩ (by simp only; exact lim_big (by unfold LIM; omega))
  obtain ⟨t, e, Q, T, rfl, hQ, hT, hp, htk⟩ := key
  have hpl := hp.length_eq
  rw [List.length_append] at hpl
  rw [e2, e]
  simp only [Option.bind_some, so_stable_L3_k, so_stable_L3_a]
  have e3 : w64 (((Q.length : Nat) : Int) + ((k : Nat) : Int)) = ((Q.length + k : Nat) : Int) := add64 (by omega)
  have e4 : w64 (((k : Nat) : Int) * 2) = ((2 * k : Nat) : Int) := by rw [Int.mul_comm]; exact e2
  rw [e3, e4]
  by_cases hlt : Q.length + k < row.length
  · have c : decide (((Q.length + k : Nat) : Int) < ((row.length : Nat) : Int)) = true := by simp only [decide_eq_true_eq]; omega
    rw [c, cond_true]
    obtain ⟨c1, c2, rfl, h1, h2, h3⟩ := hT.one (by omega)
    rw [List.length_append] at hpl htk
    have h4 : Srt lt c2 := h3.srt (by omega)
    obtain ⟨C, q1, q2, q3⟩ := so_merge hO hR big Q c1 c2 [] (by omega) (by omega) (Nat.le_of_lt (lim_big (by unfold LIM; omega))) (by simp only [List.length_append, List.length_nil]; omega) h2 h4
    have hC := q2.length_eq
    rw [List.length_append] at hC
    simp only [List.append_nil] at q1
    refine ⟨Q ++ C, ?_, hQ.chk (.last C (by omega) q3), (List.Perm.append_left Q q2).trans hp⟩
    rw [← List.append_assoc, show Q.length + k = Q.length + c1.length by omega, show ((row.length : Nat) : Int) = ((Q.length + c1.length + c2.length : Nat) : Int) by omega]
    unfold so_symMerge
    rw [q1]
    rfl
  · have c : decide (((Q.length + k : Nat) : Int) < ((row.length : Nat) : Int)) = false := by simp only [decide_eq_false_iff_not]; omega
    rw [c, cond_false]
    exact ⟨Q ++ T, rfl, hQ.chk (.last T (by omega) (hT.srt (by omega))), hp⟩

theorem so_stable_spec (hO : Swo lt) (hR : Rds less lt) (l : List α) (hl : l.length ≤ LIM) : ∃ r, so_stable less l ((l.length : Nat) : Int) = some r ∧ r.Perm l ∧ Srt lt r := by
  have hlx := hl
  unfold LIM at hlx
  have key := loop_end (body := so_stable_L1 less ((l.length : Nat) : Int)) (fun s => ∃ Q T : List α, s = (Q ++ T, ((Q.length : Nat) : Int), ((Q.length + 20 : Nat) : Int)) ∧ Ful lt 20 Q ∧ (Q ++ T).Perm l) (fun s => l.length - s.2.1.toNat)
    (fun t => ∃ Q T : List α, t = (Q ++ T, ((Q.length : Nat) : Int)) ∧ Ful lt 20 Q ∧ (Q ++ T).Perm l ∧ T.length < 20) (fun s hs => by
    obtain ⟨Q, T, rfl, hQ, hp⟩ := hs
    have hpl := hp.length_eq
    rw [List.length_append] at hpl
    by_cases hlt : Q.length + 20 ≤ l.length
    · left
      have c : decide (((Q.length + 20 : Nat) : Int) ≤ ((l.length : Nat) : Int)) = true := by simp only [decide_eq_true_eq]; omega
      have hT : T = T.take 20 ++ T.drop 20 := (List.take_append_drop _ _).symm
      have l1 : (T.take 20).length = 20 := by rw [List.length_take]; omega
      generalize T.take 20 = T1 at hT l1
      generalize T.drop 20 = T2 at hT
      subst hT
      rw [List.length_append] at hpl
      obtain ⟨A', q1, q2, q3⟩ := so_insertionSort_spec hO hR Q T1 T2 (by simp only [List.length_append]; unfold LIM; omega) (a := ((Q.length : Nat) : Int)) (b := ((Q.length + 20 : Nat) : Int)) rfl (by rw [l1])
      have hA := q2.length_eq
      refine ⟨((Q ++ A') ++ T2, (((Q ++ A').length : Nat) : Int), (((Q ++ A').length + 20 : Nat) : Int)), ?_, ⟨Q ++ A', T2, rfl, .snoc Q A' hQ (by omega) q3, ?_⟩, by simp only [List.length_append]; omega⟩
      · simp only [so_stable_L1, so_stable_L1_b, c, cond_true]
        rw [← List.append_assoc, q1]
        simp only [Option.bind_some]
        have e3 : w64 (((Q.length + 20 : Nat) : Int) + 20) = ((Q.length + 20 + 20 : Nat) : Int) := add64 (y := 20) (by omega)
        rw [e3]
        simp only [List.length_append]
        rw [show Q.length + 20 = Q.length + A'.length by omega]
      · refine List.Perm.trans ?_ hp
        rw [List.append_assoc]
        exact List.Perm.append_left Q (List.Perm.append_right T2 q2)
    · right
      have c : decide (((Q.length + 20 : Nat) : Int) ≤ ((l.length : Nat) : Int)) = false := by simp only [decide_eq_false_iff_not]; omega
      exact ⟨(Q ++ T, ((Q.length : Nat) : Int)), by simp only [so_stable_L1, so_stable_L1_b, c, cond_false], Q, T, rfl, hQ, hp, by omega⟩) big (l, 0, 20) ⟨[], l, by simp, .nil, List.Perm.refl _⟩ (by simp only; exact lim_big (by unfold LIM; omega))
  obtain ⟨t, e, Q, T, rfl, hQ, hp, htk⟩ := key
  have hpl := hp.length_eq
  rw [List.length_append] at hpl
  obtain ⟨A', q1, q2, q3⟩ := so_insertionSort_spec hO hR Q T [] (by simp only [List.length_append, List.length_nil]; unfold LIM; omega) (a := ((Q.length : Nat) : Int)) (b := ((l.length : Nat) : Int)) rfl (by omega)
  have hA := q2.length_eq
  simp only [List.append_nil] at q1
  have hc0 : Chk lt 20 (Q ++ A') := hQ.chk (.last A' (by omega) q3)
  have hp0 : (Q ++ A').Perm l := (List.Perm.append_left Q q2).trans hp
  unfold so_stable
  rw [e]
  simp only [Option.bind_some, so_stable_L1_k, so_stable_L1_a]
  rw [q1]
  simp only [Option.bind_some]
  obtain ⟨r, e2, h1, h2⟩ := loop_end (body := so_stable_L2 less ((l.length : Nat) : Int)) (fun s => ∃ (row : List α) (k : Nat), s = (row, ((k : Nat) : Int)) ∧ 0 < k ∧ Chk lt k row ∧ row.Perm l) (fun s => l.length - s.2.toNat)
    (fun t => t.Perm l ∧ Srt lt t) (fun s hs => by
    obtain ⟨row, k, rfl, hk, hc, hp⟩ := hs
    have hpl := hp.length_eq
    by_cases hlt : k < l.length
    · left
      have c : decide (((k : Nat) : Int) < ((l.length : Nat) : Int)) = true := by simp only [decide_eq_true_eq]; omega
      obtain ⟨row', q1, q2, q3⟩ := so_pass hO hR row k l.length (by omega) hk hlt (by unfold LIM; omega) hc
      exact ⟨_, by simp only [so_stable_L2, so_stable_L2_b, c, cond_true]; exact q1, ⟨row', 2 * k, rfl, by omega, q2, q3.trans hp⟩, by simp only; omega⟩
    · right
      have c : decide (((k : Nat) : Int) < ((l.length : Nat) : Int)) = false := by simp only [decide_eq_false_iff_not]; omega
      exact ⟨row, by simp only [so_stable_L2, so_stable_L2_b, c, cond_false], hp, hc.srt (by omega)⟩) big (Q ++ A', 20) ⟨Q ++ A', 20, rfl, by omega, hc0, hp0⟩ (by simp only; exact lim_big (by unfold LIM; omega))
  exact ⟨r, by rw [e2]; rfl, h1, h2⟩
end
end Go.Sx
end
