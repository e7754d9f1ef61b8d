/- More laws of boxes over draws: they answer true. -/
import Derived.Test.YtgipaamnefphgaaByJ
namespace Go.Sx
set_option linter.unusedVariables false

theorem aro_anc {l : List Thing} (R : Right l) {k : Nat} (hk : k < l.length) : aro l (th l k).Id = anc l k := by
  unfold aro
  rw [th_get hk, R.fnd k hk]
theorem fnd_th {l : List Thing} (R : Right l) {k : Nat} (hk : k < l.length) : fnd l (th l k).Id = (k : Int) := by rw [th_get hk]; exact R.fnd k hk
theorem thB_th {l : List Thing} (h : areB l = true) {k : Nat} (hk : k < l.length) : thB l (th l k).Id = true := by
  obtain ⟨R, D⟩ := Right.of_are h
  simp [thB, h, fnd_th R hk]
/-- all together -/
def ownS (l : List Thing) : Int := sm l.length fun t => (th l t).Own
theorem own_sum {l : List Thing} (R : Right l) : ∀ m, m ≤ l.length → 0 ≤ (sm m fun t => (th l t).Own) ∧ (sm m fun t => (th l t).Own) ≤ 30000 * m
  | 0, _ => by simp [sm]
  | m + 1, h => by
    have := own_sum R m (by omega)
    have h2 := R.own m (by omega)
    rw [sm, th_get (by omega : m < l.length)]
    omega
theorem own_loop {l : List Thing} (R : Right l) (v4 : List Thing × Int × Int) (hv : v4.1 = l) : loopM (laws_FnWeighed_L1 v4) big (0, 0) = some (.inl (ownS l)) := by
  have := loop_val (body := laws_FnWeighed_L1 v4) l.length (fun i => ((sm i fun t => (th l t).Own), (i : Int))) (ownS l) R.l20 (fun i hi => by
    have b1 := own_sum R i (by omega)
    have b2 := R.own i hi
    have hl := R.len
    simp only [laws_FnWeighed_L1, laws_FnWeighed_L1_b, hv, Int.ofNat_lt, hi, decide_true, cond_true, gi_nat hi, Option.bind_some, w64_succ (Nat.le_of_lt (Nat.lt_of_lt_of_le hi R.l20)), sm]
    rw [th_get hi, w64_id (by omega) (by omega)]) (by simp [laws_FnWeighed_L1, laws_FnWeighed_L1_b, hv, ownS])
  simpa [sm] using this
theorem outer_loop2 {l : List Thing} (h : areB l = true) : loopM (laws_FnWeighed_L3 l) big (0, 0) = some (.inl (ownS l)) := by
  obtain ⟨R, D⟩ := Right.of_are h
  have hl := R.l20
  have key : ∀ m, m ≤ l.length → 0 ≤ (sm m fun k => if anc l k = [] then grs l 5 k else 0) ∧ (sm m fun k => if anc l k = [] then grs l 5 k else 0) ≤ 80000000000 * m := by
    intro m
    induction m with
    | zero => intro _; simp [sm]
    | succ m ih =>
      intro hm
      have := ih (by omega)
      have b := grs5_bd R m (by omega)
      rw [sm]
      split <;> omega
  have := loop_val (body := laws_FnWeighed_L3 l) l.length (fun i => ((sm i fun k => if anc l k = [] then grs l 5 k else 0), (i : Int))) (ownS l) R.l20 (fun i hi => by
    have b1 := key i (by omega)
    have b2 := key (i + 1) (by omega)
    have hlen := R.len
    rw [sm] at b2 ⊢
    have e0 : l[i] = th l i := (th_get hi).symm
    simp only [laws_FnWeighed_L3, laws_FnWeighed_L3_b, Int.ofNat_lt, hi, decide_true, cond_true, gi_nat hi, Option.bind_some, w64_succ (Nat.le_of_lt (Nat.lt_of_lt_of_le hi R.l20)), e0, impl_DepthOf_eq l _ hl, impl_GrossOf_eq l _ hl, beqI]
    have hd : depV l (th l i).Id = ((anc l i).length : Int) := by unfold depV; rw [if_pos (thB_th h hi), aro_anc R hi]
    have hg : groV l (th l i).Id = grs l 5 i := by unfold groV; rw [if_pos (thB_th h hi), fnd_th R hi]; simp
    rw [hd, hg]
    by_cases ha : anc l i = []
    · rw [if_pos ha] at b2 ⊢
      simp only [ha, List.length_nil, Int.ofNat_zero, show ((0 : Nat) : Int) = 0 from rfl, decide_true, cond_true]
      rw [w64_id (by omega) (by omega)]
    · have : (anc l i).length ≠ 0 := fun e => ha (List.eq_nil_of_length_eq_zero e)
      simp only [show ¬ ((anc l i).length : Int) = 0 by omega, decide_false, cond_false, if_neg ha, Int.add_zero]) (by
      simp only [laws_FnWeighed_L3, laws_FnWeighed_L3_b]
      rw [outer_sum R D]
      simp [ownS])
  simpa [sm] using this
theorem setIn_own {l : List Thing} {id : Int} (h : 0 ≤ fnd l id) (box : Int) : ownS (setIn l id box) = ownS l := by
  obtain ⟨i, hi, e, _⟩ := fnd_some h
  unfold ownS
  rw [setIn_nat hi e]
  simp only [List.length_set]
  refine sm_congr fun t ht => ?_
  by_cases hti : i = t
  · subst hti; simp [th, hi]
  · simp [th, List.getElem?_set_ne hti]
/-- a thing that is taken out of its box -/
theorem up_take {l : List Thing} (h : areB l = true) {i j : Nat} (hi : i < l.length) (hj : j < l.length) (hin : l[i].In = l[j].Id) : Up l (l.set i { l[i] with In := l[j].In }) j (fun q => decide (q = i)) := by
  refine ⟨by simp, hj, fun q hq hc => ?_, fun q hq => ?_⟩
  · have : q = i := by simpa using hc
    subst this
    rw [th_get hq, th_get hj]; exact hin
  · by_cases hqi : i = q
    · subst hqi
      simp only [th, decide_true, if_true]
      simp [hi, hj]
    · simp [th, List.getElem?_set_ne hqi, Ne.symm hqi]
theorem put_are {l : List Thing} (h : areB l = true) (id box : Int) : areB (putV l id box).1 = true ∧ ownS (putV l id box).1 = ownS l ∧ ((putV l id box).2 = 0 ∨ (putV l id box).1 = l) := by
  unfold putV
  split
  · rename_i h1
    simp only [Bool.and_eq_true, thB, decide_eq_true_eq] at h1
    split
    · exact ⟨h, rfl, .inr rfl⟩
    · split
      · exact ⟨h, rfl, .inr rfl⟩
      · split
        · split
          · rename_i h2; exact ⟨h2, setIn_own h1.1.2 box, .inl rfl⟩
          · exact ⟨h, rfl, .inr rfl⟩
        · exact ⟨h, rfl, .inr rfl⟩
  · exact ⟨h, rfl, .inr rfl⟩
theorem tak_are {l : List Thing} (h : areB l = true) (id : Int) : areB (takV l id).1 = true ∧ ownS (takV l id).1 = ownS l ∧ ((takV l id).2 = 0 ∨ (takV l id).1 = l) := by
  obtain ⟨R, D⟩ := Right.of_are h
  unfold takV
  split
  · rename_i h1
    simp only [thB, Bool.and_eq_true, decide_eq_true_eq] at h1
    split
    · exact ⟨h, rfl, .inr rfl⟩
    · split
      · exact ⟨h, rfl, .inr rfl⟩
      · rename_i hn
        obtain ⟨i, hi, ei, hid⟩ := fnd_some h1.2
        have e1 : thA l (fnd l id) = l[i] := by unfold thA; rw [ei]; simp [hi]
        rw [e1] at hn ⊢
        obtain ⟨j, hj, ej, hjd, _⟩ := isBx_spec ((R.inn i hi).resolve_left hn)
        have e2 : thA l (fnd l l[i].In) = l[j] := by unfold thA; rw [ej]; simp [hj]
        rw [e2, ei]
        have hU := up_take h hi hj hjd.symm
        refine ⟨Up.are h hU, ?_, .inl rfl⟩
        unfold ownS
        simp only [Int.toNat_natCast, List.length_set]
        refine sm_congr fun t ht => ?_
        have := hU.get t ht
        rw [this]
  · exact ⟨h, rfl, .inr rfl⟩
theorem weighed_round {l z : List Thing} (hz : areB z = true) (ho : ownS z = ownS l) (hzl : z.length = l.length) (x y : List Thing) (k : Int) :
    laws_FnWeighed_j2 (ownS l) l x y k z = some (.next (l, x, y, w64 (k + 1))) := by
  obtain ⟨R, D⟩ := Right.of_are hz
  unfold laws_FnWeighed_j2
  rw [outer_loop2 hz]
  simp [laws_FnWeighed_L3_k, laws_FnWeighed_L3_a, impl_AreThings_eq z R.l20, hz, ho, hzl]
theorem FnWeighed_true (a : List Int) : laws_FnWeighed a = some true := by
  unfold laws_FnWeighed
  rw [big_eq]
  by_cases hb : (a.length : Int) > 4096
  · simp [hb]
  obtain ⟨l, id, box, e, hl⟩ := drawPutInto_ok a (by omega)
  have hl' : l.length ≤ 1048576 := by omega
  simp only [hb, decide_false, cond_false, Option.bind_some, e, spec_AreThings_eq l hl', impl_PutInto_eq l id box hl']
  cases ha : areB l with
  | false => simp [putV, thB, ha]
  | true =>
    obtain ⟨R, D⟩ := Right.of_are ha
    obtain ⟨p1, p2, p3⟩ := put_are ha id box
    obtain ⟨t1, t2, t3⟩ := tak_are ha id
    have pl := putV_le l id box
    have tl := takV_le l id
    simp only [Bool.not_true, cond_false, own_loop R (l, id, box) rfl, Option.bind_some, laws_FnWeighed_L1_k, laws_FnWeighed_L1_a, impl_PutInto_eq l id box hl', impl_TakeFrom_eq l id hl']
    have hlp := loop_val (body := laws_FnWeighed_L2 (ownS l)) 3 (fun i => (l, (putV l id box).1, (takV l id).1, (i : Int))) (l, (putV l id box).1, (takV l id).1) (by omega) (fun i hi => by
      have hw : w64 ((i : Int) + 1) = ((i + 1 : Nat) : Int) := w64_succ (by omega)
      rw [← hw]
      have hi' : (i : Int) < 3 := by omega
      have r0 := weighed_round ha rfl rfl (putV l id box).1 (takV l id).1 (i : Int)
      have r1 := weighed_round p1 p2 pl (putV l id box).1 (takV l id).1 (i : Int)
      have r2 := weighed_round t1 t2 tl (putV l id box).1 (takV l id).1 (i : Int)
      simp only [laws_FnWeighed_L2, laws_FnWeighed_L2_b, hi', decide_true, cond_true, laws_FnWeighed_j1, r0, r1, r2]
      cases ((i : Int) == 1) <;> cases ((i : Int) == 2) <;> rfl) (by simp [laws_FnWeighed_L2, laws_FnWeighed_L2_b])
    rw [show ((0 : Nat) : Int) = 0 from rfl] at hlp
    rw [hlp]
    simp only [Option.bind_some, laws_FnWeighed_L2_k, laws_FnWeighed_L2_a, beqI]
    rcases p3 with p3 | p3 <;> rcases t3 with t3 | t3 <;> simp only [p3, t3, decide_true, cond_true, things_refl l hl', Option.bind_some]
    · cases decide ((takV l id).2 = 0) <;> rfl
    · cases decide ((putV l id box).2 = 0) <;> rfl
    · cases decide ((putV l id box).2 = 0) <;> cases decide ((takV l id).2 = 0) <;> rfl
end Go.Sx
