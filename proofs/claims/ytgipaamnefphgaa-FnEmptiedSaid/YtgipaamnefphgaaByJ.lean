/- The laws of boxes over draws: they answer true. -/
import Derived.Test.YtgipaamnefphgaaByC
import Derived.Test.YtgipaamnefphgaaByI
namespace Go.Sx
set_option linter.unusedVariables false

theorem has_eq (l : List Int) (n : Int) (hl : l.length ≤ 1048576) : laws_has l n = some (l.any (· == n)) := hasInt_eq l n hl
theorem things_refl (a : List Thing) (hl : a.length ≤ 1048576) : laws_things a a = some true := by
  unfold laws_things
  have := loop_val (body := laws_things_L1 a a) a.length (fun i => (i : Int)) () hl (fun i hi => by simp [laws_things_L1, laws_things_L1_b, gi_nat hi, hi, w64_succ (Nat.le_of_lt (Nat.lt_of_lt_of_le hi hl))]) (by simp [laws_things_L1, laws_things_L1_b])
  rw [show ((0 : Nat) : Int) = 0 from rfl] at this
  rw [this]
  simp [laws_things_L1_k, laws_things_L1_a]
theorem at_ok (a : List Int) (i : Nat) (ha : a.length ≤ 4096) : ∃ v, laws_at a (i : Int) = some v := by
  unfold laws_at
  by_cases h : (i : Int) ≥ (a.length : Int)
  · exact ⟨0, by simp [h]⟩
  · exact ⟨_, by simp only [h, decide_false, cond_false, gi_nat (show i < a.length by omega), Option.bind_some]; rfl⟩
theorem big_eq (a : List Int) : laws_big a = some (decide ((a.length : Int) > 4096)) := rfl

theorem aro_none {l : List Thing} {id : Int} (h : ¬ 0 ≤ fnd l id) : aro l id = [] := by unfold aro; rw [chn, if_neg h]
theorem lockB_found {l : List Thing} {id : Int} (h : lockB l id = true) : 0 ≤ fnd l id := by
  apply Classical.byContradiction
  intro hn
  simp [lockB, arB, aro_none hn] at h
theorem FnSealed_true (a : List Int) : laws_FnSealed a = some true := by
  unfold laws_FnSealed
  rw [big_eq]
  by_cases hb : (a.length : Int) > 4096
  · simp [hb]
  obtain ⟨l, id, box, e, hl⟩ := drawPutInto_ok a (by omega)
  have hl' : l.length ≤ 1048576 := by omega
  obtain ⟨v, hv⟩ := at_ok a 1 (by omega)
  rw [show ((1 : Nat) : Int) = 1 from rfl] at hv
  simp only [hb, decide_false, cond_false, Option.bind_some, e, impl_IsLocked_eq l id hl', spec_IsLocked_eq l id hl', hv, impl_PutInto_eq l id box hl', impl_TakeFrom_eq l id hl', impl_SealBox_eq l id _ hl', impl_EmptyBox_eq l id hl']
  by_cases hk : isLockV l id = true
  · have h2 := hk
    simp only [isLockV, Bool.and_eq_true] at h2
    have hf := lockB_found h2.2
    have ht : thB l id = true := by simp [thB, h2.1, hf]
    have hput : putV l id box = (l, 2) ∨ putV l id box = (l, 1) := by
      unfold putV
      cases isBx l box <;> simp [ht, h2.2]
    have htak : takV l id = (l, 2) := by unfold takV; simp [ht, h2.2]
    have hsb : ∀ s, seaV l id s = (l, if isBx l id then 2 else 1) := fun s => by unfold seaV; cases isBx l id <;> simp [ht, h2.2]
    have hem : empV l id = (l, if isBx l id then 2 else 1) := by unfold empV; cases isBx l id <;> simp [ht, h2.2]
    have hx := isBx_thA hf
    rw [hk, htak, hsb, hem]
    simp only [impl_FindThing_eq l id hl', gi_thA hf fnd_lt, Option.bind_some, hx]
    rcases hput with hp | hp <;> rw [hp] <;> simp only [things_refl l hl', Option.bind_some] <;> cases (thA l (fnd l id)).Box <;> simp
  · rw [Bool.not_eq_true] at hk
    rw [hk]; rfl

/-- a thing that is put elsewhere does not turn what is around the things that are not in it -/
theorem chn_set {l : List Thing} {k : Nat} (hk : k < l.length) (box : Int) : ∀ (n : Nat) (q : Int), q ≠ (k : Int) → q < l.length → l[k].Id ∉ chn l n q → chn (l.set k { l[k] with In := box }) n q = chn l n q
  | 0, _, _, _, _ => rfl
  | n + 1, q, hq, hql, hn => by
    rw [chn] at hn
    rw [chn, chn]
    by_cases h0 : 0 ≤ q
    · rw [if_pos h0] at hn ⊢
      rw [if_pos h0]
      have he : (l.set k { l[k] with In := box })[q.toNat]?.getD default = l[q.toNat]?.getD default := by
        rw [List.getElem?_set_ne (by omega)]
      rw [he]
      by_cases h1 : (l[q.toNat]?.getD default).In = 0
      · rw [if_pos h1, if_pos h1]
      · rw [if_neg h1] at hn ⊢
        rw [if_neg h1, fnd_set hk { l[k] with In := box } rfl]
        have hm : l[k].Id ≠ (l[q.toNat]?.getD default).In ∧ l[k].Id ∉ chn l n (fnd l (l[q.toNat]?.getD default).In) := by simpa using hn
        have hf : fnd l (l[q.toNat]?.getD default).In ≠ (k : Int) := fun e => by
          obtain ⟨i, hi, e2, h2⟩ := fnd_some (show 0 ≤ fnd l (l[q.toNat]?.getD default).In by omega)
          have : i = k := by omega
          subst this
          exact hm.1 h2
        rw [chn_set hk box n _ hf fnd_lt hm.2]
    · rw [if_neg h0, if_neg h0]
theorem FnPutTake_true (a : List Int) : laws_FnPutTake a = some true := by
  unfold laws_FnPutTake
  rw [big_eq]
  by_cases hb : (a.length : Int) > 4096
  · simp [hb]
  obtain ⟨l, id, box, e, hl⟩ := drawPutInto_ok a (by omega)
  have hl' : l.length ≤ 1048576 := by omega
  simp only [hb, decide_false, cond_false, Option.bind_some, e, impl_FindThing_eq l _ hl', impl_PutInto_eq l id box hl', bneI]
  by_cases hc : (putV l id box).2 = 0
  · -- it went well
    have hp : thB l id = true ∧ isBx l box = true ∧ lockB l id = false ∧ lockB l box = false ∧ (thA l (fnd l box)).Sealed = false ∧ id ≠ box ∧ arB l box id = false ∧ areB (setIn l id box) = true ∧ putV l id box = (setIn l id box, 0) := by
      unfold putV at hc ⊢
      cases h1 : thB l id <;> cases h2 : isBx l box <;> cases h3 : lockB l id <;> cases h4 : lockB l box <;> cases h5 : (thA l (fnd l box)).Sealed <;> simp [h1, h2, h3, h4, h5] at hc ⊢
      by_cases h6 : id = box
      · simp [h6] at hc
      · cases h7 : arB l box id <;> simp [h6, h7] at hc ⊢
        cases h8 : dpB (setIn l id box) <;> simp [h8] at hc ⊢
        cases h9 : areB (setIn l id box) <;> simp [h9] at hc ⊢
    obtain ⟨h1, h2, h3, h4, h5, h6, h7, h8, h9⟩ := hp
    rw [h9]
    simp only [thB, Bool.and_eq_true, decide_eq_true_eq] at h1
    obtain ⟨R, D⟩ := Right.of_are h1.1
    obtain ⟨i, hi, ei, hid⟩ := fnd_some h1.2
    obtain ⟨j, hj, ej, hjd, hjb⟩ := isBx_spec h2
    have hij : i ≠ j := fun e => by subst e; exact h6 (hid.symm.trans hjd)
    have hs : setIn l id box = l.set i { l[i] with In := box } := setIn_nat hi ei
    obtain ⟨x, hx⟩ : ∃ x, x = setIn l id box := ⟨_, rfl⟩
    rw [← hx] at h8 ⊢
    rw [← hx] at hs
    obtain ⟨R', D'⟩ := Right.of_are h8
    have hxl : x.length = l.length := by rw [hs]; simp
    have hxl' : x.length ≤ 1048576 := by omega
    have fx : ∀ q, fnd x q = fnd l q := fun q => by rw [hs]; exact fnd_set hi { l[i] with In := box } rfl q
    have hix : i < x.length := by omega
    have hjx : j < x.length := by omega
    have xi : x[i] = { l[i] with In := box } := by subst hs; simp
    have xj : x[j] = l[j] := by subst hs; simp [List.getElem_set_ne (show i ≠ j from hij)]
    have tid : thB x id = true := by simp [thB, h8, fx, h1.2]
    have tbx : thB x box = true := by simp [thB, h8, fx, ej]
    have ha1 : anc x i = box :: anc x j := by
      have := anc_cons R' D' hix (by rw [th_get hix, xi]; show box ≠ 0; have := R.id_pos j hj; omega)
      obtain ⟨j', hj', e1, _, _, e2⟩ := this
      have : j' = j := th_inj R' hj' hjx (by rw [e1, th_get hix, xi, th_get hjx, xj]; exact hjd.symm)
      subst this
      rw [e2, e1, th_get hix, xi]
    have aid : aro x id = box :: aro x box := by unfold aro; rw [fx, fx, ei, ej]; exact ha1
    have abx : aro x box = aro l box := by
      unfold aro
      rw [fx, ej, hs]
      refine chn_set hi box 5 (j : Int) (by omega) (by omega) ?_
      have : id ∉ chn l 5 (j : Int) := fun hm => by
        have : arB l box id = true := by simp only [arB, List.any_eq_true, beq_iff_eq]; exact ⟨id, by unfold aro; rw [ej]; exact hm, rfl⟩
        rw [h7] at this; cases this
      rw [hid]; exact this
    have hins : (insV x box).any (· == id) = true := by
      unfold insV
      rw [if_pos tbx]
      simp only [List.any_eq_true, beq_iff_eq, List.mem_map, List.mem_filter]
      exact ⟨id, ⟨x[i], ⟨List.getElem_mem hix, by rw [xi]⟩, by rw [xi]; exact hid⟩, rfl⟩
    have hd1 : depV x id = depV x box + 1 := by
      unfold depV
      rw [if_pos tid, if_pos tbx, aid]; simp
    have hdw : w64 (depV x box + 1) = depV x box + 1 := by
      have : 0 ≤ depV x box ∧ depV x box ≤ 5 := by unfold depV; rw [if_pos tbx]; have := aro_le x box; omega
      rw [w64_id (by omega) (by omega)]
    have hout : outV x id = outV x box := by
      unfold outV
      rw [if_pos tid, if_pos tbx, aid, List.getLast?_cons]
      simp
    have hlk : lockB x id = false := by
      cases hh : lockB x id with
      | false => rfl
      | true =>
        exfalso
        simp only [lockB, arB, List.any_eq_true, Bool.and_eq_true, beq_iff_eq] at hh
        obtain ⟨t, ht, hse, b, hbm, e⟩ := hh
        obtain ⟨q, hq, rfl⟩ := List.getElem_of_mem ht
        have hql : q < l.length := by omega
        have hsl : x[q].Sealed = l[q].Sealed ∧ x[q].Id = l[q].Id := by
          subst hs
          by_cases hqi : i = q
          · subst hqi; simp
          · simp [List.getElem_set_ne hqi]
        rw [hsl.1] at hse
        rw [aid, e, hsl.2] at hbm
        rcases List.mem_cons.1 hbm with hbm | hbm
        · have : q = j := R.inj hql hj (by rw [hbm, hjd])
          subst this
          rw [thA, ej] at h5
          simp [hql, hse] at h5
        · rw [abx] at hbm
          have : lockB l box = true := by
            simp only [lockB, arB, List.any_eq_true, Bool.and_eq_true, beq_iff_eq]
            exact ⟨l[q], List.getElem_mem hql, hse, _, hbm, rfl⟩
          rw [h4] at this; cases this
    have htx : thA x (fnd x id) = { l[i] with In := box } := by unfold thA; rw [fx, ei]; simp [hix, xi]
    have htb : thA x (fnd x box) = l[j] := by unfold thA; rw [fx, ej]; simp [hjx, xj]
    have hbox0 : box ≠ 0 := by have := R.id_pos j hj; omega
    have htak : takV x id = (x.set i { l[i] with In := l[j].In }, 0) := by
      unfold takV
      rw [if_pos tid, hlk]
      rw [fx, ei] at htx
      rw [fx, ej] at htb
      simp only [Bool.false_eq_true, if_false, fx, ei, htx, hbox0, ej, htb, Int.toNat_natCast]
    have hxs : x.set i { l[i] with In := l[j].In } = l.set i { l[i] with In := l[j].In } := by subst hs; simp
    have htak2 : ∃ y, takV x id = (y, 0) ∧ (l[i].In = l[j].In → y = l) := by
      refine ⟨_, htak, fun hin => ?_⟩
      rw [hxs]
      refine set_same ?_
      rw [← hin]
      simp [hi]
    obtain ⟨y, hy, hyl⟩ := htak2
    have hins' : (insV x box).any (fun b => decide (b = id)) = true := by simpa only [beqI] using hins
    simp only [impl_InsideOf_eq x box hxl', has_eq (insV x box) id (by have := insV_le x box; omega), hins', impl_DepthOf_eq x _ hxl', hd1, hdw, impl_OuterOf_eq x _ hxl', hout, impl_TakeFrom_eq x id hxl', hy, Option.bind_some, ei, ej, gi_nat hi, gi_nat hj, beqI]
    by_cases hin : l[i].In = l[j].In
    · rw [hyl hin, things_refl l hl']
      simp [hin]
    · simp [hin]
  · simp [hc]
end Go.Sx
