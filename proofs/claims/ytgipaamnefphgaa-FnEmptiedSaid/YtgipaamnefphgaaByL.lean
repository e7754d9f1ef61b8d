/- A box that is emptied. -/
import Derived.Test.YtgipaamnefphgaaByK
namespace Go.Sx
set_option linter.unusedVariables false

theorem not_own {l : List Thing} (R : Right l) (D : DpAll l) {p : Nat} (hp : p < l.length) : (th l p).In ≠ (th l p).Id := fun h1 => by
  have hself := anc_self R D hp
  have : (th l p).In ≠ 0 := by have := th_pos R hp; omega
  obtain ⟨j, hj, e1, _, _, e2⟩ := anc_cons R D hp this
  rw [e1, h1] at e2
  exact absurd (by rw [e2]; simp) hself
theorem Up.self {l l' : List Thing} {p : Nat} {C : Nat → Bool} (R : Right l) (D : DpAll l) (U : Up l l' p C) : Sx.anc l' p = Sx.anc l p := by
  have hself := anc_self R D U.hp
  rcases U.anc R D p U.hp with h | h
  · exact h
  · rw [h]
    exact List.filter_eq_self.2 fun x hx => by simp only [bne_iff_ne, ne_eq]; intro e; exact hself (e ▸ hx)
theorem Up.same {l l' : List Thing} {p : Nat} {C : Nat → Bool} (R : Right l) (D : DpAll l) (U : Up l l' p C) {d : Nat} (hd : d < l.length) (hc : C d = true) : Sx.anc l' d = Sx.anc l p := by
  rw [← U.self R D]
  have hCp : C p = false := by
    cases h : C p with
    | false => rfl
    | true => exact absurd (U.hC p U.hp h) (not_own R D U.hp)
  show chn l' 5 (d : Int) = chn l' 5 (p : Int)
  rw [chn_5, chn_5, U.get d hd, U.get p U.hp, if_pos hc, hCp]
  rfl
theorem up_empty {l : List Thing} (R : Right l) {p : Nat} (hp : p < l.length) : Up l (empL l (th l p).Id (th l p).In) p (fun q => decide ((th l q).In = (th l p).Id)) := by
  refine ⟨by simp [empL], hp, fun q hq hc => by simpa using hc, fun q hq => ?_⟩
  have hq2 : q < (empL l (th l p).Id (th l p).In).length := by simpa [empL] using hq
  rw [th_get hq2]
  simp only [empL, List.getElem_map]
  rw [th_get hq]
  by_cases h : l[q].In = (th l p).Id
  · simp [h]
  · simp [h]
theorem FnEmptied_true (a : List Int) : laws_FnEmptied a = some true := by
  unfold laws_FnEmptied
  rw [big_eq]
  by_cases hb : (a.length : Int) > 4096
  · simp [hb]
  obtain ⟨l, id, e, hl⟩ := drawFindThing_ok a (by omega)
  have hl' : l.length ≤ 1048576 := by omega
  have e' : spec_DrawEmptyBox a = some (l, id) := by simp [spec_DrawEmptyBox, e]
  simp only [hb, decide_false, cond_false, Option.bind_some, e', impl_EmptyBox_eq l id hl', bneI]
  by_cases hc : (empV l id).2 = 0
  · have hp : thB l id = true ∧ isBx l id = true ∧ empV l id = (empL l id (thA l (fnd l id)).In, 0) := by
      unfold empV at hc ⊢
      cases h1 : thB l id <;> cases h2 : isBx l id <;> cases h3 : lockB l id <;> cases h5 : (thA l (fnd l id)).Sealed <;> simp [h1, h2, h3, h5] at hc ⊢
    obtain ⟨h1, h2, h3⟩ := hp
    have h1' := h1
    simp only [thB, Bool.and_eq_true, decide_eq_true_eq] at h1
    obtain ⟨R, D⟩ := Right.of_are h1.1
    obtain ⟨p, hpl, ep, hid⟩ := fnd_some h1.2
    have ht : thA l (fnd l id) = th l p := by unfold thA; rw [ep]; simp
    have hid' : (th l p).Id = id := by rw [th_get hpl]; exact hid
    have U := up_empty R hpl
    rw [hid'] at U
    rw [ht] at h3
    obtain ⟨x, hx⟩ : ∃ x, x = empL l id (th l p).In := ⟨_, rfl⟩
    rw [← hx] at U h3
    rw [h3]
    have hA := Up.are h1.1 U
    have hxl : x.length = l.length := U.len
    have hxl' : x.length ≤ 1048576 := by omega
    have hdl : (insV l id).length ≤ 1048576 := by have := insV_le l id; omega
    have hlp := loop_val (body := laws_FnEmptied_L1 (l, id) (x, 0) (insV l id)) (insV l id).length (fun i => (i : Int)) () hdl (fun i hi => by
      have hm : (insV l id)[i] ∈ insV l id := List.getElem_mem hi
      obtain ⟨v, hv⟩ : ∃ v, v = (insV l id)[i] := ⟨_, rfl⟩
      rw [← hv] at hm
      have hm2 := hm
      unfold insV at hm2
      rw [if_pos h1'] at hm2
      simp only [List.mem_map, List.mem_filter, beq_iff_eq] at hm2
      obtain ⟨t, ⟨htm, hti⟩, htd⟩ := hm2
      obtain ⟨d, hd, rfl⟩ := List.getElem_of_mem htm
      rw [← th_get hd] at hti htd
      have hds : anc x d = anc l p := U.same R D hd (by simpa using hti)
      have hx1 : depV x v = depV l id := by
        have R' := U.right R D
        have hdx : d < x.length := by omega
        have hxd : (th x d).Id = v := by rw [U.get d hd]; exact htd
        unfold depV
        rw [if_pos h1', ← hxd, if_pos (thB_th hA hdx), aro_anc R' hdx, hds, ← hid', aro_anc R hpl]
      simp only [laws_FnEmptied_L1, laws_FnEmptied_L1_b, Int.ofNat_lt, hi, decide_true, cond_true, gi_nat hi, Option.bind_some, ← hv, impl_DepthOf_eq x v hxl', impl_DepthOf_eq l id hl', hx1, w64_succ (Nat.le_of_lt (Nat.lt_of_lt_of_le hi hdl))]
      simp) (by simp [laws_FnEmptied_L1, laws_FnEmptied_L1_b])
    rw [show ((0 : Nat) : Int) = 0 from rfl] at hlp
    have hins : insV x id = [] := by
      unfold insV
      split
      · rw [List.map_eq_nil_iff, List.filter_eq_nil_iff]
        intro t ht
        obtain ⟨q, hq, rfl⟩ := List.getElem_of_mem ht
        have hq' : q < l.length := by omega
        rw [← th_get hq, U.get q hq']
        have hno := not_own R D hpl
        rw [hid'] at hno
        by_cases hc : (th l q).In = id
        · simp [hc, hno]
        · simp [hc]
      · rfl
    have hg : groV x (outV l id) ≤ groV l (outV l id) := by
      unfold groV thB
      rw [hA, h1.1, U.fnd R D]
      by_cases hf : 0 ≤ fnd l (outV l id)
      · obtain ⟨q, hq, eq, _⟩ := fnd_some hf
        rw [eq]
        have := U.grs_le R D hq
        simpa using this
      · simp [hf]
    simp only [decide_true, Bool.not_true, cond_false, impl_InsideOf_eq l id hl', Option.bind_some, hlp, laws_FnEmptied_L1_k, laws_FnEmptied_L1_a, impl_AreThings_eq x hxl', hA, cond_true, impl_InsideOf_eq x id hxl', hins, impl_OuterOf_eq l id hl', impl_GrossOf_eq x _ hxl', impl_GrossOf_eq l _ hl', hg]
    simp
  · have : (empV l id).1 = l := by
      unfold empV at hc ⊢
      cases h1 : thB l id <;> cases h2 : isBx l id <;> cases h3 : lockB l id <;> cases h5 : (thA l (fnd l id)).Sealed <;> simp [h1, h2, h3, h5] at hc ⊢
    simp [hc, this, things_refl l hl']
end Go.Sx
