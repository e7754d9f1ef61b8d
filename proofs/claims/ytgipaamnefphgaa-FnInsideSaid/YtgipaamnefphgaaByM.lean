/- What is in a box is what is directly in it, and what is in that. -/
import Derived.Test.YtgipaamnefphgaaByL
namespace Go.Sx
set_option linter.unusedVariables false

theorem fil_sum (l : List Thing) (p : Thing → Bool) (F : Thing → Int) : ∀ m, m ≤ l.length → (((l.take m).filter p).map F).sum = sm m fun t => if p (th l t) then F (th l t) else 0
  | 0, _ => by simp [sm]
  | m + 1, h => by
    have ih := fil_sum l p F m (by omega)
    have hm : m < l.length := by omega
    rw [List.take_succ_eq_append_getElem hm, List.filter_append, List.map_append, List.sum_append, ih, sm, th_get hm]
    cases hp : p l[m] <;> simp [hp]
theorem fil_len' (l : List Thing) (p : Thing → Bool) : ((l.filter p).length : Int) = sm l.length fun t => if p (th l t) then 1 else 0 := by
  have := fil_sum l p (fun _ => 1) l.length (Nat.le_refl _)
  rw [List.take_length] at this
  rw [← this]
  generalize l.filter p = L
  induction L with
  | nil => rfl
  | cons a L ih => simp only [List.length_cons, List.map_cons, List.sum_cons, ← ih]; omega
theorem all_len {l : List Thing} (h : areB l = true) {q : Nat} (hq : q < l.length) : ((allV' l (th l q).Id).length : Int) = sm l.length fun t => inc (th l q).Id (anc l t) := by
  obtain ⟨R, D⟩ := Right.of_are h
  unfold allV'
  rw [if_pos (thB_th h hq), List.length_map, fil_len']
  refine sm_congr fun t ht => ?_
  unfold arB inc
  rw [aro_anc R ht]
  by_cases hm : (th l q).Id ∈ anc l t
  · rw [if_pos hm, if_pos]
    simp only [List.any_eq_true, beq_iff_eq]; exact ⟨_, hm, rfl⟩
  · rw [if_neg hm, if_neg]
    simp only [List.any_eq_true, beq_iff_eq]; rintro ⟨x, hx, rfl⟩; exact hm hx
theorem inside_count {l : List Thing} (h : areB l = true) {q : Nat} (hq : q < l.length) :
    ((allV' l (th l q).Id).length : Int) = ((insV l (th l q).Id).length : Int) + ((insV l (th l q).Id).map fun d => ((allV' l d).length : Int)).sum := by
  obtain ⟨R, D⟩ := Right.of_are h
  have e1 : ((insV l (th l q).Id).length : Int) = sm l.length fun t => if (th l t).In = (th l q).Id then 1 else 0 := by
    unfold insV
    rw [if_pos (thB_th h hq), List.length_map, fil_len']
    exact sm_congr fun t _ => by simp
  have e2 : ((insV l (th l q).Id).map fun d => ((allV' l d).length : Int)).sum = sm l.length fun d => if (th l d).In = (th l q).Id then ((allV' l (th l d).Id).length : Int) else 0 := by
    unfold insV
    rw [if_pos (thB_th h hq), List.map_map]
    have := fil_sum l (fun t => t.In == (th l q).Id) (fun t => ((allV' l t.Id).length : Int)) l.length (Nat.le_refl _)
    rw [List.take_length] at this
    refine this.trans (sm_congr fun t _ => by simp)
  rw [all_len h hq, e1, e2]
  have e3 : (sm l.length fun d => if (th l d).In = (th l q).Id then ((allV' l (th l d).Id).length : Int) else 0) = sm l.length fun d => sm l.length fun t => if (th l d).In = (th l q).Id then inc (th l d).Id (anc l t) else 0 := by
    refine sm_congr fun d hd => ?_
    by_cases hc : (th l d).In = (th l q).Id
    · rw [if_pos hc, all_len h hd]; exact sm_congr fun t _ => by rw [if_pos hc]
    · rw [if_neg hc]; exact (sm_zero' fun t _ => by rw [if_neg hc]).symm
  rw [e3, sm_comm, ← sm_add]
  exact sm_congr fun t ht => inc_parts R D hq t ht
theorem mem_all {l : List Thing} (h : areB l = true) {q t : Nat} (hq : q < l.length) (ht : t < l.length) : (th l t).Id ∈ allV' l (th l q).Id ↔ (th l q).Id ∈ anc l t := by
  obtain ⟨R, D⟩ := Right.of_are h
  unfold allV'
  rw [if_pos (thB_th h hq)]
  simp only [List.mem_map, List.mem_filter, arB, List.any_eq_true, beq_iff_eq]
  constructor
  · rintro ⟨x, ⟨hx, y, hy, e⟩, e2⟩
    obtain ⟨k, hk, rfl⟩ := List.getElem_of_mem hx
    rw [← th_get hk] at hy e2
    have : k = t := th_inj R hk ht e2
    subst this
    rw [aro_anc R hk] at hy
    exact e ▸ hy
  · intro hm
    exact ⟨th l t, ⟨by rw [th_get ht]; exact List.getElem_mem ht, _, by rw [aro_anc R ht]; exact hm, rfl⟩, rfl⟩
theorem of_all {l : List Thing} (h : areB l = true) {q : Nat} (hq : q < l.length) {x : Int} (hx : x ∈ allV' l (th l q).Id) : ∃ t, t < l.length ∧ x = (th l t).Id ∧ (th l q).Id ∈ anc l t := by
  have hx' := hx
  unfold allV' at hx
  rw [if_pos (thB_th h hq)] at hx
  simp only [List.mem_map, List.mem_filter] at hx
  obtain ⟨y, ⟨hy, _⟩, rfl⟩ := hx
  obtain ⟨k, hk, rfl⟩ := List.getElem_of_mem hy
  rw [← th_get hk] at hx' ⊢
  exact ⟨k, hk, rfl, (mem_all h hq hk).1 hx'⟩
theorem of_ins {l : List Thing} (h : areB l = true) {q : Nat} (hq : q < l.length) {x : Int} (hx : x ∈ insV l (th l q).Id) : ∃ t, t < l.length ∧ x = (th l t).Id ∧ (th l t).In = (th l q).Id := by
  unfold insV at hx
  rw [if_pos (thB_th h hq)] at hx
  simp only [List.mem_map, List.mem_filter, beq_iff_eq] at hx
  obtain ⟨y, ⟨hy, hi⟩, rfl⟩ := hx
  obtain ⟨k, hk, rfl⟩ := List.getElem_of_mem hy
  rw [← th_get hk] at hi ⊢
  exact ⟨k, hk, rfl, hi⟩
theorem anc_child {l : List Thing} (R : Right l) (D : DpAll l) {q c : Nat} (hq : q < l.length) (hc : c < l.length) (hin : (th l c).In = (th l q).Id) : anc l c = (th l q).Id :: anc l q := by
  have := th_pos R hq
  obtain ⟨j, hj, e1, _, _, e2⟩ := anc_cons R D hc (by omega)
  have : j = q := th_inj R hj hq (by rw [e1, hin])
  subst this
  exact e2
theorem all_pair {l : List Thing} (R : Right l) (id : Int) : (allV' l id).Pairwise (· < ·) := by
  have hl : l.Pairwise (fun a b => a.Id < b.Id) := by
    rw [List.pairwise_iff_getElem]
    intro i j hi hj hij
    have := R.lt i (j - i - 1) (by omega)
    simpa only [show i + (j - i - 1) + 1 = j by omega] using this
  unfold allV'
  split
  · exact List.pairwise_map.2 (hl.sublist List.filter_sublist)
  · exact List.Pairwise.nil
theorem any_of {L : List Int} {x : Int} (h : x ∈ L) : L.any (· == x) = true := by simp only [List.any_eq_true, beq_iff_eq]; exact ⟨x, h, rfl⟩
theorem FnInside_true (a : List Int) : laws_FnInside a = some true := by
  unfold laws_FnInside
  rw [big_eq]
  by_cases hb : (a.length : Int) > 4096
  · simp [hb]
  obtain ⟨l, id, e, hl⟩ := drawFindThing_ok a (by omega)
  have hl' : l.length ≤ 1048576 := by omega
  have e' : spec_DrawAllInside a = some (l, id) := by simp [spec_DrawAllInside, e]
  simp only [hb, decide_false, cond_false, Option.bind_some, e', impl_AllInside_eq l id hl', spec_AllInside_eq l id hl', impl_InsideOf_eq l id hl', bneI, decide_true, Bool.not_true]
  cases ht : thB l id with
  | false =>
    have e1 : allV' l id = [] := by unfold allV'; simp [ht]
    have e2 : insV l id = [] := by unfold insV; simp [ht]
    rw [e1, e2]
    have f1 : loopM (laws_FnInside_L1 (l, id) [] []) big (0, 0) = some (.inl 0) := by
      rw [show big = 999999999999 + 1 from rfl, loopM]; simp [laws_FnInside_L1, laws_FnInside_L1_b]
    have f2 : loopM (laws_FnInside_L2 (l, id) []) big 0 = some (.inl ()) := by
      rw [show big = 999999999999 + 1 from rfl, loopM]; simp [laws_FnInside_L2, laws_FnInside_L2_b]
    simp [f1, laws_FnInside_L1_k, laws_FnInside_L1_a, f2, laws_FnInside_L2_k, laws_FnInside_L2_a]
  | true =>
    have ht' := ht
    simp only [thB, Bool.and_eq_true, decide_eq_true_eq] at ht
    have hA := ht.1
    obtain ⟨R, D⟩ := Right.of_are hA
    obtain ⟨q, hq, eq, hid0⟩ := fnd_some ht.2
    obtain rfl : id = (th l q).Id := by rw [th_get hq]; exact hid0.symm
    clear hid0
    have hall : (allV' l (th l q).Id).length ≤ 102 := by have := allV'_le l (th l q).Id; omega
    have hins : (insV l (th l q).Id).length ≤ 102 := by have := insV_le l (th l q).Id; omega
    have hcount := inside_count hA hq
    obtain ⟨A, hAe⟩ : ∃ A, A = allV' l (th l q).Id := ⟨_, rfl⟩
    obtain ⟨I, hIe⟩ : ∃ I, I = insV l (th l q).Id := ⟨_, rfl⟩
    rw [← hAe] at hall hcount
    rw [← hIe] at hins hcount
    rw [← hAe, ← hIe]
    have hF : ∀ d : Int, 0 ≤ ((allV' l d).length : Int) ∧ ((allV' l d).length : Int) ≤ 102 := fun d => by have := allV'_le l d; omega
    have hpre : ∀ i, i ≤ I.length → 0 ≤ ((I.take i).map fun d => ((allV' l d).length : Int)).sum ∧ ((I.take i).map fun d => ((allV' l d).length : Int)).sum ≤ 102 * i := by
      intro i
      induction i with
      | zero => intro _; simp
      | succ i ih =>
        intro hi
        have := ih (by omega)
        have := hF I[i]
        rw [List.take_succ_eq_append_getElem (by omega), List.map_append, List.sum_append]
        simp only [List.map_cons, List.map_nil, List.sum_cons, List.sum_nil]
        omega
    -- the things that are directly in it
    have hL1 := loop_val (body := laws_FnInside_L1 (l, (th l q).Id) A I) I.length (fun i => ((I.length : Int) + ((I.take i).map fun d => ((allV' l d).length : Int)).sum, (i : Int))) (A.length : Int) (by omega) (fun i hi => by
      have hm : I[i] ∈ I := List.getElem_mem hi
      obtain ⟨d, hd⟩ : ∃ d, d = I[i] := ⟨_, rfl⟩
      rw [← hd] at hm
      have hm2 := hm
      rw [hIe] at hm2
      obtain ⟨c, hc, hdc, hin⟩ := of_ins hA hq hm2
      have hac := anc_child R D hq hc hin
      have hdA : d ∈ A := by rw [hdc, hAe]; exact (mem_all hA hq hc).2 (by rw [hac]; simp)
      have hbl : (allV' l d).length ≤ 102 := by have := allV'_le l d; omega
      have hL3 := loop_val (body := laws_FnInside_L3 A (allV' l d)) (allV' l d).length (fun i => (i : Int)) () (by omega) (fun k hk => by
        have hk2 : (allV' l d)[k] ∈ allV' l d := List.getElem_mem hk
        obtain ⟨y, hy⟩ : ∃ y, y = (allV' l d)[k] := ⟨_, rfl⟩
        rw [← hy] at hk2
        have hyA : y ∈ A := by
          rw [hdc] at hk2
          obtain ⟨t, htl, hyt, hat⟩ := of_all hA hc hk2
          obtain ⟨pre, hpe⟩ := anc_split R D hc t htl hat
          rw [hyt, hAe]
          refine (mem_all hA hq htl).2 ?_
          rw [hpe, hac]; simp
        simp only [laws_FnInside_L3, laws_FnInside_L3_b, Int.ofNat_lt, hk, decide_true, cond_true, gi_nat hk, Option.bind_some, ← hy, has_eq A y (by omega), any_of hyA, w64_succ (by omega : k ≤ 1048576), Bool.not_true, cond_false]) (by simp [laws_FnInside_L3, laws_FnInside_L3_b])
      rw [show ((0 : Nat) : Int) = 0 from rfl] at hL3
      have hdep : depV l d = depV l (th l q).Id + 1 := by
        unfold depV
        rw [if_pos ht', hdc, if_pos (thB_th hA hc), aro_anc R hc, aro_anc R hq, hac]; simp
      have hdw : w64 (depV l (th l q).Id + 1) = depV l (th l q).Id + 1 := by
        have : 0 ≤ depV l (th l q).Id ∧ depV l (th l q).Id ≤ 5 := by unfold depV; rw [if_pos ht']; have := aro_le l (th l q).Id; omega
        rw [w64_id (by omega) (by omega)]
      have hp1 := hpre i (by omega)
      have hp2 := hF d
      simp only [laws_FnInside_L1, laws_FnInside_L1_b, Int.ofNat_lt, hi, decide_true, cond_true, gi_nat hi, Option.bind_some, ← hd, impl_AllInside_eq l d hl', hL3, laws_FnInside_L3_k, laws_FnInside_L3_a, has_eq A d (by omega), any_of hdA, impl_DepthOf_eq l _ hl', hdep, hdw, bneI, Bool.not_true, cond_false, w64_succ (by omega : i ≤ 1048576)]
      rw [w64_id (by omega) (by omega), List.take_succ_eq_append_getElem hi, List.map_append, List.sum_append, ← hd]
      simp only [List.map_cons, List.map_nil, List.sum_cons, List.sum_nil, Int.add_assoc, Int.add_zero]) (by
      rw [List.take_length, ← hcount]
      simp [laws_FnInside_L1, laws_FnInside_L1_b])
    simp only [List.take_zero, List.map_nil, List.sum_nil, Int.add_zero, show ((0 : Nat) : Int) = 0 from rfl] at hL1
    have hL2 := loop_val (body := laws_FnInside_L2 (l, (th l q).Id) A) A.length (fun i => (i : Int)) () (by omega) (fun i hi => by
      have hm : A[i] ∈ A := List.getElem_mem hi
      obtain ⟨x, hx⟩ : ∃ x, x = A[i] := ⟨_, rfl⟩
      rw [← hx] at hm
      rw [hAe] at hm
      obtain ⟨t, htl, hxt, hat⟩ := of_all hA hq hm
      have hout : outV l x = outV l (th l q).Id := by
        obtain ⟨pre, hpe⟩ := anc_split R D hq t htl hat
        unfold outV
        rw [if_pos ht', hxt, if_pos (thB_th hA htl), aro_anc R htl, aro_anc R hq, hpe, List.getLast?_append, List.getLast?_cons]
        simp
      simp only [laws_FnInside_L2, laws_FnInside_L2_b, Int.ofNat_lt, hi, decide_true, cond_true, gi_nat hi, Option.bind_some, ← hx, impl_OuterOf_eq l _ hl', hout, bneI, Bool.not_true, cond_false, w64_succ (by omega : i ≤ 1048576)]
      by_cases h0 : i = 0
      · subst h0; simp
      · have hP := all_pair R (th l q).Id
        rw [← hAe] at hP
        have hlt := List.pairwise_iff_getElem.1 hP (i - 1) i (by omega) hi (by omega)
        rw [w64_id (by omega) (by omega), show ((i : Int) - 1) = ((i - 1 : Nat) : Int) by omega, gi_nat (show i - 1 < A.length by omega)]
        rw [← hx] at hlt
        simp [show ¬ (x ≤ A[i - 1]) by omega, show 0 < i by omega]) (by simp [laws_FnInside_L2, laws_FnInside_L2_b])
    rw [show ((0 : Nat) : Int) = 0 from rfl] at hL2
    simp only [hL1, Option.bind_some, laws_FnInside_L1_k, laws_FnInside_L1_a, hL2, laws_FnInside_L2_k, laws_FnInside_L2_a]
    simp
end Go.Sx
