/- The laws about ways answer true: who starts later, a way over a third place, the latest start. -/
import Derived.Test.YtjjmcifpnjmlbaaGzF
namespace Go.Sx
open Relax (g g_set X)
set_option linter.unusedVariables false

theorem best_vals {n : Network} {p : ByteArray} {t : Int} {k : Nat} (hf : Fine n p t) : bestV n p t (k : Int) = XN n (idxV (plcs n) p).toNat t k := by
  rw [best_fine hf (by omega), Int.toNat_natCast]
theorem later_loop (x y : List Int) (hl : x.length ≤ 4000000) (hxy : x.length = y.length) (h : ∀ i, i < x.length → 0 ≤ g x i → 0 ≤ g y i ∧ g y i ≤ g x i) : loopM (laws_FnLater_L1 x y) big 0 = some (.inl ()) := by
  refine loop_go (body := laws_FnLater_L1 x y) x.length (fun i => (i : Int)) () (show x.length < 1000000000000 by omega) (fun i hi => ?_) ?_
  · have hx := gi_g hi
    have hy := gi_g (show i < y.length by omega)
    have hw : w64 ((i : Int) + 1) = ((i + 1 : Nat) : Int) := by rw [w64_id (by omega) (by omega)]; omega
    have := h i hi
    show laws_FnLater_L1_b x y (i : Int) = _
    unfold laws_FnLater_L1_b
    simp only [Int.ofNat_lt, hi, decide_true, cond_true, hx, hy, Option.bind_some, hw]
    by_cases h0 : g x i ≥ 0
    · have h1 := this h0
      simp [h0, show ¬ g y i < 0 by omega, show ¬ g y i > g x i by omega]
    · simp [h0]
  · show laws_FnLater_L1_b x y (x.length : Int) = _
    simp [laws_FnLater_L1_b]
theorem FnLater_true (a : List Int) (hv : ∀ x ∈ a, 0 ≤ x ∧ x ≤ 255) : laws_FnLater a = some true := by
  unfold laws_FnLater laws_big
  simp only [Option.bind_some]
  by_cases hb : (a.length : Int) > 4096
  · simp [hb]
  simp only [hb, decide_false, cond_false]
  obtain ⟨⟨n, p, q, t⟩, e, hd, hp, hq, ht⟩ := drawE_ok a (by omega)
  simp only at hd hp hq ht
  have hS := hd.S (by omega)
  have hpl := plcs_len n hS
  obtain ⟨v1, e1, a0, a1⟩ := lawAt_ok a (by omega) hv 1 (by omega)
  obtain ⟨v2, e2, b0, b1⟩ := lawAt_ok a (by omega) hv 2 (by omega)
  rw [e]
  simp only [Option.bind_some]
  by_cases h1 : t < 0
  · simp [h1]
  by_cases h2 : t > 90000
  · simp [h1, h2]
  have hm : 0 ≤ Int.tmod v2 5 ∧ Int.tmod v2 5 < 5 := tmod_in b0 (by omega)
  obtain ⟨k, hk⟩ := Int.eq_ofNat_of_zero_le hm.1
  have w1 : w64 (7 * v1) = 7 * v1 := w64_id (by omega) (by omega)
  have w2 : w64 (t + 7 * v1) = t + 7 * v1 := w64_id (by omega) (by omega)
  have w3 : w64 ((k : Int) + 1) = ((k + 1 : Nat) : Int) := by rw [w64_id (by omega) (by omega)]; omega
  have hfin : (loopM (laws_FnLater_L1 (bestV n p t (k : Int)) (bestV n p t ((k + 1 : Nat) : Int))) big 0).bind (laws_FnLater_L1_k (bestV n p t (k : Int)) (bestV n p t ((k + 1 : Nat) : Int))) = some true := by
    have hlen : (bestV n p t (k : Int)).length ≤ 4000000 ∧ (bestV n p t (k : Int)).length = (bestV n p t ((k + 1 : Nat) : Int)).length ∧ ∀ i, i < (bestV n p t (k : Int)).length → 0 ≤ g (bestV n p t (k : Int)) i → 0 ≤ g (bestV n p t ((k + 1 : Nat) : Int)) i ∧ g (bestV n p t ((k + 1 : Nat) : Int)) i ≤ g (bestV n p t (k : Int)) i := by
      by_cases hf : Fine n p t
      · rw [best_vals hf, best_vals hf, XN_len hf.1 hf.lt hf.2.2, XN_len hf.1 hf.lt hf.2.2]
        exact ⟨by omega, rfl, fun i _ h0 => XN_more hf.1 hf.lt hf.2.2 k 1 i h0⟩
      · rw [best_bad hf, best_bad hf]
        exact ⟨by simp, rfl, fun i hi => absurd hi (by simp)⟩
    rw [later_loop _ _ hlen.1 hlen.2.1 hlen.2.2]
    simp only [Option.bind_some, laws_FnLater_L1_k, laws_FnLater_L1_a, hlen.2.1]
    simp
  have hfin2 : (loopM (laws_FnLater_L2 (bestV n p t (k : Int)) (bestV n p t ((k + 1 : Nat) : Int))) big 0).bind (laws_FnLater_L2_k (bestV n p t (k : Int)) (bestV n p t ((k + 1 : Nat) : Int))) = some true := hfin
  have hne : ∀ z : Int, (z != z) = false := fun z => by simp
  simp only [h1, h2, decide_false, cond_false, (ear_spec n hS p q t).1, (ear_spec n hS p q t).2, Option.bind_some, hne, e1, w1, w2, (ear_spec n hS p q (t + 7 * v1)).2, e2, best_impl n hS, hk]
  have hk' : ((Int.ofNat k : Int)) = (k : Int) := rfl
  simp only [hk', w3]
  by_cases h3 : earV n p q (t + 7 * v1) ≥ 0
  · have := ear_later (n := n) (a := p) (b := q) (t := t) (u := t + 7 * v1) (by omega) (by omega) h3
    simp only [h3, show ¬ earV n p q t < 0 by omega, show ¬ earV n p q t > earV n p q (t + 7 * v1) by omega, decide_true, decide_false, cond_true, cond_false]
    exact hfin
  · simp only [h3, decide_false, cond_false]
    exact hfin2
theorem FnOver_true (a : List Int) (hv : ∀ x ∈ a, 0 ≤ x ∧ x ≤ 255) : laws_FnOver a = some true := by
  unfold laws_FnOver laws_big
  simp only [Option.bind_some]
  by_cases hb : (a.length : Int) > 4096
  · simp [hb]
  simp only [hb, decide_false, cond_false]
  obtain ⟨⟨n, p, q, t⟩, e, hd, hp, hq, ht⟩ := drawE_ok a (by omega)
  simp only at hd hp hq ht
  have hS := hd.S (by omega)
  have hpl := plcs_len n hS
  obtain ⟨v1, e1, a0, a1⟩ := lawAt_ok a (by omega) hv 1 (by omega)
  rw [e]
  simp only [Option.bind_some, spec_PlacesOf_eq n hS]
  cases hz : (((plcs n).length : Int) == 0) with
  | true => simp
  | false =>
  have hz' : ¬ ((plcs n).length : Int) = 0 := by simpa using hz
  by_cases h1 : t < 0
  · simp [h1]
  have hm := tmod_in a0 (show 0 < ((plcs n).length : Int) by omega)
  have hr : rM v1 ((plcs n).length : Int) = some (Int.tmod v1 (plcs n).length) := by simp only [rM, hz', if_false]
  have hne : ∀ z : Int, (z != z) = false := fun z => by simp
  simp only [h1, decide_false, cond_false, e1, hr, Option.bind_some, gi_eq hm.1 hm.2]
  have hmem : (plcs n)[(Int.tmod v1 (plcs n).length).toNat]'(by omega) ∈ plcs n := List.getElem_mem _
  generalize (plcs n)[(Int.tmod v1 (plcs n).length).toNat]'(by omega) = o at hmem
  simp only [(ear_spec n hS p o t).1, (ear_spec n hS p o t).2, Option.bind_some, hne, cond_false]
  by_cases h2 : earV n p o t < 0
  · simp [h2]
  simp only [h2, decide_false, cond_false]
  cases o.toList == p.toList with
  | true => simp
  | false =>
  cases o.toList == q.toList with
  | true => simp
  | false =>
  have hc : Fine n p t ∧ ¬ idxV (plcs n) o < 0 := Classical.byContradiction fun hc => by rw [ear_bad hc] at h2; omega
  have hch := change_in hc.1.1
  have hbig := ear_big n p o t
  have w1 : w64 (earV n p o t + n.Change) = earV n p o t + n.Change := w64_id (by omega) (by omega)
  simp only [cond_false, w1, (ear_spec n hS o q _).2, (ear_spec n hS p q t).2, Option.bind_some]
  by_cases h3 : earV n o q (earV n p o t + n.Change) < 0
  · simp [h3]
  have hc2 : Fine n o (earV n p o t + n.Change) ∧ ¬ idxV (plcs n) q < 0 := Classical.byContradiction fun hc => by rw [ear_bad hc] at h3; omega
  have key : 0 ≤ earV n p q t ∧ earV n p q t ≤ earV n o q (earV n p o t + n.Change) := by
    have hE := ear_fine hc.1 hc.2
    rw [ear_fine hc.1 hc2.2]
    rw [ear_fine hc2.1 hc2.2] at h3 ⊢
    have hb2 := hc2.1.2.2
    rw [hE] at h3 hb2 h2 ⊢
    exact DN_over hc.1.1 hc.1.lt hc2.1.lt hc.1.2.2 (Int.not_lt.1 h2) hb2 _ _ (Int.not_lt.1 h3)
  simp [h3, key.1, key.2]
theorem lawIndex_eq (l : List ByteArray) (p : ByteArray) (hl : l.length ≤ 4000000) : laws_index l p = some (idxV l p) := by
  rw [← idx_loop (body := laws_index_L1 l p) l p hl (fun i hi => by
    show laws_index_L1_b l p _ = _
    unfold laws_index_L1_b
    simp only [Int.ofNat_lt, hi, decide_true, cond_true, gi_nat hi, Option.bind_some, bytes_eq_decide]
    rw [w64_id (by omega) (by omega)]
    by_cases h : l[i] = p <;> simp [h]) (by
    show laws_index_L1_b l p _ = _
    simp [laws_index_L1_b])]
  unfold laws_index
  congr 1
theorem las_fine {n : Network} {p q : ByteArray} {b : Int} (hn : netB n = true) (hp : ¬ idxV (plcs n) p < 0) (hq : ¬ idxV (plcs n) q < 0) (hb : 0 ≤ b) : lasV n p q b = LN n (idxV (plcs n) q).toNat b (idxV (plcs n) p).toNat := by
  unfold lasV
  rw [if_pos ⟨hn, hp, hq, by omega⟩]
theorem las_le {n : Network} {p q : ByteArray} {b : Int} (hn : netB n = true) (hp : ¬ idxV (plcs n) p < 0) (hq : ¬ idxV (plcs n) q < 0) (hb : 0 ≤ b) : lasV n p q b ≤ b := by
  rw [las_fine hn hp hq hb]
  obtain ⟨k, e, hk⟩ := idx_lt hq
  rw [e]
  by_cases h : 0 ≤ LN n k b (idxV (plcs n) p).toNat
  · exact LN_le hn hk _ _ h
  · simp only [Int.toNat_natCast]; omega
/-- the latest start and the earliest arrival are two sides of one thing -/
theorem dual {n : Network} {p q : ByteArray} {s b : Int} (hn : netB n = true) (hp : ¬ idxV (plcs n) p < 0) (hq : ¬ idxV (plcs n) q < 0) (hs0 : 0 ≤ s) (hs : s ≤ 100000) (hb0 : 0 ≤ b) (hb : b ≤ 100000) :
    (0 ≤ earV n p q s ∧ earV n p q s ≤ b) ↔ s ≤ lasV n p q b := by
  have hf : Fine n p s := ⟨hn, hp, by omega⟩
  have hx : (idxV (plcs n) q).toNat < (plcs n).length := (show Fine n q s from ⟨hn, hq, by omega⟩).lt
  rw [ear_fine hf hq, las_fine hn hp hq hb0]
  constructor
  · intro ⟨h1, h2⟩
    exact dual_2 hn hf.lt hx hs0 (by omega) hb0 hb h1 h2
  · intro h
    exact dual_1 hn hf.lt hx hs0 (by omega) hb0 hb h
theorem FnLatest_true (a : List Int) : laws_FnLatest a = some true := by
  unfold laws_FnLatest laws_big
  simp only [Option.bind_some]
  by_cases hb : (a.length : Int) > 4096
  · simp [hb]
  simp only [hb, decide_false, cond_false]
  obtain ⟨⟨n, p, q, t⟩, e, hd, hp, hq, ht⟩ := drawL_ok a (by omega)
  simp only at hd hp hq ht
  have hS := hd.S (by omega)
  have hpl := plcs_len n hS
  rw [e]
  have hl := last_impl n hS p q t ht.2
  have hlow : decide (lasV n p q t ≥ -1) = true := by have := las_low n p q t; simpa using this
  simp only [Option.bind_some, hl, spec_IsNetwork_eq n hS, spec_PlacesOf_eq n hS, lawIndex_eq _ _ (show (plcs n).length ≤ 4000000 by omega), hlow]
  by_cases h1 : t < 0
  · simp [h1]
  by_cases h2 : t ≥ 100000
  · simp [h1, h2]
  cases hn : netB n with
  | false => simp [h1, h2]
  | true =>
  by_cases h3 : idxV (plcs n) p < 0
  · simp [h1, h2, h3]
  by_cases h4 : idxV (plcs n) q < 0
  · simp [h1, h2, h3, h4]
  have hll := las_low n p q t
  have hle := las_le hn h3 h4 (show 0 ≤ t by omega)
  have w1 : w64 (lasV n p q t + 1) = lasV n p q t + 1 := w64_id (by omega) (by omega)
  simp only [h1, h2, h3, h4, decide_false, cond_false, Bool.not_true, w1, (ear_spec n hS p q _).2, Option.bind_some]
  have d1 := (dual (s := lasV n p q t + 1) hn h3 h4 (by omega) (by omega) (show 0 ≤ t by omega) (by omega)).1
  have hfin : (bif lasV n p q t == -1 then (some true : Option Bool) else bif decide (earV n p q (lasV n p q t) ≥ 0) then some (decide (earV n p q (lasV n p q t) ≤ t)) else some false) = some true := by
    by_cases h5 : lasV n p q t = -1
    · simp [h5]
    · have := (dual (s := lasV n p q t) hn h3 h4 (by omega) (by omega) (show 0 ≤ t by omega) (by omega)).2 (Int.le_refl _)
      simp [h5, this.1, this.2]
  by_cases h5 : earV n p q (lasV n p q t + 1) ≥ 0
  · have h6 : ¬ earV n p q (lasV n p q t + 1) ≤ t := fun h6 => by
      have := d1 ⟨h5, h6⟩
      omega
    simp only [h5, h6, decide_true, decide_false, cond_true, cond_false]
    exact hfin
  · simp only [h5, decide_false, cond_false]
    exact hfin
end Go.Sx
