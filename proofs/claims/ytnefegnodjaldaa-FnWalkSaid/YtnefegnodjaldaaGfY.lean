/- Ways that are walked: what the program says of them; the laws of the way that is found and of the walk by chance answer true. -/
import Derived.Test.YtnefegnodjaldaaGfJ
namespace Go.Sx
open Relax (g g_set X)
set_option linter.unusedVariables false

/-- the way w leads from s to s' -/
abbrev Goes (n : Network) (w : List Trip) (s s' : ByteArray × Int) : Prop := each (X := ByteArray × Int) (R := Bool) (fun _ t s => wayF n t s) 0 w s = .inl s'
theorem goes_chain {n : Network} : ∀ (w : List Trip) (j : Nat) (s s' : ByteArray × Int), each (X := ByteArray × Int) (R := Bool) (fun _ t s => wayF n t s) j w s = .inl s' →
    (∀ t ∈ w, tripB n t = true) ∧ (∀ i (hi : i + 1 < w.length), enT n w[i] + n.Change ≤ stT n w[i + 1]) ∧ (∀ h : 0 < w.length, s.2 ≤ stT n w[0]) ∧ (∀ q, w.getLast? = some q → s'.2 = enT n q + n.Change) ∧ (w = [] → s' = s)
  | [], j, s, s', h => by
    simp only [each, Sum.inl.injEq] at h
    exact ⟨fun t ht => (by cases ht), fun i hi => absurd hi (by simp), fun h => absurd h (by simp), fun q hq => (by cases hq), fun _ => h.symm⟩
  | t :: w, j, s, s', h => by
    simp only [each] at h
    cases hf : wayF n t s with
    | inr r => rw [hf] at h; cases h
    | inl s1 =>
      rw [hf] at h
      have ih := goes_chain w (j + 1) s1 s' h
      unfold wayF at hf
      cases ht : tripB n t with
      | false => rw [ht] at hf; cases hf
      | true =>
        have hb := stT_in ht
        have hc := change_in (trip_in ht).1
        rw [ht] at hf
        simp only [cond_true] at hf
        cases h1 : ((legA n t.Leg).From.toList == s.1.toList) with
        | false => rw [h1] at hf; cases hf
        | true =>
          rw [h1] at hf
          simp only [Bool.not_true, cond_false] at hf
          by_cases h2 : stT n t < s.2
          · rw [decide_eq_true h2] at hf; cases hf
          · rw [decide_eq_false h2] at hf
            simp only [cond_false, Sum.inl.injEq] at hf
            rw [w64_id (by omega) (by omega)] at hf
            have hs1 : s1.2 = enT n t + n.Change := by rw [← hf]
            obtain ⟨i1, i2, i3, i4, i5⟩ := ih
            refine ⟨fun q hq => ?_, fun i hi => ?_, fun _ => (by show s.2 ≤ stT n t; omega), fun q hq => ?_, fun hh => (by cases hh)⟩
            · rcases List.mem_cons.1 hq with rfl | hq
              · exact ht
              · exact i1 q hq
            · cases i with
              | zero =>
                have h3 : 0 < w.length := by simp at hi; omega
                have := i3 h3
                show enT n t + n.Change ≤ stT n w[0]
                omega
              | succ i => exact i2 i (by simp at hi; omega)
            · cases w with
              | nil =>
                have h5 := i5 rfl
                simp only [List.getLast?_singleton, Option.some.injEq] at hq
                subst hq
                rw [h5]
                exact hs1
              | cons b r =>
                rw [List.getLast?_cons_cons] at hq
                exact i4 q hq
/-- when a way ends, of one that starts at t -/
def endW (n : Network) (t : Int) (w : List Trip) : Int := match w.getLast? with | some q => enT n q | none => t
section
variable (n : Network) (h : NetS n) (hn : netB n = true)
include h hn
theorem isWay_true (w : List Trip) (hw : w.length ≤ 1048576) (a b : ByteArray) (t r : Int) (ha : ¬ idxV (plcs n) a < 0) (hb : ¬ idxV (plcs n) b < 0) (hg : Goes n w (a, t) (b, r)) : impl_IsWay n w a b t = some true := by
  have hp := plcs_len n h
  unfold impl_IsWay
  rw [impl_PlacesOf_eq n h, impl_IsNetwork_eq n h, hn]
  simp only [Option.bind_some, placeAt_eq _ _ (show (plcs n).length ≤ 4000000 by omega), ha, hb, decide_false, cond_false, Bool.not_true]
  have e2 := loopM_each' (body := impl_IsWay_L1 n w) (X := ByteArray × Int) (R := Bool) w (fun x i => (x.2, x.1, i)) (fun _ t x => wayF n t x) (fun x => x.1) (a, t) (fun i hi x => by
    show impl_IsWay_L1_b n w _ _ _ = _
    unfold impl_IsWay_L1_b wayF
    simp only [gi_nat hi, Option.bind_some, Int.ofNat_lt, hi, decide_true, cond_true, w64_succ (Nat.le_of_lt (Nat.lt_of_lt_of_le hi hw)), impl_IsTrip_eq n h]
    cases ht : tripB n w[i] with
    | false => simp [ctl]
    | true =>
      obtain ⟨_, t1, t2, _⟩ := trip_in ht
      simp only [gi_leg t1 t2, Option.bind_some, starts_eq' ht, ends_eq' ht, Bool.not_true, cond_false, cond_true]
      cases (legA n w[i].Leg).From.toList == x.1.toList <;> simp [ctl]
      by_cases hs : stT n w[i] < x.2 <;> simp [hs]) (fun x => by
    show impl_IsWay_L1_b n w _ _ _ = _
    simp [impl_IsWay_L1_b]) hw
  rw [e2, hg]
  simp [fin, impl_IsWay_L1_k, impl_IsWay_L1_a]
theorem wayEnds_eq (w : List Trip) (hw : w.length ≤ 1048576) (t : Int) (hall : ∀ q ∈ w, tripB n q = true) : impl_WayEnds n w t = some (endW n t w) := by
  unfold impl_WayEnds
  rw [impl_IsNetwork_eq n h, hn]
  have := loop_go (body := impl_WayEnds_L1 n w) w.length (fun i => (endW n t (w.take i), (i : Int))) (endW n t w) (show w.length < 1000000000000 by omega) (fun i hi => by
    have ht := hall _ (List.getElem_mem hi)
    have he : endW n t (w.take (i + 1)) = enT n w[i] := by
      unfold endW
      rw [List.take_succ_eq_append_getElem hi, List.getLast?_append]
      simp
    show impl_WayEnds_L1_b n w _ (i : Int) = _
    unfold impl_WayEnds_L1_b
    simp only [Int.ofNat_lt, hi, decide_true, cond_true, gi_nat hi, Option.bind_some, impl_IsTrip_eq n h, ht, Bool.not_true, cond_false, ends_eq' ht, w64_succ (Nat.le_of_lt (Nat.lt_of_lt_of_le hi hw)), he]) (by
    show impl_WayEnds_L1_b n w _ (w.length : Int) = _
    unfold impl_WayEnds_L1_b
    simp only [Int.lt_irrefl, decide_false, cond_false, List.take_length])
  have this' : loopM (impl_WayEnds_L1 n w) big (t, 0) = some (.inl (endW n t w)) := this
  simp only [Option.bind_some, Bool.not_true, cond_false, this', impl_WayEnds_L1_k, impl_WayEnds_L1_a]
theorem slack_pos (w : List Trip) (hw : w.length ≤ 1048576) (hall : ∀ q ∈ w, tripB n q = true) (hch : ∀ i (hi : i + 1 < w.length), enT n w[i] + n.Change ≤ stT n w[i + 1]) : ∃ v, impl_SlackOf n w = some v ∧ 0 ≤ v := by
  have hc := change_in hn
  unfold impl_SlackOf
  rw [impl_IsNetwork_eq n h, hn]
  have h1 := loop_go (body := impl_SlackOf_L1 n w) w.length (fun i => (i : Int)) () (show w.length < 1000000000000 by omega) (fun i hi => by
    have ht := hall _ (List.getElem_mem hi)
    show impl_SlackOf_L1_b n w (i : Int) = _
    unfold impl_SlackOf_L1_b
    simp only [Int.ofNat_lt, hi, decide_true, cond_true, gi_nat hi, Option.bind_some, impl_IsTrip_eq n h, ht, Bool.not_true, cond_false, w64_succ (Nat.le_of_lt (Nat.lt_of_lt_of_le hi hw))]) (by
    show impl_SlackOf_L1_b n w (w.length : Int) = _
    simp [impl_SlackOf_L1_b])
  have h1' : loopM (impl_SlackOf_L1 n w) big 0 = some (.inl ()) := h1
  obtain ⟨y, h2, v, rfl, hv⟩ := loopM_tot (body := impl_SlackOf_L2 n w) (fun s => 0 ≤ s.1 ∧ s.1 ≤ 100000 ∧ 1 ≤ s.2) (fun s => ((w.length : Int) - s.2).toNat) (fun y => ∃ v, y = .inl v ∧ 0 ≤ v) (fun s hs => by
    obtain ⟨s1, s2⟩ := s
    obtain ⟨g0, g2, g1⟩ := hs
    simp only at g0 g1 g2
    show (∃ s', impl_SlackOf_L2_b n w s1 s2 = some (.next s') ∧ _) ∨ (∃ t', impl_SlackOf_L2_b n w s1 s2 = some (.brk t') ∧ _) ∨ _
    unfold impl_SlackOf_L2_b
    by_cases c : s2 < (w.length : Int)
    · obtain ⟨i, hi⟩ := Int.eq_ofNat_of_zero_le (show 0 ≤ s2 - 1 by omega)
      have hs2 : s2 = ((i + 1 : Nat) : Int) := by omega
      subst hs2
      have hi1 : i + 1 < w.length := by omega
      have t1 := hall _ (List.getElem_mem hi1)
      have t0 := hall _ (List.getElem_mem (show i < w.length by omega))
      have b1 := stT_in t1
      have b0 := stT_in t0
      have hh := hch i hi1
      have hw1 : w64 (((i + 1 : Nat) : Int) - 1) = (i : Int) := by rw [w64_id (by omega) (by omega)]; omega
      have hw2 : w64 (((i + 1 : Nat) : Int) + 1) = ((i + 2 : Nat) : Int) := by rw [w64_id (by omega) (by omega)]; omega
      have e1 : w64 (stT n w[i + 1] - enT n w[i]) = stT n w[i + 1] - enT n w[i] := w64_id (by omega) (by omega)
      have e2 : w64 (stT n w[i + 1] - enT n w[i] - n.Change) = stT n w[i + 1] - enT n w[i] - n.Change := w64_id (by omega) (by omega)
      refine .inl ⟨_, by simp only [c, decide_true, cond_true, gi_nat hi1, Option.bind_some, starts_eq' t1, hw1, gi_nat (show i < w.length by omega), ends_eq' t0, e1, e2, hw2]; rfl, ⟨?_, ?_, ?_⟩, ?_⟩
      · show 0 ≤ if stT n w[i + 1] - enT n w[i] - n.Change < s1 then stT n w[i + 1] - enT n w[i] - n.Change else s1
        split <;> omega
      · show (if stT n w[i + 1] - enT n w[i] - n.Change < s1 then stT n w[i + 1] - enT n w[i] - n.Change else s1) ≤ 100000
        split <;> omega
      · show 1 ≤ ((i + 2 : Nat) : Int); omega
      · show ((w.length : Int) - ((i + 2 : Nat) : Int)).toNat < ((w.length : Int) - ((i + 1 : Nat) : Int)).toNat; omega
    · exact .inr (.inl ⟨s1, by simp [c], s1, rfl, g0⟩)) big ((100000 : Int), (1 : Int)) ⟨by simp, by simp, by simp⟩ (by show ((w.length : Int) - 1).toNat < big; unfold big; omega)
  refine ⟨v, ?_, hv⟩
  simp only [Option.bind_some, Bool.not_true, cond_false, h1', impl_SlackOf_L1_k, impl_SlackOf_L1_a, h2, impl_SlackOf_L2_k, impl_SlackOf_L2_a]
end
/-- what is found goes there, and arrives when it is said -/
theorem fw_goes {n : Network} {a b : ByteArray} {t : Int} (h : 0 ≤ earV n a b t) (t0 : Int) (ht0 : t0 ≤ v0N t) : Fine n a t ∧ ¬ idxV (plcs n) b < 0 ∧ (fwV n a b t).2 = true ∧ (∃ r, Goes n (fwV n a b t).1 (a, t0) (b, r)) ∧
    endW n (v0N t) (fwV n a b t).1 = earV n a b t ∧ (∀ t1, 0 < (fwV n a b t).1.length → endW n t1 (fwV n a b t).1 = earV n a b t) ∧
    ((fwV n a b t).1.length : Nat) = lgsN n (idxV (plcs n) a).toNat t (idxV (plcs n) b).toNat := by
  obtain ⟨st, x, hf, e1, e2, hst, hx, hD, T, hV⟩ := fw_tight h
  have hlen := bck_len hf.1 hst hf.2.2 _ _ _ T
  obtain ⟨p, hp, hw⟩ := bck_walk hf.1 hst hf.2.2 e1 ht0 _ _ _ hx T
  have hpb : p = b := by
    have := idx_get e2
    rw [hp] at this
    exact Option.some.inj this
  subst hpb
  refine ⟨hf, by omega, by rw [hV], ⟨_, by rw [hV]; exact hw⟩, ?_⟩
  obtain ⟨_, _, _, h4, _⟩ := goes_chain _ _ _ _ hw
  have key : ∀ t1, 0 < (bckW n st t (lgsN n st t x) x (DN n st t x)).length → endW n t1 (bckW n st t (lgsN n st t x) x (DN n st t x)) = DN n st t x := fun t1 hL => by
    unfold endW
    cases hq : (bckW n st t (lgsN n st t x) x (DN n st t x)).getLast? with
    | none =>
      rw [List.getLast?_eq_none_iff] at hq
      rw [hq] at hL; simp at hL
    | some q =>
      have := h4 q hq
      rw [hlen] at hL
      simp only at this
      rw [if_neg (by omega)] at this
      simp only
      omega
  refine ⟨?_, ?_, by rw [hV, e1, e2]; exact hlen⟩
  · rw [hV, hD]
    show endW n (v0N t) (bckW n st t (lgsN n st t x) x (DN n st t x)) = _
    by_cases hL : 0 < (bckW n st t (lgsN n st t x) x (DN n st t x)).length
    · exact key _ hL
    · have hz : (bckW n st t (lgsN n st t x) x (DN n st t x)) = [] := by
        rw [← List.length_eq_zero_iff]; omega
      have hz0 : lgsN n st t x = 0 := by rw [hz] at hlen; simpa using hlen.symm
      rw [hz]
      rw [hz0] at T
      show v0N t = _
      exact (tight_zero hf.1 hst hf.2.2 T).2.symm
  · rw [hV, hD]
    exact key
/-- the last choice is the best, with the fewest legs -/
theorem cho_last {n : Network} {a : ByteArray} {t : Int} (hf : Fine n a t) (x : Nat) : ∀ k, choL n a t x k = [] ∨ ∃ m : Nat, ∃ e : Int, (choL n a t x k)[(choL n a t x k).length - 1]? = some ⟨(m : Int), e⟩ ∧ m < k ∧ e = g (XN n (idxV (plcs n) a).toNat t m) x ∧
    (∀ j, j < k → g (XN n (idxV (plcs n) a).toNat t j) x = -1 ∨ e ≤ g (XN n (idxV (plcs n) a).toNat t j) x) ∧ (∀ j, j < m → g (XN n (idxV (plcs n) a).toNat t j) x = -1 ∨ e < g (XN n (idxV (plcs n) a).toNat t j) x)
  | 0 => .inl rfl
  | k + 1 => by
    have ih := cho_last hf x k
    have I := choL_inv n a t x k
    have hne : ¬ bestV n a t (k : Int) = [] := by rw [best_vals hf]; exact XN_ne hf.1 hf.lt hf.2.2 k
    rw [show choL n a t x (k + 1) = if bestV n a t (k : Int) = [] ∨ g (bestV n a t (k : Int)) x = -1 then choL n a t x k else if choL n a t x k = [] ∨ g (bestV n a t (k : Int)) x < ((choL n a t x k)[(choL n a t x k).length - 1]?.getD default).Ends then choL n a t x k ++ [⟨(k : Int), g (bestV n a t (k : Int)) x⟩] else choL n a t x k from rfl]
    by_cases h1 : g (bestV n a t (k : Int)) x = -1
    · rw [if_pos (.inr h1)]
      rw [best_vals hf] at h1
      rcases ih with ih | ⟨m, e, q1, q2, q3, q4, q5⟩
      · exact .inl ih
      · exact .inr ⟨m, e, q1, by omega, q3, fun j hj => by
          by_cases hjk : j = k
          · rw [hjk]; exact .inl h1
          · exact q4 j (by omega), q5⟩
    · rw [if_neg (fun hh => hh.elim hne h1)]
      by_cases h2 : choL n a t x k = [] ∨ g (bestV n a t (k : Int)) x < ((choL n a t x k)[(choL n a t x k).length - 1]?.getD default).Ends
      · rw [if_pos h2]
        refine .inr ⟨k, g (bestV n a t (k : Int)) x, by simp, by omega, by rw [best_vals hf], ?_⟩
        rw [best_vals hf] at h2 ⊢
        have hlow : ∀ j, j < k → g (XN n (idxV (plcs n) a).toNat t j) x = -1 ∨ g (XN n (idxV (plcs n) a).toNat t k) x < g (XN n (idxV (plcs n) a).toNat t j) x := fun j hj => by
          rcases ih with ih | ⟨m, e, q1, q2, q3, q4, q5⟩
          · have := I.none ih j hj
            rw [best_vals hf] at this
            exact .inl (this.resolve_left (XN_ne hf.1 hf.lt hf.2.2 j))
          · rw [q1] at h2
            have h2 := h2.resolve_left (fun hh => by rw [hh] at q1; simp at q1)
            simp only [Option.getD_some] at h2
            rcases q4 j hj with h3 | h3
            · exact .inl h3
            · exact .inr (by omega)
        refine ⟨fun j hj => ?_, hlow⟩
        by_cases hjk : j = k
        · rw [hjk]; exact .inr (Int.le_refl _)
        · rcases hlow j (by omega) with h3 | h3
          · exact .inl h3
          · exact .inr (by omega)
      · rw [if_neg h2]
        rcases ih with ih | ⟨m, e, q1, q2, q3, q4, q5⟩
        · exact absurd (Or.inl ih) h2
        · refine .inr ⟨m, e, q1, by omega, q3, fun j hj => ?_, q5⟩
          by_cases hjk : j = k
          · rw [hjk]
            rw [q1, best_vals hf] at h2
            exact .inr (Int.not_lt.1 fun hh => h2 (.inr hh))
          · exact q4 j (by omega)
theorem cho_best {n : Network} {a b : ByteArray} {t : Int} (h : 0 ≤ earV n a b t) : ∃ l : List Choice, choL n a t (idxV (plcs n) b).toNat ((plcs n).length + 1) = l ∧ 0 < l.length ∧ l[l.length - 1]? = some ⟨(lgsN n (idxV (plcs n) a).toNat t (idxV (plcs n) b).toNat : Int), earV n a b t⟩ := by
  obtain ⟨st, x, hf, e1, e2, hst, hx, hD, T, hV⟩ := fw_tight h
  refine ⟨_, rfl, ?_⟩
  have hl := cho_last hf x ((plcs n).length + 1)
  rw [e1, Int.toNat_natCast] at hl
  rw [e1, e2, Int.toNat_natCast, Int.toNat_natCast, hD]
  have hDp := T.pos
  obtain ⟨l1, l2, l3⟩ := lgs_spec n st t x
  rcases hl with hl | ⟨m, e, q1, q2, q3, q4, q5⟩
  · have := (choL_inv n a t x ((plcs n).length + 1)).none hl (plcs n).length (by omega)
    rw [best_vals hf, e1, Int.toNat_natCast] at this
    have h2 : g (XN n st t (plcs n).length) x = -1 := this.resolve_left (XN_ne hf.1 hst hf.2.2 _)
    have h3 : 0 ≤ g (XN n st t (plcs n).length) x := hDp
    omega
  · have h1 : e ≤ DN n st t x := by
      rcases q4 (plcs n).length (by omega) with h3 | h3
      · have h4 : 0 ≤ g (XN n st t (plcs n).length) x := hDp
        omega
      · exact h3
    have hneg := XN_neg hf.1 hst hf.2.2 m x
    have hme : g (XN n st t m) x ≠ -1 := fun hh => by
      obtain ⟨mm, _, r2, _, _, r5⟩ := (choL_inv n a t x ((plcs n).length + 1)).each ((choL n a t x ((plcs n).length + 1)).length - 1) (by rw [List.getElem?_eq_some_iff] at q1; exact q1.1)
      obtain ⟨hlt, hq⟩ := List.getElem?_eq_some_iff.1 q1
      rw [hq] at r2
      have : mm = m := by have : (m : Int) = (mm : Int) := r2; omega
      subst this
      rw [best_vals hf, e1, Int.toNat_natCast] at r5
      exact r5 hh
    have hmm := XN_more hf.1 hst hf.2.2 m ((plcs n).length - m) x (by omega)
    rw [show m + ((plcs n).length - m) = (plcs n).length by omega] at hmm
    have he : e = DN n st t x := by
      have h5 : DN n st t x ≤ g (XN n st t m) x := hmm.2
      omega
    have hml : m = lgsN n st t x := by
      rcases Nat.lt_trichotomy m (lgsN n st t x) with hh | hh | hh
      · exact absurd (q3.symm.trans he) (l3 m hh)
      · exact hh
      · rcases q5 _ hh with h6 | h6
        · rw [l2] at h6; omega
        · rw [l2] at h6; omega
    refine ⟨by rw [List.getElem?_eq_some_iff] at q1; exact Nat.lt_of_le_of_lt (Nat.zero_le _) q1.1, ?_⟩
    rw [q1, hml, he]
theorem drawF_ok (a : List Int) (ha : a.length ≤ 4096) : ∃ v, spec_DrawFindWay a = some v ∧ DrE v := by
  obtain ⟨v, e, h⟩ := drawE_ok a ha
  exact ⟨v, by simp only [spec_DrawFindWay, e, Option.bind_some], h⟩
theorem FnWay_true (a : List Int) : laws_FnWay a = some true := by
  unfold laws_FnWay laws_big
  simp only [Option.bind_some]
  by_cases hb : (a.length : Int) > 4096
  · simp [hb]
  simp only [hb, decide_false, cond_false]
  obtain ⟨⟨n, p, q, t⟩, e, hd, hp, hq, ht⟩ := drawF_ok a (by omega)
  simp only at hd hp hq ht
  have hS := hd.S (by omega)
  rw [e]
  simp only [Option.bind_some, findWay_impl n hS, (ear_spec n hS p q t).2]
  by_cases hE : earV n p q t < 0
  · have hV : fwV n p q t = ([], false) := by unfold fwV; rw [if_pos hE]
    have : earV n p q t = -1 := by have := ear_neg n hS p q t; omega
    rw [hV, this]
    rfl
  have hE0 : 0 ≤ earV n p q t := by omega
  have hvt : t ≤ v0N t := by unfold v0N; split <;> omega
  obtain ⟨hf, hqi, h2, ⟨r1, g1⟩, hend1, hend2, hlen⟩ := fw_goes hE0 (v0N t) (Int.le_refl _)
  obtain ⟨_, _, _, ⟨r2, g2⟩, _⟩ := fw_goes hE0 t hvt
  have h40 := fw_len n p q t
  obtain ⟨c1, c2, _⟩ := goes_chain _ _ _ _ g1
  obtain ⟨l, hl1, hl2, hl3⟩ := cho_best hE0
  have hstart := ear_start hE0
  obtain ⟨sv, hs1, hs2⟩ := slack_pos n hS hf.1 (fwV n p q t).1 (by omega) c1 c2
  have hwe : impl_WayEnds n (fwV n p q t).1 (v0N t) = some (earV n p q t) := by
    rw [wayEnds_eq n hS hf.1 _ (by omega) _ c1, hend1]
  have hne : ∀ z : Int, (z != z) = false := fun z => by simp
  have hM : impl_Max t 0 = some (v0N t) := rfl
  have hlen2 : l.length ≤ 41 := by
    have I := (choL_inv n p t (idxV (plcs n) q).toNat ((plcs n).length + 1)).len
    have := plcs_le hf.1
    rw [hl1] at I
    omega
  have hg : gi l (w64 ((l.length : Int) - 1)) = some ⟨(lgsN n (idxV (plcs n) p).toNat t (idxV (plcs n) q).toNat : Int), earV n p q t⟩ := by
    rw [w64_id (by omega) (by omega), show ((l.length : Int) - 1) = ((l.length - 1 : Nat) : Int) by omega, gi_nat (by omega : l.length - 1 < l.length)]
    rw [List.getElem?_eq_getElem (by omega)] at hl3
    exact hl3
  have hlpos : decide ((l.length : Int) > 0) = true := by simp; omega
  simp only [h2, Bool.not_true, cond_false, hM, Option.bind_some, isWay_true n hS hf.1 _ (show (fwV n p q t).1.length ≤ 1048576 by omega) p q _ _ hf.2.1 hqi g1, isWay_true n hS hf.1 _ (show (fwV n p q t).1.length ≤ 1048576 by omega) p q _ _ hf.2.1 hqi g2, hwe, hne, hs1, show ¬ sv < 0 by omega, decide_false, show ¬ earV n p q t < v0N t by omega, cho_impl n hS, if_neg hqi, hl1, hlpos, cond_true, hg, beq_self_eq_true]
  rw [hlen]
  simp
end Go.Sx
