/- Ways: the exact law of IsWay answers true. -/
import Derived.Test.YtgfliphofffcaaaGyP
namespace Go.Sx
set_option linter.unusedVariables false

def idxV (l : List ByteArray) (p : ByteArray) : Int := match l.findIdx? (fun x => decide (x = p)) with | some i => (i : Int) | none => -1
theorem idx_loop {body : Int → Option (Ctl Int Unit Int)} (l : List ByteArray) (p : ByteArray) (hl : l.length ≤ 4000000)
    (h : ∀ i (hi : i < l.length), body (i : Int) = if l[i] = p then some (.ret (i : Int)) else some (.next ((i + 1 : Nat) : Int))) (he : body (l.length : Int) = some (.brk ())) :
    (loopM body big 0).bind (fun x => match x with | .inl _ => some (-1) | .inr y => some y) = some (idxV l p) := by
  obtain ⟨x, h1, h2⟩ := loopM_up (body := body) l.length (fun i s => s = (i : Int) ∧ ∀ j (hj : j < l.length), j < i → l[j] ≠ p) (fun x => (match x with | .inl _ => some (-1) | .inr y => some y) = some (idxV l p)) (fun i s hi hs => by
    obtain ⟨rfl, hs⟩ := hs
    rw [h i hi]
    by_cases hp : l[i] = p
    · refine .inr (.inr ⟨_, by rw [if_pos hp], ?_⟩)
      have : l.findIdx? (fun x => decide (x = p)) = some i := List.findIdx?_eq_some_iff_getElem.2 ⟨hi, by simp [hp], fun j hj => by simpa using hs j (by omega) hj⟩
      simp [idxV, this]
    · refine .inl ⟨_, by rw [if_neg hp], rfl, fun j hj hji => ?_⟩
      by_cases hje : j = i
      · subst hje; exact hp
      · exact hs j hj (by omega)) (fun s hs => by
    obtain ⟨rfl, hs⟩ := hs
    refine .inl ⟨(), he, ?_⟩
    have : l.findIdx? (fun x => decide (x = p)) = none := List.findIdx?_eq_none_iff.2 fun x hx => by
      obtain ⟨j, hj, rfl⟩ := List.getElem_of_mem hx
      simpa using hs j hj hj
    simp [idxV, this]) 0 ⟨rfl, fun j hj h => by omega⟩ (show l.length < 1000000000000 by omega)
  rw [h1]
  exact h2
theorem placeAt_eq (l : List ByteArray) (p : ByteArray) (hl : l.length ≤ 4000000) : impl_placeAt l p = some (idxV l p) := by
  rw [← idx_loop (body := impl_placeAt_L1 l p) l p hl (fun i hi => by
    show impl_placeAt_L1_b l p _ = _
    unfold impl_placeAt_L1_b
    simp only [Int.ofNat_lt, hi, decide_true, cond_true, gi_nat hi, Option.bind_some, bytes_eq_decide]
    rw [w64_id (by omega) (by omega)]
    by_cases h : l[i] = p <;> simp [h]) (by
    show impl_placeAt_L1_b l p _ = _
    simp [impl_placeAt_L1_b])]
  unfold impl_placeAt
  congr 1
theorem index_eq (l : List ByteArray) (p : ByteArray) (hl : l.length ≤ 4000000) : spec_l4Index l p = some (idxV l p) := by
  rw [← idx_loop (body := spec_l4Index_L1 l p) l p hl (fun i hi => by
    show spec_l4Index_L1_b l p _ = _
    unfold spec_l4Index_L1_b
    simp only [Int.ofNat_lt, hi, decide_true, cond_true, gi_nat hi, Option.bind_some, bytes_eq_decide]
    rw [w64_id (by omega) (by omega)]
    by_cases h : l[i] = p <;> simp [h]) (by
    show spec_l4Index_L1_b l p _ = _
    simp [spec_l4Index_L1_b])]
  unfold spec_l4Index
  congr 1
/-- one trip of a way -/
def wayF (n : Network) (t : Trip) (x : ByteArray × Int) : (ByteArray × Int) ⊕ Bool :=
  bif tripB n t then (bif !((legA n t.Leg).From.toList == x.1.toList) then .inr false else bif decide (stT n t < x.2) then .inr false else .inl ((legA n t.Leg).To, w64 (enT n t + n.Change))) else .inr false
theorem IsWay_eq (n : Network) (h : NetS n) (w : List Trip) (hw : w.length ≤ 1048576) (a b : ByteArray) (at0 : Int) : ∃ v, spec_IsWay n w a b at0 = some v ∧ impl_IsWay n w a b at0 = some v := by
  have hp := plcs_len n h
  unfold spec_IsWay impl_IsWay
  rw [spec_PlacesOf_eq n h, impl_PlacesOf_eq n h, spec_IsNetwork_eq n h, impl_IsNetwork_eq n h]
  simp only [Option.bind_some, placeAt_eq _ _ (show (plcs n).length ≤ 4000000 by omega), index_eq _ _ (show (plcs n).length ≤ 4000000 by omega)]
  cases hn : netB n with
  | false => exact ⟨false, by simp, by simp⟩
  | true =>
    by_cases h1 : idxV (plcs n) a < 0
    · exact ⟨false, by simp [h1], by simp [h1]⟩
    by_cases h2 : idxV (plcs n) b < 0
    · exact ⟨false, by simp [h1, h2], by simp [h1, h2]⟩
    have e1 := loopM_each' (body := spec_IsWay_L1 n w) (X := ByteArray × Int) (R := Bool) w (fun x i => (x.1, x.2, i)) (fun _ t x => wayF n t x) (fun x => x.1) (a, at0) (fun i hi x => by
      show spec_IsWay_L1_b n w _ _ _ = _
      unfold spec_IsWay_L1_b wayF
      simp only [gi_nat hi, Option.bind_some, Int.ofNat_lt, hi, decide_true, cond_true, w64_succ (Nat.le_of_lt (Nat.lt_of_lt_of_le hi hw)), spec_IsTrip_eq n h]
      cases ht : tripB n w[i] with
      | false => simp [ctl]
      | true =>
        obtain ⟨_, t1, t2, _⟩ := trip_in ht
        simp only [gi_leg t1 t2, Option.bind_some, starts_eq ht, ends_eq ht, Bool.not_true, cond_false, cond_true]
        cases (legA n w[i].Leg).From.toList == x.1.toList <;> simp [ctl]
        by_cases hs : stT n w[i] < x.2 <;> simp [hs]) (fun x => by
      show spec_IsWay_L1_b n w _ _ _ = _
      simp [spec_IsWay_L1_b]) hw
    have e2 := loopM_each' (body := impl_IsWay_L1 n w) (X := ByteArray × Int) (R := Bool) w (fun x i => (x.2, x.1, i)) (fun _ t x => wayF n t x) (fun x => x.1) (a, at0) (fun i hi x => by
      show impl_IsWay_L1_b n w _ _ _ = _
      unfold impl_IsWay_L1_b wayF
      simp only [gi_nat hi, Option.bind_some, Int.ofNat_lt, hi, decide_true, cond_true, w64_succ (Nat.le_of_lt (Nat.lt_of_lt_of_le hi hw)), impl_IsTrip_eq n h]
      cases ht : tripB n w[i] with
      | false => simp [ctl]
      | true =>
        obtain ⟨_, t1, t2, _⟩ := trip_in ht
        simp only [gi_leg t1 t2, Option.bind_some, starts_eq' ht, ends_eq' ht, Bool.not_true, cond_false, cond_true]
        cases (legA n w[i].Leg).From.toList == x.1.toList <;> simp [ctl]
        by_cases hs : stT n w[i] < x.2 <;> simp [hs]) (fun x => by
      show impl_IsWay_L1_b n w _ _ _ = _
      simp [impl_IsWay_L1_b]) hw
    simp only [h1, h2, decide_false, cond_false, Bool.not_true]
    rw [e1, e2]
    generalize each (X := ByteArray × Int) (R := Bool) (fun _ t x => wayF n t x) 0 w (a, at0) = y
    cases y with
    | inl x => exact ⟨_, by simp only [fin, Option.bind_some, spec_IsWay_L1_k, spec_IsWay_L1_a]; rfl, by simp only [fin, Option.bind_some, impl_IsWay_L1_k, impl_IsWay_L1_a]⟩
    | inr x => exact ⟨x, by simp [fin, spec_IsWay_L1_k], by simp [fin, impl_IsWay_L1_k]⟩
theorem FnExactIsWay_true (n : Network) (w : List Trip) (a b : ByteArray) (at0 : Int) (hN : NetIn n) (h0 : w.length ≤ maxLen) : laws_FnExactIsWay n w a b at0 = some true := by
  unfold laws_FnExactIsWay
  by_cases ha : (a.size : Int) > 1048576
  · simp [ha]
  by_cases hb : (b.size : Int) > 1048576
  · simp [hb]
  obtain ⟨v, hv, hc⟩ := szNetwork_le n hN
  rw [hv]
  simp only [ha, hb, decide_false, cond_false]
  by_cases hn : v < 0
  · simp [hn]
  obtain ⟨hS, hv1⟩ := hc.resolve_left hn
  obtain ⟨u, hu, hd⟩ := szTripS_le w v (by omega) hv1 h0
  by_cases hm : u < 0
  · simp [hn, hu, hm]
  have hw := (hd.resolve_left hm).1
  obtain ⟨r, r1, r2⟩ := IsWay_eq n hS w hw a b at0
  simp [hn, hu, hm, toNetwork_eq n hS, toTripS_eq w hw, r1, r2, eqNetwork_refl n hS, eqTripS_refl w hw]
end Go.Sx
