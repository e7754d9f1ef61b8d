/- Ways: the exact law of IsWay answers true. -/
import Derived.Test.YtnefegnodjaldaaGlP
namespace Go.Sx
set_option linter.unusedVariables false

def idxV (l : List ByteArray) (p : ByteArray) : Int := match l.findIdx? (fun x => decide (x = p)) with | some i => (i : Int) | none => -1
theorem idx_loop {body : Int → Option (Ctl Int Unit Int)} (l : List ByteArray) (p : ByteArray) (hl : l.length ≤ 4000000)
    (h : ∀ i (hi : i < l.length), body (i : Int) = if l[i] = p then some (.ret (i : Int)) else some (.next ((i + 1 : Nat) : Int))) (he : body (l.length : Int) = some (.brk ())) :
    (loopM body big 0).bind (fun x => match x with | .inl _ => some (-1) | .inr y => some y) = some (idxV l p) := by
  obtain ⟨x, h1, h2⟩ := loopM_up (body := body) l.length (fun i s => s = (i : Int) ∧ ∀ j (hj : j < l.length), j < i → l[j] ≠ p) (fun x => (match x with | .inl _ => some (-1) | .inr y => some y) = some (idxV l p)) (fun i s hi hs => by
    obtain ⟨rfl, hs⟩ := hs
    rw [h i hi]
    by_cases hp : l[i] = p
    · refine .inr (.inr ⟨_, by rw [if_pos hp], ?_⟩)
      have : l.findIdx? (fun x => decide (x = p)) = some i := List.findIdx?_eq_some_iff_getElem.2 ⟨hi, by simp [hp], fun j hj => by simpa using hs j (by omega) hj⟩
      simp [idxV, this]
    · refine .inl ⟨_, by rw [if_neg hp], rfl, fun j hj hji => ?_⟩
      by_cases hje : j = i
      · subst hje; exact hp
      · exact hs j hj (by omega)) (fun s hs => by
    obtain ⟨rfl, hs⟩ := hs
    refine .inl ⟨(), he, ?_⟩
    have : l.findIdx? (fun x => decide (x = p)) = none := List.findIdx?_eq_none_iff.2 fun x hx => by
      obtain ⟨j, hj, rfl⟩ := List.getElem_of_mem hx
      simpa using hs j hj hj
    simp [idxV, this]) 0 ⟨rfl, fun j hj h => by omega⟩ (show l.length < 1000000000000 by omega)
  rw [h1]
  exact h2
theorem placeAt_eq (l : List ByteArray) (p : ByteArray) (hl : l.length ≤ 4000000) : impl_placeAt l p = some (idxV l p) := by
  rw [← idx_loop (body := impl_placeAt_L1 l p) l p hl (fun i hi => by
    show impl_placeAt_L1_b l p _ = _
    unfold impl_placeAt_L1_b
    simp only [Int.ofNat_lt, hi, decide_true, cond_true, gi_nat hi, Option.bind_some, bytes_eq_decide]
    rw [w64_id (by omega) (by omega)]
    by_cases h : l[i] = p <;> simp [h]) (by
    show impl_placeAt_L1_b l p _ = _
    simp [impl_placeAt_L1_b])]
  unfold impl_placeAt
  congr 1
theorem index_eq (l : List ByteArray) (p : ByteArray) (hl : l.length ≤ 4000000) : spec_l4Index l p = some (idxV l p) := by
  rw [← idx_loop (body := spec_l4Index_L1 l p) l p hl (fun i hi => by
    show spec_l4Index_L1_b l p _ = _
    unfold spec_l4Index_L1_b
    simp only [Int.ofNat_lt, hi, decide_true, cond_true, gi_nat hi, Option.bind_some, bytes_eq_decide]
    rw [w64_id (by omega) (by omega)]
    by_cases h : l[i] = p <;> simp [h]) (by
    show spec_l4Index_L1_b l p _ = _
    simp [spec_l4Index_L1_b])]
  unfold spec_l4Index
  congr 1
/-- one trip of a way -/
def wayF (n : Network) (t : Trip) (x : ByteArray × Int) : (ByteArray × Int) ⊕ Bool :=
  bif tripB n t then (bif !((legA n t.Leg).From.toList == x.1.toList) then .inr false else bif decide (stT n t < x.2) then .inr false else .inl ((legA n t.Leg).To, w64 (enT n t + n.Change))) else .inr false
end Go.Sx
