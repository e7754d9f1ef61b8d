/- Packing all: the exact law answers true. -/
import Derived.Test.YtbeialanbblkoaaBpS
namespace Go.Sx
set_option linter.unusedVariables false
theorem toIntS_eq (a : List Int) (hl : a.length ≤ 1048576) : laws_toIntS a = some a := by
  unfold laws_toIntS
  rw [mkM_eq hl (by omega)]
  show Option.bind (loopM (laws_toIntS_L1 a) big (List.replicate a.length default, 0)) laws_toIntS_L1_k = some a
  rw [show loopM (laws_toIntS_L1 a) big (List.replicate a.length default, 0) = some (.inl a) from copy_loop (ρ := List Int) a some (fun _ => rfl) hl]
  rfl
theorem mark_from {α ρ : Type} {body : List α × Int × Int → Option (Ctl (List α × Int × Int) (List α × Int) ρ)} (a0 : List α) (k0 c : Int) (mk : Nat → α) (hl : a0.length ≤ 1048576)
    (h : ∀ i (l : List α), i < a0.length → l.length = a0.length → body (l, k0 + c * i, (i : Int)) = some (.next (l.set i (mk i), k0 + c * (i + 1 : Nat), ((i + 1 : Nat) : Int))))
    (he : ∀ l : List α, l.length = a0.length → body (l, k0 + c * a0.length, (a0.length : Int)) = some (.brk (l, k0 + c * a0.length))) :
    ∃ l', loopM body big (a0, k0, 0) = some (.inl (l', k0 + c * a0.length)) ∧ l'.length = a0.length ∧ ∀ j, j < a0.length → l'[j]? = some (mk j) := by
  refine (loopM_up (body := body) a0.length (fun i s => s.2.1 = k0 + c * i ∧ s.2.2 = (i : Int) ∧ s.1.length = a0.length ∧ ∀ j, j < i → s.1[j]? = some (mk j)) (fun x => ∃ l', x = .inl (l', k0 + c * a0.length) ∧ l'.length = a0.length ∧ ∀ j, j < a0.length → l'[j]? = some (mk j)) (fun i s hi hs => ?_) (fun s hs => ?_) (a0, k0, 0) (by simp) (big_pos hl)).elim fun x hx => ?_
  · obtain ⟨l, k, j⟩ := s
    obtain ⟨h1, h2, h3, h4⟩ := hs
    simp only at h1 h2 h3 h4
    subst h1 h2
    refine .inl ⟨_, h i l hi h3, rfl, rfl, by simpa using h3, fun j hj => ?_⟩
    by_cases hji : j = i
    · subst hji; simp [h3, hi]
    · rw [List.getElem?_set_ne (by omega)]; exact h4 j (by omega)
  · obtain ⟨l, k, j⟩ := s
    obtain ⟨h1, h2, h3, h4⟩ := hs
    simp only at h1 h2 h3 h4
    subst h1 h2
    exact .inl ⟨_, he l h3, l, rfl, h3, h4⟩
  · obtain ⟨h1, l', rfl, h2, h3⟩ := hx
    exact ⟨l', h1, h2, h3⟩
theorem markIntS_from (a : List Int) (k0 : Int) (h0 : 0 ≤ k0) (h1 : k0 ≤ 100000000) (hl : a.length ≤ 1048576) : ∃ l', laws_markIntS a k0 = some (k0 + (a.length : Int), l') ∧ laws_heldIntS l' k0 = some (k0 + (a.length : Int)) := by
  obtain ⟨l', h1, h2, h3⟩ := mark_from (body := laws_markIntS_L1) a k0 1 (fun i => k0 + (i : Int)) hl (fun i l hi h => by
      have hil : i < l.length := by omega
      have e1 : w64 (k0 + 1 * (i : Int) + 1) = k0 + 1 * ((i + 1 : Nat) : Int) := by rw [w64_id (by omega) (by omega)]; omega
      simp only [laws_markIntS_L1, laws_markIntS_L1_b, gi_nat hil, Int.ofNat_lt, hil, decide_true, cond_true, Option.bind_some, e1, w64_succ (Nat.le_of_lt (Nat.lt_of_lt_of_le hi hl))]
      simp)
    (fun l h => by simp [laws_markIntS_L1, laws_markIntS_L1_b, h])
  refine ⟨l', by rw [laws_markIntS, h1]; simp [laws_markIntS_L1_k, laws_markIntS_L1_a], ?_⟩
  have hk := loop_val (body := laws_heldIntS_L1 l') l'.length (fun i => (k0 + (i : Int), (i : Int))) (k0 + (l'.length : Int)) (by omega) (fun i hi => by
      have e : l'[i] = k0 + (i : Int) := by have := h3 i (by omega); rw [List.getElem?_eq_getElem hi] at this; exact Option.some.inj this
      have e1 : w64 (k0 + (i : Int) + 1) = k0 + ((i + 1 : Nat) : Int) := by rw [w64_id (by omega) (by omega)]; omega
      simp only [laws_heldIntS_L1, laws_heldIntS_L1_b, gi_nat hi, Int.ofNat_lt, hi, decide_true, cond_true, Option.bind_some, e1, e, w64_succ (by omega : i ≤ 1048576)]
      simp)
    (by simp [laws_heldIntS_L1, laws_heldIntS_L1_b])
  have hk' : loopM (laws_heldIntS_L1 l') big (k0, 0) = some (.inl (k0 + (l'.length : Int))) := by simpa using hk
  rw [laws_heldIntS, hk']
  simp [laws_heldIntS_L1_k, laws_heldIntS_L1_a, h2]
theorem FnExactPackAll_true (l : List Thing) (ids bs : List Int) (h0 : l.length ≤ maxLen) : laws_FnExactPackAll l ids bs = some true := by
  unfold laws_FnExactPackAll
  by_cases hi : ids.length ≤ 1048576
  case neg => rw [show decide ((ids.length : Int) > 1048576) = true by simp; omega]; rfl
  by_cases hb : bs.length ≤ 1048576
  case neg =>
    rw [show decide ((ids.length : Int) > 1048576) = false by simp; omega, show decide ((bs.length : Int) > 1048576) = true by simp; omega]; rfl
  rw [show decide ((ids.length : Int) > 1048576) = false by simp; omega, show decide ((bs.length : Int) > 1048576) = false by simp; omega]
  simp only [cond_false]
  obtain ⟨v, hv, hc⟩ := szThingS_le l h0
  rw [hv]
  by_cases hn : v < 0
  · simp [hn]
  have hl : l.length ≤ 1048576 := by omega
  obtain ⟨⟨r1, r2⟩, p1, p2, p3, p4, _⟩ := PackAll_eq l hl ids bs hi hb
  simp only at p3 p4
  obtain ⟨l1, m1, _⟩ := markThingS_eq l hl
  obtain ⟨l2, m2, _⟩ := markIntS_from ids (1 + 6 * (l.length : Int)) (by omega) (by omega) hi
  obtain ⟨l3, m3, _⟩ := markIntS_from bs (1 + 6 * (l.length : Int) + (ids.length : Int)) (by omega) (by omega) hb
  obtain ⟨l4, m4, m5⟩ := markThingS_eq r1 (by omega)
  obtain ⟨l5, m6, m7⟩ := markIntS_from r2 (1 + 6 * (r1.length : Int)) (by omega) (by omega) p4
  have hr1 : r1.length ≤ 1048576 := by omega
  simp [hn, toThingS_eq l hl, toIntS_eq ids hi, toIntS_eq bs hb, p1, p2, eqThingS_refl l hl, eqIntS_refl ids hi, eqIntS_refl bs hb, eqThingS_refl r1 hr1, eqIntS_refl r2 p4, m1, m2, m3, m4, m5, m6, m7, show ¬ 1 + 6 * (l.length : Int) + (ids.length : Int) + (bs.length : Int) < 0 by omega, show ¬ 1 + 6 * (r1.length : Int) < 0 by omega, show ¬ 1 + 6 * (r1.length : Int) + (r2.length : Int) < 0 by omega]
end Go.Sx
