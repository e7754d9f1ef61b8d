/- The law of the walk by chance answers true. -/
import Derived.Test.YtnefegnodjaldaaGfY
namespace Go.Sx
open Relax (g g_set X)
set_option linter.unusedVariables false

theorem FnWalk_true (a : List Int) (hv : ∀ x ∈ a, 0 ≤ x ∧ x ≤ 255) : laws_FnWalk a = some true := by
  unfold laws_FnWalk laws_big
  simp only [Option.bind_some]
  by_cases hb : (a.length : Int) > 4096
  · simp [hb]
  simp only [hb, decide_false, cond_false]
  obtain ⟨⟨n, p, q, t⟩, e, hd, hp, hq, ht⟩ := drawF_ok a (by omega)
  simp only at hd hp hq ht
  have hS := hd.S (by omega)
  have hpl := plcs_len n hS
  have hd0 := hd.some
  rw [e]
  simp only [Option.bind_some, spec_IsNetwork_eq n hS, spec_PlacesOf_eq n hS, lawIndex_eq _ _ (show (plcs n).length ≤ 4000000 by omega)]
  cases hn : netB n with
  | false => simp
  | true =>
  by_cases h1 : t < 0
  · simp [h1]
  by_cases h2 : t > 100000
  · simp [h1, h2]
  by_cases h3 : idxV (plcs n) p < 0
  · simp [h1, h2, h3]
  simp only [h1, h2, h3, Bool.not_true, decide_false, cond_false]
  obtain ⟨st, e1, hst⟩ := idx_lt h3
  have hc := change_in hn
  have hv0 : v0N t = t := v0N_pos (by omega)
  obtain ⟨y, hy, here, w, r, rfl, hg, hwk, hwl⟩ := loopM_up (body := laws_FnWalk_L1 a (n, p, q, t)) 5 (fun i s => s.2.2.2 = (i : Int) ∧ Goes n s.2.2.1 (p, t) (s.1, s.2.1) ∧ WkInv n st t s.2.2.1.length s.1 s.2.1 ∧ s.2.2.1.length ≤ i ∧ 0 ≤ s.2.1 ∧ s.2.1 ≤ 200000) (fun y => ∃ here w r, y = .inl (here, w) ∧ Goes n w (p, t) (here, r) ∧ WkInv n st t w.length here r ∧ w.length ≤ 5) (fun i s hi hs => by
    obtain ⟨here, ready, w, k⟩ := s
    obtain ⟨rfl, hg, hw, hl, r0, r1⟩ := hs
    simp only at hg hw hl r0 r1
    have hws : w64 ((i : Int) + 1) = ((i + 1 : Nat) : Int) := by rw [w64_id (by omega) (by omega)]; omega
    have hws7 : w64 ((i : Int) + 7) = (i : Int) + 7 := w64_id (by omega) (by omega)
    obtain ⟨v35, e35, a0, a1⟩ := lawAt_ok a (by omega) hv (((i + 1 : Nat) : Int)) (by omega)
    obtain ⟨v39, e39, b0, b1⟩ := lawAt_ok a (by omega) hv ((i : Int) + 7) (by omega)
    have hnl : ¬ ((n.Legs.length : Int)) = 0 := by omega
    have hr : rM v35 (n.Legs.length : Int) = some (Int.tmod v35 n.Legs.length) := by simp only [rM, hnl, if_false]
    have hm := tmod_in a0 (show 0 < (n.Legs.length : Int) by omega)
    have hm3 := tmod_in b0 (show (0 : Int) < 3 by omega)
    have w1 : w64 (30 * Int.tmod v39 3) = 30 * Int.tmod v39 3 := w64_id (by omega) (by omega)
    have w2 : w64 (ready + 30 * Int.tmod v39 3) = ready + 30 * Int.tmod v39 3 := w64_id (by omega) (by omega)
    have hnx : impl_NextTrip n (Int.tmod v35 n.Legs.length) (ready + 30 * Int.tmod v39 3) = some (match (List.range 61).find? (nxtB n (Int.tmod v35 n.Legs.length) (ready + 30 * Int.tmod v39 3)) with | some d => (⟨Int.tmod v35 n.Legs.length, d⟩, true) | none => (⟨0, 0⟩, false)) := by
      unfold impl_NextTrip
      rw [impl_IsNetwork_eq n hS, hn]
      simp only [Option.bind_some, Bool.not_true, cond_false, impl_next_eq n hS hn]
      rfl
    have same : ∃ s' : ByteArray × Int × List Trip × Int, (some (Ctl.next (τ := ByteArray × List Trip) (ρ := Bool) (here, ready, w, ((i + 1 : Nat) : Int))) : Option _) = some (.next s') ∧ s'.2.2.2 = ((i + 1 : Nat) : Int) ∧ Goes n s'.2.2.1 (p, t) (s'.1, s'.2.1) ∧ WkInv n st t s'.2.2.1.length s'.1 s'.2.1 ∧ s'.2.2.1.length ≤ i + 1 ∧ 0 ≤ s'.2.1 ∧ s'.2.1 ≤ 200000 := ⟨_, rfl, rfl, hg, hw, by show w.length ≤ i + 1; omega, r0, r1⟩
    refine .inl ?_
    show ∃ s', laws_FnWalk_L1_b a (n, p, q, t) here ready w (i : Int) = some (.next s') ∧ _
    unfold laws_FnWalk_L1_b
    have hi5 : decide ((i : Int) < 5) = true := by simp; omega
    simp only [hi5, cond_true, hws, e35, Option.bind_some, hr, hws7, e39, w1, w2, hnx, laws_FnWalk_j1]
    generalize hleg : Int.tmod v35 n.Legs.length = leg at hm
    cases hf : (List.range 61).find? (nxtB n leg (ready + 30 * Int.tmod v39 3)) with
    | none => exact same
    | some d =>
      obtain ⟨htr, hst2⟩ := nxt_trip hn hf
      have hb := stT_in htr
      simp only [Bool.not_true, cond_false, gi_leg hm.1 hm.2, Option.bind_some, bytes_eq_decide]
      by_cases hfr : (legA n leg).From = here
      · have hap : ap 16 w ([⟨leg, (d : Int)⟩] : List Trip) = some (w ++ [⟨leg, (d : Int)⟩]) := ap_eq (by simp <;> omega) (by simp <;> omega)
        have hea : impl_EndsAt n ⟨leg, (d : Int)⟩ = some (enT n ⟨leg, (d : Int)⟩) := by unfold impl_EndsAt; rw [impl_IsTrip_eq n hS, htr]; simp [ends_eq' htr]
        have w3 : w64 (enT n ⟨leg, (d : Int)⟩ + n.Change) = enT n ⟨leg, (d : Int)⟩ + n.Change := w64_id (by omega) (by omega)
        rw [decide_eq_true hfr]
        simp only [Bool.not_true, cond_false, hap, hea, w3, Option.bind_some]
        refine ⟨_, rfl, rfl, ?_, ?_, by show (w ++ [_]).length ≤ i + 1; simp; omega, by show 0 ≤ enT n ⟨leg, (d : Int)⟩ + n.Change; omega, by show enT n ⟨leg, (d : Int)⟩ + n.Change ≤ 200000; omega⟩
        · show each _ 0 (w ++ [_]) (p, t) = _
          rw [each_snoc _ _ _ _ _ _ hg]
          exact wayF_ok htr hfr (by show ready ≤ _; omega)
        · show WkInv n st t (w ++ [_]).length (legA n leg).To (enT n ⟨leg, (d : Int)⟩ + n.Change)
          rw [List.length_append, List.length_singleton]
          exact wk_step hn hst (by omega) hw htr hfr (by omega)
      · rw [decide_eq_false hfr]
        exact same) (fun s hs => by
    obtain ⟨here, ready, w, k⟩ := s
    obtain ⟨rfl, hg, hw, hl, r0, r1⟩ := hs
    simp only at hg hw hl r0 r1
    refine .inl ⟨(here, w), ?_, here, w, ready, rfl, hg, hw, hl⟩
    show laws_FnWalk_L1_b a (n, p, q, t) here ready w ((5 : Nat) : Int) = _
    unfold laws_FnWalk_L1_b
    rfl) (p, t, ([] : List Trip), 0) ⟨rfl, rfl, by have := wk_zero hn hst (show ¬ t > 100000 by omega) e1; rw [hv0] at this; exact this, Nat.le_refl _, by show 0 ≤ t; omega, by show t ≤ 200000; omega⟩ (show 5 < 1000000000000 by omega)
  rw [hy]
  simp only [Option.bind_some, laws_FnWalk_L1_k, laws_FnWalk_L1_a]
  obtain ⟨v, hvi, hv1, hv2, hv3⟩ := hwk
  have hf : Fine n p t := ⟨hn, h3, by omega⟩
  have hhi : ¬ idxV (plcs n) here < 0 := by omega
  -- the best arrival is no later
  have hD : 0 ≤ DN n st t v ∧ DN n st t v ≤ g (XN n st t w.length) v := by
    by_cases hm : w.length ≤ (plcs n).length
    · have := XN_more hn hst (show ¬ t > 100000 by omega) w.length ((plcs n).length - w.length) v hv1
      rw [show w.length + ((plcs n).length - w.length) = (plcs n).length by omega] at this
      exact this
    · have := XN_end hn hst (show ¬ t > 100000 by omega) (show (plcs n).length ≤ w.length by omega)
      rw [this] at hv1 ⊢
      exact ⟨hv1, Int.le_refl _⟩
  have hE : earV n p here t = DN n st t v := by rw [ear_fine hf hhi, e1, hvi]; rfl
  have hE0 : 0 ≤ earV n p here t := by rw [hE]; exact hD.1
  obtain ⟨_, _, f2, ⟨r1, f3⟩, f4, f5, f6⟩ := fw_goes hE0 t (by omega)
  have h40 := fw_len n p here t
  obtain ⟨c1, _⟩ := goes_chain _ _ _ _ f3
  obtain ⟨d1, _, _, d4, d5⟩ := goes_chain _ _ _ _ hg
  rw [hv0] at f4
  have hend : g (XN n st t w.length) v ≤ endW n t w := by
    unfold endW
    cases hq : w.getLast? with
    | none =>
      rw [List.getLast?_eq_none_iff] at hq
      have h5 := d5 hq
      have h6 : here = p := by have := congrArg Prod.fst h5; exact this
      have hvs : v = st := by rw [h6, e1] at hvi; omega
      rw [hq, hvs]
      show g (XN n st t 0) st ≤ t
      rw [XN_st hn hst (by omega), hv0]
      exact Int.le_refl _
    | some z =>
      have h5 := d4 z hq
      have hpos : 0 < w.length := by
        cases w with
        | nil => cases hq
        | cons b r => simp
      have h9 := hv3 hpos
      have h5 : r = enT n z + n.Change := h5
      show g (XN n st t w.length) v ≤ enT n z
      omega
  simp only [wayEnds_eq n hS hn w (by omega) t d1, findWay_impl n hS, Option.bind_some, wayEnds_eq n hS hn (fwV n p here t).1 (by omega) t c1, f4, isWay_true n hS hn w (by omega) p here t r h3 hhi hg, cond_true, f2]
  have hle : earV n p here t ≤ endW n t w := by rw [hE]; omega
  rw [decide_eq_true hle]
  simp only [cond_true]
  by_cases hlt : earV n p here t < endW n t w
  · rw [decide_eq_true hlt]; rfl
  · rw [decide_eq_false hlt]
    simp only [cond_false]
    have hlg : (fwV n p here t).1.length ≤ w.length := by
      rw [f6, e1, hvi]
      simp only [Int.toNat_natCast]
      obtain ⟨_, _, l3⟩ := lgs_spec n st t v
      rcases Nat.lt_or_ge w.length (lgsN n st t v) with hh | hh
      · exact absurd (show g (XN n st t w.length) v = DN n st t v by rw [hE] at hlt; omega) (l3 _ hh)
      · exact hh
    simp
    exact hlg
end Go.Sx
