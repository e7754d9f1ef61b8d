/- What is reached by a time, and the choices: the exact laws answer true. -/
import Derived.Test.YtgfliphofffcaaaGyC
namespace Go.Sx
open Relax
set_option linter.unusedVariables false

theorem best_le (n : Network) (h : NetS n) (a : ByteArray) (at0 legs : Int) : (bestV n a at0 legs).length ≤ 40 ∧ (netB n = false → bestV n a at0 legs = []) := by
  unfold bestV
  split
  · rename_i hq
    obtain ⟨hq, h1, h2, h3⟩ := hq
    obtain ⟨st, e, hst⟩ := idx_lt h1
    obtain ⟨S, hs⟩ := x0_start hst h2
    rw [e, Int.toNat_natCast, X_len (A := iA n) (relax_ok hq st) S]
    have h20 : n.Legs.length ≤ 20 := by
      have hq' := hq
      simp only [netB, Bool.and_eq_true, decide_eq_true_eq] at hq'
      omega
    have := ins_len (nmL n.Legs) []
    rw [nmL_len] at this
    simp only [List.length_nil] at this
    refine ⟨by unfold plcs; omega, fun hf => by rw [hq] at hf; cases hf⟩
  · exact ⟨by simp, fun _ => rfl⟩
theorem plcs_le {n : Network} (hn : netB n = true) : (plcs n).length ≤ 40 := by
  have h20 : n.Legs.length ≤ 20 := by
    simp only [netB, Bool.and_eq_true, decide_eq_true_eq] at hn
    omega
  have := ins_len (nmL n.Legs) []
  rw [nmL_len] at this
  simp only [List.length_nil] at this
  unfold plcs
  omega
theorem gi_some_g {l : List Int} {i x : Int} (h : gi l i = some x) : g l i.toNat = x ∧ 0 ≤ i ∧ i.toNat < l.length := by
  obtain ⟨h0, h1⟩ := gi_map encI h
  rw [List.getElem?_map] at h1
  cases hy : l[i.toNat]? with
  | none => rw [hy] at h1; cases h1
  | some y =>
    rw [hy] at h1
    simp [encI] at h1
    exact ⟨by simp [g, hy, h1], h0, (List.getElem?_eq_some_iff.1 hy).1⟩
theorem best_val (n : Network) (h : NetS n) (a : ByteArray) (at0 legs : Int) {i x : Int} (hg : gi (bestV n a at0 legs) i = some x) : x = -1 ∨ 0 ≤ x := by
  obtain ⟨e, _, hlt⟩ := gi_some_g hg
  rcases best_len n h a at0 legs with h1 | ⟨_, h1⟩
  · rw [h1] at hlt; simp at hlt
  · rw [← e]; exact h1 _
theorem rch_body (b : Int) (pl : List ByteArray) (l : List Int) (hv : ∀ i x, gi l i = some x → x = -1 ∨ 0 ≤ x) : spec_ReachedBy_L1 b pl l = impl_ReachedBy_L1 b pl l := by
  funext s
  show spec_ReachedBy_L1_b b pl l s.1 s.2 = impl_ReachedBy_L1_b b pl l s.1 s.2
  unfold spec_ReachedBy_L1_b impl_ReachedBy_L1_b
  cases hg : gi l s.2 with
  | none => simp
  | some x =>
    rcases hv _ _ hg with h | h
    · subst h; simp
    · have h1 : (x != -1) = true := by simp; omega
      simp [h, h1]
theorem reached_eq (n : Network) (h : NetS n) (a : ByteArray) (at0 b : Int) : ∃ r, spec_ReachedBy n a at0 b = some r ∧ impl_ReachedBy n a at0 b = some r ∧ r.length ≤ 40 := by
  have hp := plcs_len n h
  unfold spec_ReachedBy impl_ReachedBy
  rw [spec_PlacesOf_eq n h, impl_PlacesOf_eq n h]
  simp only [Option.bind_some, best_spec n h, best_impl n h]
  rw [rch_body b (plcs n) _ fun i x hg => best_val n h a at0 _ hg]
  have hle := (best_le n h a at0 (plcs n).length).1
  have hlen := best_len n h a at0 (plcs n).length
  have hval : ∀ i x, gi (bestV n a at0 (plcs n).length) i = some x → x = -1 ∨ 0 ≤ x := fun i x hg => best_val n h a at0 _ hg
  generalize bestV n a at0 (plcs n).length = l at *
  obtain ⟨x, h1, y, rfl, h2⟩ := loopM_up (body := impl_ReachedBy_L1 b (plcs n) l) l.length (fun i s => s.2 = (i : Int) ∧ s.1.length ≤ i) (fun x => ∃ y, x = .inl y ∧ y.length ≤ 40) (fun i s hi hs => by
    obtain ⟨s1, s2⟩ := s
    obtain ⟨e1, e2⟩ := hs
    simp only at e1 e2
    subst e1
    have hpl : i < (plcs n).length := by
      rcases hlen with e | ⟨e, _⟩
      · rw [e] at hi; simp at hi
      · omega
    have hws := w64_succ (show i ≤ 1048576 by omega)
    refine .inl ?_
    show ∃ s', impl_ReachedBy_L1_b b (plcs n) l s1 (i : Int) = some (.next s') ∧ _
    unfold impl_ReachedBy_L1_b
    have hap : ap 16 s1 ([(plcs n)[i]] : List ByteArray) = some (s1 ++ [(plcs n)[i]]) := ap_eq (by simp; omega) (by omega)
    simp only [Int.ofNat_lt, hi, decide_true, cond_true, gi_nat hi, gi_nat hpl, Option.bind_some, hws, hap]
    cases l[i] != -1 with
    | false => exact ⟨_, rfl, rfl, by show s1.length ≤ i + 1; omega⟩
    | true =>
      cases decide (l[i] ≤ b) with
      | false => exact ⟨_, rfl, rfl, by show s1.length ≤ i + 1; omega⟩
      | true => exact ⟨_, rfl, rfl, by show (s1 ++ [(plcs n)[i]]).length ≤ i + 1; simp; omega⟩) (fun s hs => by
    obtain ⟨s1, s2⟩ := s
    obtain ⟨e1, e2⟩ := hs
    simp only at e1 e2
    subst e1
    refine .inl ⟨s1, ?_, s1, rfl, by omega⟩
    show impl_ReachedBy_L1_b b (plcs n) l s1 (l.length : Int) = _
    simp [impl_ReachedBy_L1_b]) (([] : List ByteArray), 0) ⟨rfl, Nat.le_refl _⟩ (show l.length < 1000000000000 by omega)
  rw [h1]
  exact ⟨y, by simp [spec_ReachedBy_L1_k, spec_ReachedBy_L1_a], by simp [impl_ReachedBy_L1_k, impl_ReachedBy_L1_a], h2⟩
theorem eqStringS_refl (a : List ByteArray) (hl : a.length ≤ 1048576) : laws_eqStringS a a = some true := by
  unfold laws_eqStringS
  have := loop_val (body := laws_eqStringS_L1 a a) a.length (fun i => (i : Int)) () hl (fun i hi => by simp [laws_eqStringS_L1, laws_eqStringS_L1_b, gi_nat hi, hi, w64_succ (Nat.le_of_lt (Nat.lt_of_lt_of_le hi hl))]) (by simp [laws_eqStringS_L1, laws_eqStringS_L1_b])
  rw [show ((0 : Nat) : Int) = 0 from rfl] at this
  rw [this]
  simp [laws_eqStringS_L1_k, laws_eqStringS_L1_a]
def txt (k : Int) : ByteArray := (laws_markText k).getD ByteArray.empty
theorem txt_eq {k : Int} (h0 : 0 ≤ k) (h1 : k ≤ 100000000) : laws_markText k = some (txt k) := by
  obtain ⟨s, hs⟩ := text_tot k h0 h1
  simp [txt, hs]
theorem markStringS_eq (a : List ByteArray) (hl : a.length ≤ 1048576) : ∃ c l', ¬ c < 0 ∧ laws_markStringS a 1 = some (c, l') ∧ laws_heldStringS l' 1 = some c := by
  obtain ⟨l', h1, h2, h3⟩ := mark_up (body := laws_markStringS_L1) a 1 (fun i => txt (1 + 1 * (i : Int))) hl (fun i l hi h => by
      have hil : i < l.length := by omega
      have e1 : w64 (1 + 1 * (i : Int) + 1) = 1 + 1 * ((i + 1 : Nat) : Int) := by rw [w64_id (by omega) (by omega)]; omega
      have ht := txt_eq (k := 1 + 1 * (i : Int)) (by omega) (by omega)
      show laws_markStringS_L1_b _ _ _ = _
      unfold laws_markStringS_L1_b
      simp only [gi_nat hil, Int.ofNat_lt, hil, decide_true, cond_true, Option.bind_some, ht, e1, w64_succ (Nat.le_of_lt (Nat.lt_of_lt_of_le hi hl)), Int.toNat_natCast])
    (fun l h => by simp [laws_markStringS_L1, laws_markStringS_L1_b, h])
  refine ⟨1 + 1 * (a.length : Int), l', by omega, by rw [laws_markStringS, h1]; simp [laws_markStringS_L1_k, laws_markStringS_L1_a], ?_⟩
  have hk := held_up (body := laws_heldStringS_L1 l') l' 1 (fun i => txt (1 + 1 * (i : Int))) (by omega) (by rw [h2]; exact h3) (fun i hi e => by
      have e1 : w64 (1 + 1 * (i : Int) + 1) = 1 + 1 * ((i + 1 : Nat) : Int) := by rw [w64_id (by omega) (by omega)]; omega
      have ht := txt_eq (k := 1 + 1 * (i : Int)) (by omega) (by omega)
      show laws_heldStringS_L1_b l' _ _ = _
      unfold laws_heldStringS_L1_b
      simp only [gi_nat hi, Int.ofNat_lt, hi, decide_true, cond_true, Option.bind_some, ht, e1, e, w64_succ (by omega : i ≤ 1048576)]
      simp)
    (by simp [laws_heldStringS_L1, laws_heldStringS_L1_b])
  rw [laws_heldStringS, hk]
  simp [laws_heldStringS_L1_k, laws_heldStringS_L1_a, h2]
theorem FnExactReachedBy_true (n : Network) (a : ByteArray) (at0 b : Int) (hN : NetIn n) : laws_FnExactReachedBy n a at0 b = some true := by
  unfold laws_FnExactReachedBy
  by_cases ha : (a.size : Int) > 1048576
  · simp [ha]
  obtain ⟨v, hv, hc⟩ := szNetwork_le n hN
  rw [hv]
  simp only [ha, decide_false, cond_false]
  by_cases hn : v < 0
  · simp [hn]
  obtain ⟨hS, hv1⟩ := hc.resolve_left hn
  obtain ⟨r, r1, r2, r3⟩ := reached_eq n hS a at0 b
  have hr : r.length ≤ 1048576 := by omega
  obtain ⟨k, n', k0, k1, e1⟩ := markNetwork_tot n hS
  obtain ⟨c3, m3, n3, e3, e4⟩ := markStringS_eq r hr
  simp [hn, toNetwork_eq n hS, r1, r2, eqNetwork_refl n hS, eqStringS_refl _ hr, e1, e3, e4, n3, show ¬ k < 0 by omega]

theorem cho_body (n : Network) (h : NetS n) (a : ByteArray) (at0 : Int) (pl : List ByteArray) (v3 : Int) : spec_ChoicesOf_L1 n a at0 pl v3 = impl_ChoicesOf_L1 n a at0 pl v3 := by
  funext s
  show spec_ChoicesOf_L1_b n a at0 pl v3 s.1 s.2 = impl_ChoicesOf_L1_b n a at0 pl v3 s.1 s.2
  unfold spec_ChoicesOf_L1_b impl_ChoicesOf_L1_b
  simp only [best_spec n h, best_impl n h, Option.bind_some]
  have hval : ∀ i x, gi (bestV n a at0 s.2) i = some x → x = -1 ∨ 0 ≤ x := fun i x hg => best_val n h a at0 _ hg
  generalize bestV n a at0 s.2 = l at *
  cases l with
  | nil => rfl
  | cons z l =>
    have h1 : decide ((((z :: l).length : Nat) : Int) > 0) = true := by simp
    have h2 : ((((z :: l).length : Nat) : Int) == 0) = false := by simp; omega
    rw [h1, h2]
    simp only [cond_true, cond_false]
    cases hg : gi (z :: l) v3 with
    | none => rfl
    | some x =>
      simp only [Option.bind_some]
      rcases hval _ _ hg with e | e
      · subst e; rfl
      · have h3 : (x == -1) = false := by simp; omega
        have h4 : decide (x ≥ 0) = true := by simp [e]
        rw [h3, h4]
        rfl
theorem choices_eq (n : Network) (h : NetS n) (a b : ByteArray) (at0 : Int) : ∃ r, spec_ChoicesOf n a b at0 = some r ∧ impl_ChoicesOf n a b at0 = some r ∧ r.length ≤ 1048576 := by
  have hp := plcs_len n h
  unfold spec_ChoicesOf impl_ChoicesOf
  rw [spec_PlacesOf_eq n h, impl_PlacesOf_eq n h]
  simp only [Option.bind_some, placeAt_eq _ _ (show (plcs n).length ≤ 4000000 by omega), index_eq _ _ (show (plcs n).length ≤ 4000000 by omega)]
  rw [cho_body n h]
  obtain ⟨x, h1, y, rfl, h2⟩ := loopM_up (body := impl_ChoicesOf_L1 n a at0 (plcs n) (idxV (plcs n) b)) ((plcs n).length + 1) (fun i s => s.2 = (i : Int) ∧ s.1.length ≤ i ∧ (netB n = false → s.1 = [])) (fun x => ∃ y, x = .inl y ∧ y.length ≤ 1048576) (fun i s hi hs => by
    obtain ⟨s1, s2⟩ := s
    obtain ⟨e1, e2, e3⟩ := hs
    simp only at e1 e2 e3
    subst e1
    have fine : s1.length ≤ 1048576 := by
      cases hn : netB n with
      | false => rw [e3 hn]; simp
      | true => have := plcs_le hn; omega
    show (∃ s', impl_ChoicesOf_L1_b n a at0 (plcs n) (idxV (plcs n) b) s1 (i : Int) = some (.next s') ∧ _) ∨ (∃ t, impl_ChoicesOf_L1_b n a at0 (plcs n) (idxV (plcs n) b) s1 (i : Int) = some (.brk t) ∧ _) ∨ _
    unfold impl_ChoicesOf_L1_b
    have hile : (i : Int) ≤ ((plcs n).length : Int) := by omega
    have hws : w64 ((i : Int) + 1) = ((i + 1 : Nat) : Int) := by rw [w64_id (by omega) (by omega)]; omega
    simp only [hile, decide_true, cond_true, best_impl n h, Option.bind_some, hws]
    by_cases h0 : idxV (plcs n) b < 0
    · have : decide (idxV (plcs n) b ≥ 0) = false := by simp; omega
      rw [this]
      exact .inr (.inl ⟨s1, rfl, s1, rfl, fine⟩)
    · obtain ⟨t, e, ht⟩ := idx_lt h0
      rw [e]
      have : decide ((t : Int) ≥ 0) = true := by simp
      rw [this]
      simp only [cond_true]
      have same : ∃ s' : List Choice × Int, (some (Ctl.next (τ := List Choice) (ρ := List Choice) (s1, ((i + 1 : Nat) : Int))) : Option _) = some (.next s') ∧ s'.2 = ((i + 1 : Nat) : Int) ∧ s'.1.length ≤ i + 1 ∧ (netB n = false → s'.1 = []) := ⟨_, rfl, rfl, by show s1.length ≤ i + 1; omega, e3⟩
      rcases best_len n h a at0 i with hb | ⟨hb, _⟩
      · rw [hb]
        exact .inl same
      · have hnet : netB n = true := by
          cases hn : netB n with
          | true => rfl
          | false => have := (best_le n h a at0 i).2 hn; rw [this] at hb; simp only [List.length_nil] at hb; omega
        have hz : (((bestV n a at0 i).length : Int) == 0) = false := by rw [hb]; exact beq_eq_false_iff_ne.2 (by omega)
        have hgt : gi (bestV n a at0 i) (t : Int) = some (g (bestV n a at0 i) t) := gi_g (by rw [hb]; exact ht)
        simp only [hz, cond_false, hgt, Option.bind_some]
        cases g (bestV n a at0 i) t == -1 with
        | true => exact .inl same
        | false =>
          have hap : ∀ c : Choice, ap 16 s1 ([c] : List Choice) = some (s1 ++ [c]) := fun c => ap_eq (by simp; omega) (by omega)
          have grow : ∀ c : Choice, ∃ s' : List Choice × Int, (some (Ctl.next (τ := List Choice) (ρ := List Choice) (s1 ++ [c], ((i + 1 : Nat) : Int))) : Option _) = some (.next s') ∧ s'.2 = ((i + 1 : Nat) : Int) ∧ s'.1.length ≤ i + 1 ∧ (netB n = false → s'.1 = []) := fun c => ⟨_, rfl, rfl, by show (s1 ++ [c]).length ≤ i + 1; simp; omega, fun hf => by rw [hnet] at hf; cases hf⟩
          simp only [cond_false, hap, Option.bind_some]
          cases hs0 : ((s1.length : Int) == 0) with
          | true => exact .inl (grow _)
          | false =>
            have hpos : 0 < s1.length := by
              have := beq_eq_false_iff_ne.1 hs0
              omega
            have hlast : gi s1 (w64 ((s1.length : Int) - 1)) = some s1[s1.length - 1] := by
              rw [w64_id (by omega) (by omega), show ((s1.length : Int) - 1) = ((s1.length - 1 : Nat) : Int) by omega, gi_nat (by omega : s1.length - 1 < s1.length)]
            simp only [cond_false, hlast, Option.bind_some]
            cases decide (g (bestV n a at0 i) t < s1[s1.length - 1].Ends) with
            | true => exact .inl (grow _)
            | false => exact .inl same) (fun s hs => by
    obtain ⟨s1, s2⟩ := s
    obtain ⟨e1, e2, e3⟩ := hs
    simp only at e1 e2 e3
    subst e1
    have fine : s1.length ≤ 1048576 := by
      cases hn : netB n with
      | false => rw [e3 hn]; simp
      | true => have := plcs_le hn; omega
    refine .inl ⟨s1, ?_, s1, rfl, fine⟩
    show impl_ChoicesOf_L1_b n a at0 (plcs n) (idxV (plcs n) b) s1 (((plcs n).length + 1 : Nat) : Int) = _
    unfold impl_ChoicesOf_L1_b
    have : decide ((((plcs n).length + 1 : Nat) : Int) ≤ ((plcs n).length : Int)) = false := by simp; omega
    rw [this]
    rfl) (([] : List Choice), 0) ⟨rfl, Nat.le_refl _, fun _ => rfl⟩ (show (plcs n).length + 1 < 1000000000000 by omega)
  rw [h1]
  exact ⟨y, by simp [spec_ChoicesOf_L1_k, spec_ChoicesOf_L1_a], by simp [impl_ChoicesOf_L1_k, impl_ChoicesOf_L1_a], h2⟩
theorem eqChoice_refl (x : Choice) : laws_eqChoice x x = some true := by simp [laws_eqChoice]
theorem eqChoiceS_refl (a : List Choice) (hl : a.length ≤ 1048576) : laws_eqChoiceS a a = some true := by
  unfold laws_eqChoiceS
  rw [show loopM (laws_eqChoiceS_L1 a a) big 0 = some (.inl ()) from eq_loop_refl a laws_eqChoice eqChoice_refl hl]
  simp [laws_eqChoiceS_L1_k, laws_eqChoiceS_L1_a]
theorem markChoiceS_eq (a : List Choice) (hl : a.length ≤ 1048576) : ∃ c l', ¬ c < 0 ∧ laws_markChoiceS a 1 = some (c, l') ∧ laws_heldChoiceS l' 1 = some c := by
  obtain ⟨l', h1, h2, h3⟩ := mark_up (body := laws_markChoiceS_L1) a 2 (fun i => Choice.mk (1 + 2 * (i : Int)) (1 + 2 * (i : Int) + 1)) hl (fun i l hi h => by
      have hil : i < l.length := by omega
      have e6 : 1 + 2 * ((i + 1 : Nat) : Int) = 1 + 2 * (i : Int) + 1 + 1 := by omega
      rw [e6]
      have hk : (0 : Int) ≤ 1 + 2 * (i : Int) ∧ 1 + 2 * (i : Int) ≤ 8000000 := by omega
      generalize 1 + 2 * (i : Int) = k at hk
      have w1 : w64 (k + 1) = k + 1 := w64_id (by omega) (by omega)
      have w2 : w64 (k + 1 + 1) = k + 1 + 1 := w64_id (by omega) (by omega)
      simp only [laws_markChoiceS_L1, laws_markChoiceS_L1_b, Int.ofNat_lt, hil, decide_true, cond_true, Int.toNat_natCast, w1, w2, w64_succ (Nat.le_of_lt (Nat.lt_of_lt_of_le hi hl)), gi_nat, List.length_set, List.set_set, List.getElem_set_self, Option.bind_some])
    (fun l h => by simp [laws_markChoiceS_L1, laws_markChoiceS_L1_b, h])
  refine ⟨1 + 2 * (a.length : Int), l', by omega, by rw [laws_markChoiceS, h1]; simp [laws_markChoiceS_L1_k, laws_markChoiceS_L1_a], ?_⟩
  have hk := held_up (body := laws_heldChoiceS_L1 l') l' 2 (fun i => Choice.mk (1 + 2 * (i : Int)) (1 + 2 * (i : Int) + 1)) (by omega) (by rw [h2]; exact h3) (fun i hi e => by
      have e6 : 1 + 2 * ((i + 1 : Nat) : Int) = 1 + 2 * (i : Int) + 1 + 1 := by omega
      rw [e6]
      have hws := w64_succ (by omega : i ≤ 1048576)
      have hgi := gi_nat hi
      rw [e] at hgi
      simp only [laws_heldChoiceS_L1, laws_heldChoiceS_L1_b, Int.ofNat_lt, hi, decide_true, cond_true, hgi, hws]
      have hk : (0 : Int) ≤ 1 + 2 * (i : Int) ∧ 1 + 2 * (i : Int) ≤ 8000000 := by omega
      generalize 1 + 2 * (i : Int) = k at hk
      have w1 : w64 (k + 1) = k + 1 := w64_id (by omega) (by omega)
      have w2 : w64 (k + 1 + 1) = k + 1 + 1 := w64_id (by omega) (by omega)
      simp only [w1, w2, Option.bind_some]
      simp)
    (by simp [laws_heldChoiceS_L1, laws_heldChoiceS_L1_b])
  rw [laws_heldChoiceS, hk]
  simp [laws_heldChoiceS_L1_k, laws_heldChoiceS_L1_a, h2]
theorem FnExactChoicesOf_true (n : Network) (a b : ByteArray) (at0 : Int) (hN : NetIn n) : laws_FnExactChoicesOf n a b at0 = some true := by
  unfold laws_FnExactChoicesOf
  by_cases ha : (a.size : Int) > 1048576
  · simp [ha]
  by_cases hb : (b.size : Int) > 1048576
  · simp [hb]
  obtain ⟨v, hv, hc⟩ := szNetwork_le n hN
  rw [hv]
  simp only [ha, hb, decide_false, cond_false]
  by_cases hn : v < 0
  · simp [hn]
  obtain ⟨hS, hv1⟩ := hc.resolve_left hn
  obtain ⟨r, r1, r2, hr⟩ := choices_eq n hS a b at0
  obtain ⟨k, n', k0, k1, e1⟩ := markNetwork_tot n hS
  obtain ⟨c3, m3, n3, e3, e4⟩ := markChoiceS_eq r hr
  simp [hn, toNetwork_eq n hS, r1, r2, eqNetwork_refl n hS, eqChoiceS_refl _ hr, e1, e3, e4, n3, show ¬ k < 0 by omega]
end Go.Sx
