/- Finding room and booking end; the draw of rides; a thing rides what it has booked. -/
import Derived.Test.YtnefegnodjaldaaGlG
namespace Go.Sx
open Relax (g g_set X)
set_option linter.unusedVariables false

theorem fre_trip {n : Network} (hn : netB n = true) {l : List Booking} {c : List Trip} {leg at0 w : Int} {d : Nat} (h : (List.range 61).find? (freB n l c leg at0 w) = some d) : tripB n ⟨leg, d⟩ = true := by
  have := List.find?_some h
  unfold freB at this
  simp only [Bool.and_eq_true] at this
  simp [tripB, hn, this]
theorem ready_tot (n : Network) (x : Int) (b : Bool) : ∃ v, spec_l4Ready n x b = some v := by
  unfold spec_l4Ready
  cases b <;> simp
/-- one leg of a round with room ends -/
theorem l6Round_tot (n : Network) (h : NetS n) (hn : netB n = true) (l : List Booking) (hl : l.length ≤ 1048576) (c : List Trip) (hc : c.length ≤ 1048576) (w : Int) (old : List Int) (ho : old.length = (plcs n).length) (f : Int) :
    ∃ r, spec_l6Round n l c w (plcs n) old f = some r ∧ r.length = (plcs n).length := by
  have hp := plcs_len n h
  have hL := h.legs
  unfold spec_l6Round spec_l1Ints
  rw [ap_eq (by simp; omega) (by omega)]
  obtain ⟨x, h1, y, rfl, h2⟩ := loopM_up (body := spec_l6Round_L1 n l c w (plcs n) old f) n.Legs.length (fun i s => s.2 = (i : Int) ∧ s.1.length = (plcs n).length) (fun x => ∃ y, x = .inl y ∧ y.length = (plcs n).length) (fun i s hi hs => by
    obtain ⟨s1, s2⟩ := s
    obtain ⟨e1, e2⟩ := hs
    simp only at e1 e2
    subst e1
    have hws := w64_succ (show i ≤ 1048576 by omega)
    obtain ⟨a1, a2⟩ := iA_spec hi
    obtain ⟨b1, b2⟩ := iB_spec hi
    have ha : gi old (iA n i : Int) = some (g old (iA n i)) := gi_g (by omega)
    have hb : gi s1 (iB n i : Int) = some (g s1 (iB n i)) := gi_g (by omega)
    refine .inl ?_
    show ∃ s', spec_l6Round_L1_b n l c w (plcs n) old f s1 (i : Int) = some (.next s') ∧ _
    unfold spec_l6Round_L1_b
    have same : ∃ s' : List Int × Int, (some (Ctl.next (τ := List Int) (ρ := List Int) (s1, ((i + 1 : Nat) : Int))) : Option _) = some (.next s') ∧ s'.2 = ((i + 1 : Nat) : Int) ∧ s'.1.length = (plcs n).length := ⟨_, rfl, rfl, e2⟩
    have put : ∀ z, ∃ s' : List Int × Int, (some (Ctl.next (τ := List Int) (ρ := List Int) (List.set s1 (Int.toNat (iB n i : Int)) z, ((i + 1 : Nat) : Int))) : Option _) = some (.next s') ∧ s'.2 = ((i + 1 : Nat) : Int) ∧ s'.1.length = (plcs n).length := fun z => ⟨_, rfl, rfl, by show (List.set s1 _ z).length = _; rw [List.length_set]; exact e2⟩
    simp only [Int.ofNat_lt, hi, decide_true, cond_true, gi_nat hi, Option.bind_some, index_eq _ _ (show (plcs n).length ≤ 4000000 by omega), a1, b1, ha, hws]
    cases decide (g old (iA n i) < 0) with
    | true => exact same
    | false =>
      obtain ⟨rd, hrd⟩ := ready_tot n (g old (iA n i)) (((iA n i : Nat) : Int) == f)
      simp only [cond_false, hrd, Option.bind_some, l6Next_eq n h hn l hl c hc i rd w]
      cases hf : (List.range 61).find? (freB n l c i rd w) with
      | none => exact same
      | some d =>
        have ht := fre_trip hn hf
        have hd0 : decide ((d : Int) < 0) = false := by simp
        simp only [hd0, cond_false, ends_eq ht, Option.bind_some, hb]
        cases decide (g s1 (iB n i) < 0) with
        | true => exact put _
        | false =>
          cases decide (enT n ⟨(i : Int), (d : Int)⟩ < g s1 (iB n i)) with
          | true => exact put _
          | false => exact same) (fun s hs => by
    obtain ⟨s1, s2⟩ := s
    obtain ⟨e1, e2⟩ := hs
    simp only at e1 e2
    subst e1
    refine .inl ⟨s1, ?_, s1, rfl, e2⟩
    show spec_l6Round_L1_b n l c w (plcs n) old f s1 (n.Legs.length : Int) = _
    simp [spec_l6Round_L1_b]) (([] : List Int) ++ old, 0) ⟨rfl, by simpa using ho⟩ (show n.Legs.length < 1000000000000 by omega)
  refine ⟨y, ?_, h2⟩
  simp only [Option.bind_some]
  rw [h1]
  simp [spec_l6Round_L1_k, spec_l6Round_L1_a]
theorem bestFree_tot (n : Network) (h : NetS n) (l : List Booking) (hl : l.length ≤ 1048576) (c : List Trip) (hc : c.length ≤ 1048576) (a : ByteArray) (t w k : Int) :
    ∃ r, spec_BestFree n l c a t w k = some r ∧ (r = [] ∨ r.length = (plcs n).length) ∧ (r ≠ [] → bokB n l = true ∧ ¬ idxV (plcs n) a < 0 ∧ ¬ t > 100000 ∧ ¬ w < 1) ∧ (bokB n l = true → ¬ idxV (plcs n) a < 0 → ¬ t > 100000 → ¬ w < 1 → ¬ k < 0 → r.length = (plcs n).length) := by
  have hp := plcs_len n h
  unfold spec_BestFree
  rw [spec_PlacesOf_eq n h, spec_AreBookings_eq n h l hl]
  simp only [Option.bind_some, index_eq _ _ (show (plcs n).length ≤ 4000000 by omega)]
  cases hb : bokB n l with
  | false => exact ⟨[], by simp, .inl rfl, fun hh => absurd rfl hh, fun hh => by cases hh⟩
  | true =>
    by_cases h1 : idxV (plcs n) a < 0
    · exact ⟨[], by simp [h1], .inl rfl, fun hh => absurd rfl hh, fun _ hh => absurd h1 hh⟩
    by_cases h2 : t > 100000
    · exact ⟨[], by simp [h1, h2], .inl rfl, fun hh => absurd rfl hh, fun _ _ hh => absurd h2 hh⟩
    by_cases h3 : w < 1
    · exact ⟨[], by simp [h1, h2, h3], .inl rfl, fun hh => absurd rfl hh, fun _ _ _ hh => absurd h3 hh⟩
    by_cases h4 : k < 0
    · exact ⟨[], by simp [h1, h2, h3, h4], .inl rfl, fun hh => absurd rfl hh, fun _ _ _ _ hh => absurd h4 hh⟩
    have hn := bok_net hb
    obtain ⟨st, e, hst⟩ := idx_lt h1
    have key : ∀ (m : Nat) (s : List Int × Int), 0 ≤ s.2 → ((plcs n).length : Int) - s.2 ≤ m → s.1.length = (plcs n).length → ∃ y, loopM (spec_BestFree_L1 n l c w k (plcs n) (st : Int)) big s = some (.inl y) ∧ y.length = (plcs n).length := by
      intro m s hs0 hs1 hs2
      obtain ⟨x, hx, y, rfl, hy⟩ := loopM_tot (body := spec_BestFree_L1 n l c w k (plcs n) (st : Int)) (fun s => 0 ≤ s.2 ∧ s.1.length = (plcs n).length) (fun s => (((plcs n).length : Int) - s.2).toNat) (fun x => ∃ y, x = .inl y ∧ y.length = (plcs n).length) (fun s hs => by
        obtain ⟨s1, s2⟩ := s
        obtain ⟨g0, g1⟩ := hs
        simp only at g0 g1
        show (∃ s', spec_BestFree_L1_b n l c w k (plcs n) (st : Int) s1 s2 = some (.next s') ∧ _) ∨ (∃ t, spec_BestFree_L1_b n l c w k (plcs n) (st : Int) s1 s2 = some (.brk t) ∧ _) ∨ _
        unfold spec_BestFree_L1_b
        by_cases c1 : s2 < k
        · by_cases c2 : s2 < ((plcs n).length : Int)
          · obtain ⟨r, hr, hrl⟩ := l6Round_tot n h hn l hl c hc w s1 g1 (st : Int)
            have hws : w64 (s2 + 1) = s2 + 1 := w64_id (by omega) (by omega)
            refine .inl ⟨(r, s2 + 1), by simp only [c1, c2, decide_true, cond_true, hr, Option.bind_some, hws], ⟨by show 0 ≤ s2 + 1; omega, hrl⟩, ?_⟩
            show (((plcs n).length : Int) - (s2 + 1)).toNat < (((plcs n).length : Int) - s2).toNat
            omega
          · exact .inr (.inl ⟨s1, by simp [c1, c2], s1, rfl, g1⟩)
        · exact .inr (.inl ⟨s1, by simp [c1], s1, rfl, g1⟩)) big s ⟨hs0, hs2⟩ (by unfold big; omega)
      exact ⟨y, hx, hy⟩
    obtain ⟨y, hy, hyl⟩ := key (plcs n).length (x0N n st t, 0) (Int.le_refl _) (by simp) (by simp [x0N])
    refine ⟨y, ?_, .inr hyl, fun _ => ⟨rfl, h1, h2, h3⟩, fun _ _ _ _ _ => hyl⟩
    have hst0 : decide ((st : Int) < 0) = false := by simp
    simp only [h2, h3, h4, Bool.not_true, decide_false, cond_false, e, hst0, first_eq0 n h st hst, Option.bind_some, hy, spec_BestFree_L1_k, spec_BestFree_L1_a]
theorem l6Step_tot (n : Network) (h : NetS n) (hn : netB n = true) (hL : 0 < n.Legs.length) (l : List Booking) (hl : l.length ≤ 1048576) (c : List Trip) (hc : c.length ≤ 1048576) (w : Int) (bf : List Int) (hb : bf.length = (plcs n).length) (f x e : Int) (hx0 : 0 ≤ x) (hx : x < (plcs n).length) :
    ∃ t, spec_l6Step n l c w (plcs n) bf f x e = some t ∧ 0 ≤ t.Leg ∧ t.Leg < n.Legs.length := by
  have hp := plcs_len n h
  have hLl := h.legs
  unfold spec_l6Step
  obtain ⟨y, h1, h2⟩ := loopM_up (body := spec_l6Step_L1 n l c w (plcs n) bf f x e) n.Legs.length (fun i s => s = (i : Int)) (fun y => y = .inl () ∨ ∃ t : Trip, y = .inr t ∧ 0 ≤ t.Leg ∧ t.Leg < n.Legs.length) (fun i s hi hs => by
    subst hs
    have hws := w64_succ (show i ≤ 1048576 by omega)
    obtain ⟨a1, a2⟩ := iA_spec hi
    have ha : gi bf (iA n i : Int) = some (g bf (iA n i)) := gi_g (by omega)
    have hgx := gi_eq hx0 hx
    show (∃ s', spec_l6Step_L1_b n l c w (plcs n) bf f x e (i : Int) = some (.next s') ∧ _) ∨ _ ∨ (∃ r, spec_l6Step_L1_b n l c w (plcs n) bf f x e (i : Int) = some (.ret r) ∧ _)
    unfold spec_l6Step_L1_b
    have same : ∃ s' : Int, (some (Ctl.next (τ := Unit) (ρ := Trip) ((i + 1 : Nat) : Int)) : Option _) = some (.next s') ∧ s' = ((i + 1 : Nat) : Int) := ⟨_, rfl, rfl⟩
    simp only [Int.ofNat_lt, hi, decide_true, cond_true, gi_nat hi, Option.bind_some, index_eq _ _ (show (plcs n).length ≤ 4000000 by omega), a1, ha, hgx, hws]
    cases (!n.Legs[i].To.toList == ((plcs n)[x.toNat]'(by omega)).toList) with
    | true => exact .inl same
    | false =>
      cases decide (g bf (iA n i) < 0) with
      | true => exact .inl same
      | false =>
        obtain ⟨rd, hrd⟩ := ready_tot n (g bf (iA n i)) (((iA n i : Nat) : Int) == f)
        simp only [cond_false, hrd, Option.bind_some, l6Next_eq n h hn l hl c hc i rd w, spec_l6Step_j1, hws]
        cases hf : (List.range 61).find? (freB n l c i rd w) with
        | none => exact .inl same
        | some d =>
          have ht := fre_trip hn hf
          have hd0 : decide ((d : Int) ≥ 0) = true := by simp
          simp only [hd0, cond_true, ends_eq ht, Option.bind_some]
          cases (enT n ⟨(i : Int), (d : Int)⟩ == e) with
          | true => exact .inr (.inr ⟨⟨(i : Int), (d : Int)⟩, rfl, .inr ⟨_, rfl, by show 0 ≤ (i : Int); omega, by show (i : Int) < _; omega⟩⟩)
          | false => exact .inl same) (fun s hs => by
    subst hs
    refine .inl ⟨(), ?_, .inl rfl⟩
    show spec_l6Step_L1_b n l c w (plcs n) bf f x e (n.Legs.length : Int) = _
    simp [spec_l6Step_L1_b]) (0 : Int) rfl (show n.Legs.length < 1000000000000 by omega)
  rw [h1]
  rcases h2 with rfl | ⟨t, rfl, t0, t1⟩
  · exact ⟨⟨0, 0⟩, rfl, by simp, by show (0 : Int) < _; omega⟩
  · exact ⟨t, rfl, t0, t1⟩
end Go.Sx
