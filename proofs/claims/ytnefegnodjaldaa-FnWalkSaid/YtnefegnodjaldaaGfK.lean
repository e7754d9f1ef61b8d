/- The way that is found: what both functions compute. -/
import Derived.Test.YtnefegnodjaldaaGfA
namespace Go.Sx
open Relax (g g_set X)
set_option linter.unusedVariables false

theorem stpB_eq {n : Network} {st : Nat} {bf : List Int} {x : Nat} {due : Int} {i : Nat} (hb : g bf (iA n i) ≤ 1000000) :
    stpB n st bf x due i = (decide (iB n i = x) && !decide (g bf (iA n i) < 0) && (match (List.range 61).find? (nxtB n i (rdyN n st i (g bf (iA n i)))) with | some d => decide (enT n ⟨(i : Int), (d : Int)⟩ = due) | none => false)) := by
  unfold stpB arrN
  rw [if_pos hb]
  cases (List.range 61).find? (nxtB n i (rdyN n st i (g bf (iA n i)))) with
  | none => rfl
  | some d =>
    congr 1
theorem find_first {L : Nat} {p : Nat → Bool} {i : Nat} (hi : i < L) (hp : p i = true) (hm : ∀ j, j < i → p j = false) : (List.range L).find? p = some i :=
  List.find?_range_eq_some.2 ⟨hp, by simpa using hi, fun j hj => by rw [hm j hj]; rfl⟩
theorem find_none {L : Nat} {p : Nat → Bool} (hm : ∀ j, j < L → p j = false) : (List.range L).find? p = none :=
  List.find?_eq_none.2 fun j hj => by rw [hm j (by simpa using hj)]; simp
theorem to_eq {n : Network} {i x : Nat} (hi : i < n.Legs.length) (hx : x < (plcs n).length) : (n.Legs[i].To.toList == (plcs n)[x].toList) = decide (iB n i = x) := by
  have h1 := idx_get (iB_spec hi).1
  rw [bytes_eq_decide]
  by_cases h : iB n i = x
  · rw [h, List.getElem?_eq_getElem hx] at h1
    have := Option.some.inj h1
    rw [decide_eq_true h, decide_eq_true this.symm]
  · rw [decide_eq_false h, decide_eq_false]
    intro he
    have h2 := (iB_spec hi).1
    rw [he, idx_at n hx] at h2
    exact h (by omega)
section
variable {n : Network} (h : NetS n) (hn : netB n = true) {st : Nat} {bf : List Int} (hl : bf.length = (plcs n).length) (hb : ∀ v, g bf v ≤ 1000000) {x : Nat} (hx : x < (plcs n).length) (due : Int)
include h hn hl hb hx
theorem specStep_eq : spec_l4Step n (plcs n) bf (st : Int) (x : Int) due = some (match stpI n st bf x due with | some i => stpT n st bf i | none => ⟨0, 0⟩) := by
  have hp := plcs_len n h
  have hL := h.legs
  unfold spec_l4Step
  obtain ⟨y, h1, h2⟩ := loopM_up (body := spec_l4Step_L1 n (plcs n) bf (st : Int) (x : Int) due) n.Legs.length (fun i s => s = (i : Int) ∧ ∀ j, j < i → stpB n st bf x due j = false) (fun y => (y = .inl () ∧ stpI n st bf x due = none) ∨ ∃ i, stpI n st bf x due = some i ∧ y = .inr (stpT n st bf i)) (fun i s hi hs => by
    obtain ⟨rfl, hm⟩ := hs
    have hws := w64_succ (show i ≤ 1048576 by omega)
    obtain ⟨a1, a2⟩ := iA_spec hi
    have ha : gi bf (iA n i : Int) = some (g bf (iA n i)) := gi_g (by omega)
    have hgx : gi (plcs n) (x : Int) = some (plcs n)[x] := gi_nat hx
    have hB := stpB_eq (n := n) (st := st) (x := x) (due := due) (hb (iA n i))
    have next : stpB n st bf x due i = false → ∃ s' : Int, (some (Ctl.next (τ := Unit) (ρ := Trip) ((i + 1 : Nat) : Int)) : Option _) = some (.next s') ∧ s' = ((i + 1 : Nat) : Int) ∧ ∀ j, j < i + 1 → stpB n st bf x due j = false := fun hf => ⟨_, rfl, rfl, fun j hj => by
      by_cases hji : j = i
      · rw [hji]; exact hf
      · exact hm j (by omega)⟩
    have hr : spec_l4Ready n (g bf (iA n i)) (((iA n i : Nat) : Int) == (st : Int)) = some (rdyN n st i (g bf (iA n i))) := by
      unfold spec_l4Ready rdyN
      by_cases hs : iA n i = st
      · simp [hs]
      · have : (((iA n i : Nat) : Int) == (st : Int)) = false := by simp; omega
        simp [this, hs]
    show (∃ s', spec_l4Step_L1_b n (plcs n) bf (st : Int) (x : Int) due (i : Int) = some (.next s') ∧ _) ∨ (∃ t, spec_l4Step_L1_b n (plcs n) bf (st : Int) (x : Int) due (i : Int) = some (.brk t) ∧ _) ∨ (∃ r, spec_l4Step_L1_b n (plcs n) bf (st : Int) (x : Int) due (i : Int) = some (.ret r) ∧ _)
    unfold spec_l4Step_L1_b
    simp only [Int.ofNat_lt, hi, decide_true, cond_true, gi_nat hi, Option.bind_some, index_eq _ _ (show (plcs n).length ≤ 4000000 by omega), a1, ha, hgx, hws, to_eq hi hx]
    by_cases c1 : iB n i = x
    · by_cases c2 : g bf (iA n i) < 0
      · simp only [c1, c2, decide_true, Bool.not_true, cond_false, cond_true]
        exact .inl (next (by rw [hB]; simp [c2]))
      · simp only [c1, c2, decide_true, decide_false, Bool.not_true, cond_false, hr, Option.bind_some, spec_next_eq n h hn, spec_l4Step_j1, hws]
        cases hf : (List.range 61).find? (nxtB n i (rdyN n st i (g bf (iA n i)))) with
        | none => exact .inl (next (by rw [hB, hf]; simp))
        | some d =>
          obtain ⟨ht, _⟩ := nxt_trip hn hf
          have hd0 : decide ((d : Int) ≥ 0) = true := by simp
          simp only [hd0, cond_true, ends_eq ht, Option.bind_some]
          by_cases c3 : enT n ⟨(i : Int), (d : Int)⟩ = due
          · have hBt : stpB n st bf x due i = true := by rw [hB, hf]; simp [c1, c2, c3]
            have e : stpT n st bf i = ⟨(i : Int), (d : Int)⟩ := by unfold stpT dayN; rw [hf]
            refine .inr (.inr ⟨⟨(i : Int), (d : Int)⟩, by simp [c3], .inr ⟨i, find_first hi hBt hm, by rw [e]⟩⟩)
          · have c3' : (enT n ⟨(i : Int), (d : Int)⟩ == due) = false := by simp [c3]
            simp only [c3', cond_false]
            exact .inl (next (by rw [hB, hf]; simp [c3]))
    · simp only [c1, decide_false, Bool.not_false, cond_true]
      exact .inl (next (by rw [hB]; simp [c1]))) (fun s hs => by
    obtain ⟨rfl, hm⟩ := hs
    refine .inl ⟨(), ?_, .inl ⟨rfl, find_none hm⟩⟩
    show spec_l4Step_L1_b n (plcs n) bf (st : Int) (x : Int) due (n.Legs.length : Int) = _
    simp [spec_l4Step_L1_b]) (0 : Int) ⟨rfl, fun j hj => absurd hj (Nat.not_lt_zero j)⟩ (show n.Legs.length < 1000000000000 by omega)
  rw [h1]
  rcases h2 with ⟨rfl, e⟩ | ⟨i, e, rfl⟩
  · rw [e]; rfl
  · rw [e]; rfl
theorem implStep_eq {p0 : ByteArray} (hp0 : idxV (plcs n) p0 = (st : Int)) : impl_lastLeg_at1fn83 n n (plcs n) bf p0 (x : Int) due = some (match stpI n st bf x due with | some i => (stpT n st bf i, true) | none => (⟨0, 0⟩, false)) := by
  have hp := plcs_len n h
  have hL := h.legs
  unfold impl_lastLeg_at1fn83
  obtain ⟨y, h1, h2⟩ := loopM_up (body := impl_lastLeg_at1fn83_L1 n n (plcs n) bf p0 (x : Int) due) n.Legs.length (fun i s => s = (i : Int) ∧ ∀ j, j < i → stpB n st bf x due j = false) (fun y => (y = .inl () ∧ stpI n st bf x due = none) ∨ ∃ i, stpI n st bf x due = some i ∧ y = .inr (stpT n st bf i, true)) (fun i s hi hs => by
    obtain ⟨rfl, hm⟩ := hs
    have hws := w64_succ (show i ≤ 1048576 by omega)
    obtain ⟨a1, a2⟩ := iA_spec hi
    have ha : gi bf (iA n i : Int) = some (g bf (iA n i)) := gi_g (by omega)
    have hgx : gi (plcs n) (x : Int) = some (plcs n)[x] := gi_nat hx
    have hB := stpB_eq (n := n) (st := st) (x := x) (due := due) (hb (iA n i))
    have next : stpB n st bf x due i = false → ∃ s' : Int, (some (Ctl.next (τ := Unit) (ρ := Trip × Bool) ((i + 1 : Nat) : Int)) : Option _) = some (.next s') ∧ s' = ((i + 1 : Nat) : Int) ∧ ∀ j, j < i + 1 → stpB n st bf x due j = false := fun hf => ⟨_, rfl, rfl, fun j hj => by
      by_cases hji : j = i
      · rw [hji]; exact hf
      · exact hm j (by omega)⟩
    have hr : impl_readyAt n (g bf (iA n i)) (n.Legs[i].From.toList == p0.toList) = some (rdyN n st i (g bf (iA n i))) := by
      unfold impl_readyAt rdyN
      rw [bytes_eq_decide]
      by_cases hs : iA n i = st
      · have : n.Legs[i].From = p0 := idx_inj (by rw [a1, hs]) hp0
        simp [hs, this]
      · have : ¬ n.Legs[i].From = p0 := fun e => by rw [e, hp0] at a1; omega
        simp [hs, this]
    show (∃ s', impl_lastLeg_at1fn83_L1_b n n (plcs n) bf p0 (x : Int) due (i : Int) = some (.next s') ∧ _) ∨ (∃ t, impl_lastLeg_at1fn83_L1_b n n (plcs n) bf p0 (x : Int) due (i : Int) = some (.brk t) ∧ _) ∨ (∃ r, impl_lastLeg_at1fn83_L1_b n n (plcs n) bf p0 (x : Int) due (i : Int) = some (.ret r) ∧ _)
    unfold impl_lastLeg_at1fn83_L1_b
    simp only [Int.ofNat_lt, hi, decide_true, cond_true, gi_nat hi, Option.bind_some, placeAt_eq _ _ (show (plcs n).length ≤ 4000000 by omega), a1, ha, hgx, hws, to_eq hi hx]
    by_cases c1 : iB n i = x
    · by_cases c2 : g bf (iA n i) < 0
      · simp only [c1, c2, decide_true, Bool.not_true, cond_false, cond_true]
        exact .inl (next (by rw [hB]; simp [c2]))
      · simp only [c1, c2, decide_true, decide_false, Bool.not_true, cond_false, hr, Option.bind_some, impl_nextOf_c1, impl_next_eq n h hn, impl_lastLeg_at1fn83_j1, hws]
        cases hf : (List.range 61).find? (nxtB n i (rdyN n st i (g bf (iA n i)))) with
        | none => exact .inl (next (by rw [hB, hf]; simp))
        | some d =>
          obtain ⟨ht, _⟩ := nxt_trip hn hf
          simp only [cond_true, ends_eq' ht, Option.bind_some]
          by_cases c3 : enT n ⟨(i : Int), (d : Int)⟩ = due
          · have hBt : stpB n st bf x due i = true := by rw [hB, hf]; simp [c1, c2, c3]
            have e : stpT n st bf i = ⟨(i : Int), (d : Int)⟩ := by unfold stpT dayN; rw [hf]
            refine .inr (.inr ⟨(⟨(i : Int), (d : Int)⟩, true), by simp [c3], .inr ⟨i, find_first hi hBt hm, by rw [e]⟩⟩)
          · have c3' : (enT n ⟨(i : Int), (d : Int)⟩ == due) = false := by simp [c3]
            simp only [c3', cond_false]
            exact .inl (next (by rw [hB, hf]; simp [c3]))
    · simp only [c1, decide_false, Bool.not_false, cond_true]
      exact .inl (next (by rw [hB]; simp [c1]))) (fun s hs => by
    obtain ⟨rfl, hm⟩ := hs
    refine .inl ⟨(), ?_, .inl ⟨rfl, find_none hm⟩⟩
    show impl_lastLeg_at1fn83_L1_b n n (plcs n) bf p0 (x : Int) due (n.Legs.length : Int) = _
    simp [impl_lastLeg_at1fn83_L1_b]) (0 : Int) ⟨rfl, fun j hj => absurd hj (Nat.not_lt_zero j)⟩ (show n.Legs.length < 1000000000000 by omega)
  rw [h1]
  rcases h2 with ⟨rfl, e⟩ | ⟨i, e, rfl⟩
  · rw [e]; rfl
  · rw [e]; rfl
end
end Go.Sx
