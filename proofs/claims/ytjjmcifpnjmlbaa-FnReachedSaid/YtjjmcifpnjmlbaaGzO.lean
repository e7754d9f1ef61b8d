/- The latest starts: the sweeps of the program, and the exact laws. -/
import Derived.Test.YtjjmcifpnjmlbaaGzN
namespace Go.Sx
open Relax (g g_set)
set_option linter.unusedVariables false

theorem impl_leg (n : Network) (h : NetS n) (hn : netB n = true) {x : Nat} (hx : x < (plcs n).length) (l : List Int) (hl : l.length = (plcs n).length) (hb : ∀ v, g l v ≤ 9223372036854775807) (by0 : Int) (hby : g l x = by0) (fl : Bool) (i : Nat) (hi : i < n.Legs.length) :
    impl_LatestStarts_L3 n by0 (plcs n) (x : Int) (l, fl, (i : Int)) = some (.next (Sweep.stp (iA n) (iB n) (lfN n x) x i l, fl || decide (Sweep.stp (iA n) (iB n) (lfN n x) x i l ≠ l), ((i + 1 : Nat) : Int))) := by
  have hp := plcs_len n h
  have hL := h.legs
  obtain ⟨a1, a2⟩ := iA_spec hi
  obtain ⟨b1, b2⟩ := iB_spec hi
  have ga : gi l (iA n i : Int) = some (g l (iA n i)) := gi_g (by omega)
  have gb : gi l (iB n i : Int) = some (g l (iB n i)) := gi_g (by omega)
  have hws := w64_succ (Nat.le_of_lt (Nat.lt_of_lt_of_le hi hL))
  show impl_LatestStarts_L3_b n by0 (plcs n) (x : Int) l fl (i : Int) = _
  unfold impl_LatestStarts_L3_b
  simp only [Int.ofNat_lt, hi, decide_true, cond_true, gi_nat hi, Option.bind_some, placeAt_eq _ _ (show (plcs n).length ≤ 4000000 by omega), a1, b1, gb, hws]
  have hxa : ((iA n i : Int) == (x : Int)) = decide (iA n i = x) := by
    by_cases e : iA n i = x
    · simp [e]
    · simp only [e, decide_false]; exact beq_eq_false_iff_ne.2 (by omega)
  have hxb : ((iB n i : Int) == (x : Int)) = decide (iB n i = x) := by
    by_cases e : iB n i = x
    · simp [e]
    · simp only [e, decide_false]; exact beq_eq_false_iff_ne.2 (by omega)
  rw [hxa, hxb]
  by_cases h0 : g l (iB n i) < 0
  · have hst : Sweep.stp (iA n) (iB n) (lfN n x) x i l = l := by unfold Sweep.stp; rw [if_pos (.inl h0)]
    simp [h0, hst]
  by_cases e : iA n i = x
  · have hst : Sweep.stp (iA n) (iB n) (lfN n x) x i l = l := by unfold Sweep.stp; rw [if_pos (.inr e)]
    simp [h0, e, hst]
  have key : ∀ due : Int, due = (if iB n i = x then g l (iB n i) else w64 (g l (iB n i) - n.Change)) → impl_LatestStarts_j1 n l fl (i : Int) (iA n i : Int) due = some (.next (Sweep.stp (iA n) (iB n) (lfN n x) x i l, fl || decide (Sweep.stp (iA n) (iB n) (lfN n x) x i l ≠ l), ((i + 1 : Nat) : Int))) := fun due hdue => by
    unfold impl_LatestStarts_j1 Sweep.stp
    simp only [impl_last_eq n h hn, Option.bind_some, ga, hws, h0, e, false_or, or_self, if_false, lfN, if_pos (hb (iB n i)), ← hdue]
    cases hf : days.find? (lasB n i due) with
    | none => simp
    | some d =>
      obtain ⟨ht, _⟩ := las_trip hn hf
      simp only [cond_true, starts_eq' ht, Option.bind_some, Int.toNat_natCast]
      by_cases hs : g l (iA n i) < stT n ⟨i, d⟩
      · have hne : l.set (iA n i) (stT n ⟨i, d⟩) ≠ l := fun e0 => by
          have := g_set (v := iA n i) (e := stT n ⟨i, d⟩) (show iA n i < l.length by omega)
          rw [e0, if_pos rfl] at this
          omega
        have hd : decide (stT n ⟨i, d⟩ > g l (iA n i)) = true := by simp [hs]
        simp only [hd, cond_true, if_pos hs, hne, ne_eq, not_false_eq_true, decide_true, Bool.or_true]
      · have hd : decide (stT n ⟨i, d⟩ > g l (iA n i)) = false := by simp; omega
        simp [hd, if_neg hs]
  by_cases eb : iB n i = x
  · have h0' : ¬ g l x < 0 := eb ▸ h0
    simp only [h0, h0', e, eb, decide_false, decide_true, cond_false, cond_true]
    exact key by0 (by rw [if_pos eb, eb, hby])
  · simp only [h0, e, eb, decide_false, cond_false]
    exact key _ (by rw [if_neg eb])
theorem g_ext {l l' : List Int} (hl : l.length = l'.length) (h : ∀ v, g l v = g l' v) : l = l' := by
  apply List.ext_getElem hl
  intro i h1 h2
  have := h i
  simpa [g, h1, h2] using this
section
variable {n : Network} {x : Nat} {y0 : List Int}
theorem Y_shift (k : Nat) : ∀ t, Sweep.Y (iA n) (iB n) (lfN n x) x n.Legs.length y0 (k * n.Legs.length + t) = Sweep.Y (iA n) (iB n) (lfN n x) x n.Legs.length (Sweep.Y (iA n) (iB n) (lfN n x) x n.Legs.length y0 (k * n.Legs.length)) t
  | 0 => rfl
  | t + 1 => by
    show Sweep.stp (iA n) (iB n) (lfN n x) x ((k * n.Legs.length + t) % n.Legs.length) _ = Sweep.stp (iA n) (iB n) (lfN n x) x (t % n.Legs.length) _
    have e : (k * n.Legs.length + t) % n.Legs.length = t % n.Legs.length := by rw [Nat.mul_comm, Nat.mul_add_mod]
    rw [e]
    exact congrArg _ (Y_shift k t)
theorem Y_const {k : Nat} (h : Sweep.Y (iA n) (iB n) (lfN n x) x n.Legs.length y0 ((k + 1) * n.Legs.length) = Sweep.Y (iA n) (iB n) (lfN n x) x n.Legs.length y0 (k * n.Legs.length)) : ∀ j, Sweep.Y (iA n) (iB n) (lfN n x) x n.Legs.length y0 ((k + j) * n.Legs.length) = Sweep.Y (iA n) (iB n) (lfN n x) x n.Legs.length y0 (k * n.Legs.length)
  | 0 => rfl
  | j + 1 => by
    have ih := Y_const h j
    rw [show (k + (j + 1)) * n.Legs.length = (k + j) * n.Legs.length + n.Legs.length by rw [← Nat.add_assoc, Nat.add_mul, Nat.one_mul], Y_shift, ih, ← Y_shift, show k * n.Legs.length + n.Legs.length = (k + 1) * n.Legs.length by rw [Nat.add_mul, Nat.one_mul]]
    exact h
end
theorem impl_sweep (n : Network) (h : NetS n) (hn : netB n = true) (hL : 0 < n.Legs.length) {x : Nat} (hx : x < (plcs n).length) {y0 : List Int} (h0 : y0.length = (plcs n).length) (hb : ∀ v, g y0 v ≤ 9223372036854775807) (k : Nat) :
    loopM (impl_LatestStarts_L3 n (g y0 x) (plcs n) (x : Int)) big (Sweep.Y (iA n) (iB n) (lfN n x) x n.Legs.length y0 (k * n.Legs.length), false, 0) = some (.inl (Sweep.Y (iA n) (iB n) (lfN n x) x n.Legs.length y0 ((k + 1) * n.Legs.length), decide (Sweep.Y (iA n) (iB n) (lfN n x) x n.Legs.length y0 ((k + 1) * n.Legs.length) ≠ Sweep.Y (iA n) (iB n) (lfN n x) x n.Legs.length y0 (k * n.Legs.length)))) := by
  have H := sweep_ok hn hL hx
  have := loop_go (body := impl_LatestStarts_L3 n (g y0 x) (plcs n) (x : Int)) n.Legs.length (fun i => (Sweep.Y (iA n) (iB n) (lfN n x) x n.Legs.length y0 (k * n.Legs.length + i), decide (Sweep.Y (iA n) (iB n) (lfN n x) x n.Legs.length y0 (k * n.Legs.length + i) ≠ Sweep.Y (iA n) (iB n) (lfN n x) x n.Legs.length y0 (k * n.Legs.length)), (i : Int))) (Sweep.Y (iA n) (iB n) (lfN n x) x n.Legs.length y0 ((k + 1) * n.Legs.length), decide (Sweep.Y (iA n) (iB n) (lfN n x) x n.Legs.length y0 ((k + 1) * n.Legs.length) ≠ Sweep.Y (iA n) (iB n) (lfN n x) x n.Legs.length y0 (k * n.Legs.length))) (big_pos h.legs) (fun i hi => by
    rw [impl_leg n h hn hx _ (Sweep.Y_len h0 _) (Y_big hn hL hx h0 hb _) (g y0 x) (Y_goal hn hL hx h0 _) _ i hi]
    have e : Sweep.Y (iA n) (iB n) (lfN n x) x n.Legs.length y0 (k * n.Legs.length + (i + 1)) = Sweep.stp (iA n) (iB n) (lfN n x) x i (Sweep.Y (iA n) (iB n) (lfN n x) x n.Legs.length y0 (k * n.Legs.length + i)) := by
      show Sweep.stp (iA n) (iB n) (lfN n x) x ((k * n.Legs.length + i) % n.Legs.length) _ = _
      rw [mul_mod hi]
      rfl
    rw [e]
    congr 4
    rw [Bool.eq_iff_iff]
    simp only [Bool.or_eq_true, decide_eq_true_eq, ← e]
    constructor
    · rintro (h1 | h1)
      · intro h2
        apply h1
        refine g_ext (by rw [Sweep.Y_len h0, Sweep.Y_len h0]) fun v => ?_
        have m1 := Sweep.mono (B := iB n) H h0 (k * n.Legs.length) v i
        have m2 := Sweep.mono1 (B := iB n) H h0 (k * n.Legs.length + i) v
        have m3 : Sweep.Y (iA n) (iB n) (lfN n x) x n.Legs.length y0 (k * n.Legs.length + i + 1) = _ := h2
        rw [m3] at m2
        omega
      · intro h2
        apply h1
        refine g_ext (by rw [Sweep.Y_len h0, Sweep.Y_len h0]) fun v => ?_
        have m1 := Sweep.mono (B := iB n) H h0 (k * n.Legs.length) v i
        rw [h2]
        have m2 := Sweep.mono1 (B := iB n) H h0 (k * n.Legs.length + i) v
        have m3 : Sweep.Y (iA n) (iB n) (lfN n x) x n.Legs.length y0 (k * n.Legs.length + i + 1) = _ := h2
        rw [m3] at m2
        omega
    · intro h1
      by_cases h2 : Sweep.Y (iA n) (iB n) (lfN n x) x n.Legs.length y0 (k * n.Legs.length + (i + 1)) = Sweep.Y (iA n) (iB n) (lfN n x) x n.Legs.length y0 (k * n.Legs.length + i)
      · rw [h2] at h1; exact .inl h1
      · exact .inr h2) (by
    rw [show (k + 1) * n.Legs.length = k * n.Legs.length + n.Legs.length by rw [Nat.add_mul, Nat.one_mul]]
    show impl_LatestStarts_L3_b n (g y0 x) (plcs n) (x : Int) _ _ _ = _
    simp [impl_LatestStarts_L3_b])
  simpa using this
theorem impl_sweeps (n : Network) (h : NetS n) (hn : netB n = true) (hL : 0 < n.Legs.length) {x : Nat} (hx : x < (plcs n).length) {y0 : List Int} (h0 : y0.length = (plcs n).length) (hb : ∀ v, g y0 v ≤ 9223372036854775807) :
    loopM (impl_LatestStarts_L2 n (g y0 x) (plcs n) (x : Int)) big (y0, true) = some (.inl (Sweep.Y (iA n) (iB n) (lfN n x) x n.Legs.length y0 ((plcs n).length * n.Legs.length))) := by
  have H := sweep_ok hn hL hx
  have hp := plcs_len n h
  have brk : ∀ l : List Int, impl_LatestStarts_L2 n (g y0 x) (plcs n) (x : Int) (l, false) = some (.brk l) := fun l => rfl
  have rest : Sweep.Y (iA n) (iB n) (lfN n x) x n.Legs.length y0 (((plcs n).length + 1) * n.Legs.length) = Sweep.Y (iA n) (iB n) (lfN n x) x n.Legs.length y0 ((plcs n).length * n.Legs.length) := by
    have key : ∀ j, Sweep.Y (iA n) (iB n) (lfN n x) x n.Legs.length y0 ((plcs n).length * n.Legs.length + j) = Sweep.Y (iA n) (iB n) (lfN n x) x n.Legs.length y0 ((plcs n).length * n.Legs.length) := fun j => by
      induction j with
      | zero => rfl
      | succ j ih =>
        have := Sweep.still (B := iB n) H h0 (t := (plcs n).length * n.Legs.length + j) (by
          have : (plcs n).length ≤ ((plcs n).length * n.Legs.length + j) / n.Legs.length := (Nat.le_div_iff_mul_le hL).2 (by omega)
          omega)
        exact this.trans ih
    rw [Nat.add_mul, Nat.one_mul]
    exact key _
  have go : ∀ k, impl_LatestStarts_L2 n (g y0 x) (plcs n) (x : Int) ((Sweep.Y (iA n) (iB n) (lfN n x) x n.Legs.length y0 (k * n.Legs.length)), true) = some (.next ((Sweep.Y (iA n) (iB n) (lfN n x) x n.Legs.length y0 ((k + 1) * n.Legs.length)), decide ((Sweep.Y (iA n) (iB n) (lfN n x) x n.Legs.length y0 ((k + 1) * n.Legs.length)) ≠ (Sweep.Y (iA n) (iB n) (lfN n x) x n.Legs.length y0 (k * n.Legs.length))))) := fun k => by
    show impl_LatestStarts_L2_b n (g y0 x) (plcs n) (x : Int) _ true = _
    unfold impl_LatestStarts_L2_b
    simp only [cond_true]
    rw [impl_sweep n h hn hL hx h0 hb k]
    rfl
  have fl : ∀ j, j ≤ (plcs n).length → (Sweep.Y (iA n) (iB n) (lfN n x) x n.Legs.length y0 ((j + 1) * n.Legs.length)) = (Sweep.Y (iA n) (iB n) (lfN n x) x n.Legs.length y0 (j * n.Legs.length)) → (Sweep.Y (iA n) (iB n) (lfN n x) x n.Legs.length y0 ((j + 1) * n.Legs.length)) = (Sweep.Y (iA n) (iB n) (lfN n x) x n.Legs.length y0 ((plcs n).length * n.Legs.length)) := fun j hj e => by
    have := Y_const e ((plcs n).length - j)
    rw [show j + ((plcs n).length - j) = (plcs n).length by omega] at this
    rw [e, this]
  obtain ⟨z, h1, h2⟩ := loopM_up (body := impl_LatestStarts_L2 n (g y0 x) (plcs n) (x : Int)) ((plcs n).length + 1) (fun k s => s = ((Sweep.Y (iA n) (iB n) (lfN n x) x n.Legs.length y0 (k * n.Legs.length)), match k with | 0 => true | j + 1 => decide ((Sweep.Y (iA n) (iB n) (lfN n x) x n.Legs.length y0 ((j + 1) * n.Legs.length)) ≠ (Sweep.Y (iA n) (iB n) (lfN n x) x n.Legs.length y0 (j * n.Legs.length))))) (fun z => z = .inl ((Sweep.Y (iA n) (iB n) (lfN n x) x n.Legs.length y0 ((plcs n).length * n.Legs.length)))) (fun k s hk hs => by
    subst hs
    match k, hk with
    | 0, _ => exact .inl ⟨_, go 0, rfl⟩
    | j + 1, hk =>
      by_cases e : (Sweep.Y (iA n) (iB n) (lfN n x) x n.Legs.length y0 ((j + 1) * n.Legs.length)) = (Sweep.Y (iA n) (iB n) (lfN n x) x n.Legs.length y0 (j * n.Legs.length))
      · have : decide ((Sweep.Y (iA n) (iB n) (lfN n x) x n.Legs.length y0 ((j + 1) * n.Legs.length)) ≠ (Sweep.Y (iA n) (iB n) (lfN n x) x n.Legs.length y0 (j * n.Legs.length))) = false := by simp [e]
        show _ ∨ (∃ t, impl_LatestStarts_L2 n (g y0 x) (plcs n) (x : Int) ((Sweep.Y (iA n) (iB n) (lfN n x) x n.Legs.length y0 ((j + 1) * n.Legs.length)), decide ((Sweep.Y (iA n) (iB n) (lfN n x) x n.Legs.length y0 ((j + 1) * n.Legs.length)) ≠ (Sweep.Y (iA n) (iB n) (lfN n x) x n.Legs.length y0 (j * n.Legs.length)))) = some (.brk t) ∧ _) ∨ _
        rw [this]
        exact .inr (.inl ⟨_, brk _, by rw [fl j (by omega) e]⟩)
      · have : decide ((Sweep.Y (iA n) (iB n) (lfN n x) x n.Legs.length y0 ((j + 1) * n.Legs.length)) ≠ (Sweep.Y (iA n) (iB n) (lfN n x) x n.Legs.length y0 (j * n.Legs.length))) = true := by simp [e]
        show (∃ s', impl_LatestStarts_L2 n (g y0 x) (plcs n) (x : Int) ((Sweep.Y (iA n) (iB n) (lfN n x) x n.Legs.length y0 ((j + 1) * n.Legs.length)), decide ((Sweep.Y (iA n) (iB n) (lfN n x) x n.Legs.length y0 ((j + 1) * n.Legs.length)) ≠ (Sweep.Y (iA n) (iB n) (lfN n x) x n.Legs.length y0 (j * n.Legs.length)))) = some (.next s') ∧ _) ∨ _
        rw [this]
        exact .inl ⟨_, go (j + 1), rfl⟩) (fun s hs => by
    subst hs
    have : decide ((Sweep.Y (iA n) (iB n) (lfN n x) x n.Legs.length y0 (((plcs n).length + 1) * n.Legs.length)) ≠ (Sweep.Y (iA n) (iB n) (lfN n x) x n.Legs.length y0 ((plcs n).length * n.Legs.length))) = false := by simp [rest]
    show (∃ t, impl_LatestStarts_L2 n (g y0 x) (plcs n) (x : Int) ((Sweep.Y (iA n) (iB n) (lfN n x) x n.Legs.length y0 (((plcs n).length + 1) * n.Legs.length)), decide ((Sweep.Y (iA n) (iB n) (lfN n x) x n.Legs.length y0 (((plcs n).length + 1) * n.Legs.length)) ≠ (Sweep.Y (iA n) (iB n) (lfN n x) x n.Legs.length y0 ((plcs n).length * n.Legs.length)))) = some (.brk t) ∧ _) ∨ _
    rw [this]
    exact .inl ⟨_, brk _, by rw [rest]⟩) (y0, true) (by simp [Sweep.Y]) (show (plcs n).length + 1 < 1000000000000 by omega)
  rw [h1, h2]
end Go.Sx
