/- Sweeps that write in place: after as many sweeps as there are places nothing turns any more. -/
import Derived.Test.YtnefegnodjaldaaSxW
namespace Go.Sx
set_option linter.unusedVariables false
namespace Sweep
open Relax (g g_set nodup_le)

/-- one leg of a sweep -/
def stp (A B : Nat → Nat) (f : Nat → Int → Option Int) (x : Nat) (i : Nat) (l : List Int) : List Int :=
  if g l (B i) < 0 ∨ A i = x then l else match f i (g l (B i)) with
    | none => l
    | some s => if g l (A i) < s then l.set (A i) s else l
def Y (A B : Nat → Nat) (f : Nat → Int → Option Int) (x L : Nat) (y0 : List Int) : Nat → List Int
  | 0 => y0
  | t + 1 => stp A B f x (t % L) (Y A B f x L y0 t)
structure Ok (A : Nat → Nat) (f : Nat → Int → Option Int) (m L x : Nat) : Prop where
  pos : 0 < L
  to : ∀ i, i < L → A i < m
  down : ∀ i v s, i < L → 0 ≤ v → f i v = some s → s < v
  goal : x < m
variable {A B : Nat → Nat} {f : Nat → Int → Option Int} {m L x : Nat} {y0 : List Int}
theorem Y_len (h0 : y0.length = m) : ∀ t, (Y A B f x L y0 t).length = m
  | 0 => h0
  | t + 1 => by
    have ih := Y_len h0 t
    show (stp A B f x (t % L) (Y A B f x L y0 t)).length = m
    unfold stp
    split
    · exact ih
    · split
      · exact ih
      · split
        · simp [ih]
        · exact ih
/-- what one step does at a place -/
theorem step_at (H : Ok A f m L x) (h0 : y0.length = m) (t v : Nat) : g (Y A B f x L y0 (t + 1)) v = g (Y A B f x L y0 t) v ∨
    (v = A (t % L) ∧ v ≠ x ∧ 0 ≤ g (Y A B f x L y0 t) (B (t % L)) ∧ f (t % L) (g (Y A B f x L y0 t) (B (t % L))) = some (g (Y A B f x L y0 (t + 1)) v) ∧ g (Y A B f x L y0 t) v < g (Y A B f x L y0 (t + 1)) v) := by
  have hl := Y_len (A := A) (B := B) (f := f) (x := x) (L := L) h0 t
  have hA := H.to (t % L) (Nat.mod_lt _ H.pos)
  show g (stp A B f x (t % L) (Y A B f x L y0 t)) v = _ ∨ (_ ∧ _ ∧ _ ∧ f (t % L) (g (Y A B f x L y0 t) (B (t % L))) = some (g (stp A B f x (t % L) (Y A B f x L y0 t)) v) ∧ _ < g (stp A B f x (t % L) (Y A B f x L y0 t)) v)
  generalize Y A B f x L y0 t = l at *
  unfold stp
  by_cases hc : g l (B (t % L)) < 0 ∨ A (t % L) = x
  · rw [if_pos hc]; exact .inl rfl
  · rw [if_neg hc]
    cases hf : f (t % L) (g l (B (t % L))) with
    | none => exact .inl rfl
    | some s =>
      by_cases hs : g l (A (t % L)) < s
      · simp only [if_pos hs]
        have hg := g_set (v := v) (e := s) (show A (t % L) < l.length by omega)
        by_cases hv : v = A (t % L)
        · rw [if_pos hv] at hg
          rw [hg]
          refine .inr ⟨hv, fun e => hc (.inr (hv ▸ e)), by omega, rfl, by rw [hv]; exact hs⟩
        · rw [if_neg hv] at hg
          exact .inl hg
      · simp only [if_neg hs]; exact .inl trivial
theorem mono1 (H : Ok A f m L x) (h0 : y0.length = m) (t v : Nat) : g (Y A B f x L y0 t) v ≤ g (Y A B f x L y0 (t + 1)) v := by
  rcases step_at (B := B) H h0 t v with e | ⟨_, _, _, _, e⟩
  · rw [e]; exact Int.le_refl _
  · omega
theorem mono (H : Ok A f m L x) (h0 : y0.length = m) (t v : Nat) : ∀ j, g (Y A B f x L y0 t) v ≤ g (Y A B f x L y0 (t + j)) v
  | 0 => Int.le_refl _
  | j + 1 => Int.le_trans (mono H h0 t v j) (mono1 H h0 (t + j) v)
theorem did (H : Ok A f m L x) (h0 : y0.length = m) (t : Nat) {s : Int} (hx : A (t % L) ≠ x) (hb : 0 ≤ g (Y A B f x L y0 t) (B (t % L))) (hf : f (t % L) (g (Y A B f x L y0 t) (B (t % L))) = some s) : s ≤ g (Y A B f x L y0 (t + 1)) (A (t % L)) := by
  have hl := Y_len (A := A) (B := B) (f := f) (x := x) (L := L) h0 t
  have hA := H.to (t % L) (Nat.mod_lt _ H.pos)
  show s ≤ g (stp A B f x (t % L) (Y A B f x L y0 t)) (A (t % L))
  generalize Y A B f x L y0 t = l at *
  unfold stp
  rw [if_neg (by intro h; rcases h with h | h; omega; exact hx h), hf]
  by_cases hs : g l (A (t % L)) < s
  · simp only [if_pos hs]
    rw [g_set (show A (t % L) < l.length by omega), if_pos rfl]
    exact Int.le_refl _
  · simp only [if_neg hs]; omega
theorem last_change (v t : Nat) : ∀ d, g (Y A B f x L y0 (t + d)) v ≠ g (Y A B f x L y0 t) v → ∃ σ, t ≤ σ ∧ σ < t + d ∧ g (Y A B f x L y0 (σ + 1)) v ≠ g (Y A B f x L y0 σ) v ∧ g (Y A B f x L y0 (σ + 1)) v = g (Y A B f x L y0 (t + d)) v
  | 0, h => absurd rfl h
  | d + 1, h => by
    by_cases hc : g (Y A B f x L y0 (t + (d + 1))) v = g (Y A B f x L y0 (t + d)) v
    · rw [hc] at h
      obtain ⟨σ, h1, h2, h3, h4⟩ := last_change v t d h
      exact ⟨σ, h1, by omega, h3, by rw [hc]; exact h4⟩
    · exact ⟨t + d, by omega, by omega, hc, rfl⟩
theorem chain (H : Ok A f m L x) (h0 : y0.length = m) : ∀ t v, g (Y A B f x L y0 (t + 1)) v ≠ g (Y A B f x L y0 t) v →
    ∃ l : List Nat, t / L + 1 ≤ l.length ∧ l.Nodup ∧ x ∉ l ∧ (∀ u ∈ l, u < m) ∧ ∀ u ∈ l, ∃ ρ, ρ ≤ t + 1 ∧ g (Y A B f x L y0 (t + 1)) v ≤ g (Y A B f x L y0 ρ) u := by
  intro t
  induction t using Nat.strongRecOn with
  | ind t ih =>
    intro v hne
    obtain ⟨hv, hvx, hb, hf, hlt⟩ := (step_at (B := B) H h0 t v).resolve_left hne
    have hvm : v < m := by rw [hv]; exact H.to _ (Nat.mod_lt _ H.pos)
    have hdown := H.down _ _ _ (Nat.mod_lt _ H.pos) hb hf
    by_cases htL : t < L
    · refine ⟨[v], by rw [Nat.div_eq_of_lt htL]; simp, by simp, by simpa using Ne.symm hvx, by simpa using hvm, fun u hu => ?_⟩
      simp at hu; subst hu
      exact ⟨t + 1, Nat.le_refl _, Int.le_refl _⟩
    · have hmod : (t - L) % L = t % L := by rw [← Nat.mod_eq_sub_mod (by omega)]
      have hchg : g (Y A B f x L y0 (t - L + L)) (B (t % L)) ≠ g (Y A B f x L y0 (t - L)) (B (t % L)) := fun e => by
        rw [show t - L + L = t by omega] at e
        have hb' := hb
        have hf' := hf
        rw [e] at hb' hf'
        have := did (B := B) H h0 (t - L) (s := g (Y A B f x L y0 (t + 1)) v) (by rw [hmod, ← hv]; exact hvx) (by rw [hmod]; exact hb') (by rw [hmod]; exact hf')
        rw [hmod, ← hv] at this
        have h2 := mono (B := B) H h0 (t - L + 1) v (L - 1)
        rw [show t - L + 1 + (L - 1) = t by have := H.pos; omega] at h2
        omega
      obtain ⟨σ, s1, s2, s3, s4⟩ := last_change (B (t % L)) (t - L) L hchg
      rw [show t - L + L = t by omega] at s2 s4
      obtain ⟨l, l1, l2, l3, l4, l5⟩ := ih σ s2 _ s3
      rw [s4] at l5
      have hdiv : t / L ≤ σ / L + 1 := by
        have h1 : (t - L) / L ≤ σ / L := Nat.div_le_div_right s1
        have h2 := Nat.div_eq_sub_div H.pos (show L ≤ t by omega)
        omega
      have hnew : v ∉ l := fun hm => by
        obtain ⟨ρ, r1, r2⟩ := l5 v hm
        have := mono (B := B) H h0 ρ v (t + 1 - ρ)
        rw [show ρ + (t + 1 - ρ) = t + 1 by omega] at this
        omega
      refine ⟨v :: l, by simp; omega, List.nodup_cons.2 ⟨hnew, l2⟩, by simp [Ne.symm hvx, l3], fun u hu => ?_, fun u hu => ?_⟩
      · rcases List.mem_cons.1 hu with rfl | hu
        · exact hvm
        · exact l4 u hu
      · rcases List.mem_cons.1 hu with rfl | hu
        · exact ⟨t + 1, Nat.le_refl _, Int.le_refl _⟩
        · obtain ⟨ρ, r1, r2⟩ := l5 u hu
          exact ⟨ρ, by omega, by omega⟩
theorem still (H : Ok A f m L x) (h0 : y0.length = m) {t : Nat} (ht : m ≤ t / L + 1) : Y A B f x L y0 (t + 1) = Y A B f x L y0 t := by
  apply List.ext_getElem?
  intro v
  have hl1 := Y_len (A := A) (B := B) (f := f) (x := x) (L := L) h0 (t + 1)
  have hl2 := Y_len (A := A) (B := B) (f := f) (x := x) (L := L) h0 t
  by_cases hv : v < m
  · have : g (Y A B f x L y0 (t + 1)) v = g (Y A B f x L y0 t) v := by
      apply Classical.byContradiction
      intro hne
      obtain ⟨l, l1, l2, l3, l4, _⟩ := chain H h0 t v hne
      have := nodup_le (m := m) (l := x :: l) (List.nodup_cons.2 ⟨l3, l2⟩) (fun u hu => by
        rcases List.mem_cons.1 hu with rfl | hu
        · exact H.goal
        · exact l4 u hu)
      simp at this
      omega
    have h1 : v < (Y A B f x L y0 (t + 1)).length := by omega
    have h2 : v < (Y A B f x L y0 t).length := by omega
    simp only [g, List.getElem?_eq_getElem h1, List.getElem?_eq_getElem h2, Option.getD_some] at this
    rw [List.getElem?_eq_getElem h1, List.getElem?_eq_getElem h2, this]
  · rw [List.getElem?_eq_none (by omega), List.getElem?_eq_none (by omega)]
end Sweep
end Go.Sx
