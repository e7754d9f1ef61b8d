/- Rounds and sweeps: what holds along them, and that the end is closed under every leg. -/
import Derived.Test.YtnefegnodjaldaaSxY
namespace Go.Sx
set_option linter.unusedVariables false
namespace Relax
variable {A B : Nat → Nat} {arr : Nat → Int → Option Int} {m L st : Nat} {x0 : List Int}
theorem X_step (H : Ok B arr m L) (S : Start m x0 st) {k i : Nat} {e : Int} (hi : i < L) (h0 : 0 ≤ g (X A B arr L x0 k) (A i)) (ha : arr i (g (X A B arr L x0 k) (A i)) = some e) :
    0 ≤ g (X A B arr L x0 (k + 1)) (B i) ∧ g (X A B arr L x0 (k + 1)) (B i) ≤ e :=
  (inv H _ (X_len H S k) L (Nat.le_refl _)).all i hi e h0 ha
theorem X_ind (H : Ok B arr m L) (S : Start m x0 st) (P : Nat → Nat → Int → Prop) (h0 : P 0 st (g x0 st)) (hk : ∀ k v u, P k v u → P (k + 1) v u)
    (hs : ∀ k i u e, i < L → 0 ≤ u → P k (A i) u → arr i u = some e → P (k + 1) (B i) e) : ∀ k v, 0 ≤ g (X A B arr L x0 k) v → P k v (g (X A B arr L x0 k) v)
  | 0, v, h => by
    by_cases hv : v = st
    · subst hv; exact h0
    · have := S.other v hv
      have h : 0 ≤ g x0 v := h
      omega
  | k + 1, v, h => by
    rcases (inv H _ (X_len H S k) L (Nat.le_refl _)).from_ v with e | ⟨e1, e2, j, hj, hB, h3, h4⟩
    · have e : g (X A B arr L x0 (k + 1)) v = g (X A B arr L x0 k) v := e
      rw [e] at h ⊢
      exact hk _ _ _ (X_ind H S P h0 hk hs k v h)
    · have := hs k j _ _ hj h3 (X_ind H S P h0 hk hs k (A j) h3) h4
      rw [hB] at this
      exact this
theorem X_closed (H : Ok B arr m L) (S : Start m x0 st) {k i : Nat} {e : Int} (hk : m ≤ k + 1) (hi : i < L) (h0 : 0 ≤ g (X A B arr L x0 k) (A i)) (ha : arr i (g (X A B arr L x0 k) (A i)) = some e) :
    0 ≤ g (X A B arr L x0 k) (B i) ∧ g (X A B arr L x0 k) (B i) ≤ e := by
  have := X_step H S hi h0 ha
  rw [still H S hk] at this
  exact this
theorem X_start (H : Ok B arr m L) (S : Start m x0 st) : ∀ k, g (X A B arr L x0 k) st = g x0 st := by
  intro k
  have h1 := X_mono (A := A) H S 0 st S.pos k
  rw [Nat.zero_add] at h1
  have h2 := X_low (A := A) H S k st h1.1
  have h3 : g (X A B arr L x0 k) st ≤ g x0 st := h1.2
  omega
theorem X_end (H : Ok B arr m L) (S : Start m x0 st) {k : Nat} (hk : m ≤ k) : X A B arr L x0 k = X A B arr L x0 m := by
  obtain ⟨j, rfl⟩ := Nat.le.dest hk
  exact still_on H S (still H S (Nat.le_succ m)) j
end Relax
namespace Sweep
open Relax (g g_set)
variable {A B : Nat → Nat} {f : Nat → Int → Option Int} {m L x : Nat} {y0 : List Int}
theorem Y_ind (H : Ok A f m L x) (h0 : y0.length = m) (P : Nat → Int → Prop) (hx : P x (g y0 x)) (ho : ∀ v, v ≠ x → g y0 v < 0)
    (hs : ∀ i u s, i < L → A i ≠ x → 0 ≤ u → P (B i) u → f i u = some s → P (A i) s) : ∀ t v, 0 ≤ g (Y A B f x L y0 t) v → P v (g (Y A B f x L y0 t) v)
  | 0, v, h => by
    by_cases hv : v = x
    · subst hv; exact hx
    · have := ho v hv
      have h : 0 ≤ g y0 v := h
      omega
  | t + 1, v, h => by
    rcases step_at (B := B) H h0 t v with e | ⟨hv, hvx, hb, hf, hlt⟩
    · rw [e] at h ⊢
      exact Y_ind H h0 P hx ho hs t v h
    · have hi := Nat.mod_lt t H.pos
      have := hs (t % L) _ _ hi (hv ▸ hvx) hb (Y_ind H h0 P hx ho hs t _ hb) hf
      rw [← hv] at this
      exact this
theorem Y_on (H : Ok A f m L x) (h0 : y0.length = m) {t : Nat} (ht : m ≤ t / L + 1) : ∀ j, Y A B f x L y0 (t + j) = Y A B f x L y0 t
  | 0 => rfl
  | j + 1 => by
    have hle : t / L ≤ (t + j) / L := Nat.div_le_div_right (Nat.le_add_right _ _)
    have := still (B := B) H h0 (t := t + j) (by omega)
    exact this.trans (Y_on H h0 ht j)
theorem Y_closed (H : Ok A f m L x) (h0 : y0.length = m) {t i : Nat} {s : Int} (ht : m ≤ t / L + 1) (hi : i < L) (hA : A i ≠ x) (hb : 0 ≤ g (Y A B f x L y0 t) (B i)) (hf : f i (g (Y A B f x L y0 t) (B i)) = some s) :
    s ≤ g (Y A B f x L y0 t) (A i) := by
  have hL := H.pos
  have hm := Nat.mod_lt t hL
  have hj : (t + (L - t % L + i)) % L = i := by
    have : t + (L - t % L + i) = i + L * (t / L + 1) := by
      have := Nat.div_add_mod t L
      rw [Nat.mul_add, Nat.mul_one]
      omega
    rw [this, Nat.add_mul_mod_self_left, Nat.mod_eq_of_lt hi]
  have := did (B := B) H h0 (t + (L - t % L + i)) (s := s) (by rw [hj]; exact hA) (by rw [hj, Y_on H h0 ht]; exact hb) (by rw [hj, Y_on H h0 ht]; exact hf)
  rw [hj] at this
  have e := Y_on (B := B) H h0 ht (L - t % L + i + 1)
  rw [show t + (L - t % L + i) + 1 = t + (L - t % L + i + 1) by omega, e] at this
  exact this
end Sweep
end Go.Sx
