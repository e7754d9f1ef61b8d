/- Rounds of relaxation: after as many rounds as there are places nothing turns any more. -/
import Derived.Test.YtnefegnodjaldaaSxV
namespace Go.Sx
set_option linter.unusedVariables false
namespace Relax

def g (l : List Int) (v : Nat) : Int := l[v]?.getD (-1)
theorem g_set {l : List Int} {b v : Nat} {e : Int} (hb : b < l.length) : g (l.set b e) v = if v = b then e else g l v := by
  unfold g
  by_cases h : v = b
  · subst h; simp [hb]
  · rw [List.getElem?_set_ne (Ne.symm h), if_neg h]
variable (A B : Nat → Nat) (arr : Nat → Int → Option Int)
/-- one leg of a round -/
def stp (old : List Int) (i : Nat) (s : List Int × Bool) : List Int × Bool :=
  if g old (A i) < 0 then s else match arr i (g old (A i)) with
    | none => s
    | some e => if g s.1 (B i) < 0 ∨ e < g s.1 (B i) then (s.1.set (B i) e, true) else s
def rndI (old : List Int) : Nat → List Int × Bool
  | 0 => (old, false)
  | i + 1 => stp A B arr old i (rndI old i)
structure Ok (m L : Nat) : Prop where
  to : ∀ i, i < L → B i < m
  up : ∀ i x e, i < L → 0 ≤ x → arr i x = some e → x < e
variable {A B arr} {m L : Nat}
structure Inv (A B : Nat → Nat) (arr : Nat → Int → Option Int) (m : Nat) (old : List Int) (i : Nat) (s : List Int × Bool) : Prop where
  len : s.1.length = m
  from_ : ∀ v, g s.1 v = g old v ∨ (0 ≤ g s.1 v ∧ (g old v < 0 ∨ g s.1 v < g old v) ∧ ∃ j, j < i ∧ B j = v ∧ 0 ≤ g old (A j) ∧ arr j (g old (A j)) = some (g s.1 v))
  all : ∀ j, j < i → ∀ e, 0 ≤ g old (A j) → arr j (g old (A j)) = some e → 0 ≤ g s.1 (B j) ∧ g s.1 (B j) ≤ e
  no : s.2 = false → s.1 = old
  yes : s.2 = true → ∃ v, v < m ∧ g s.1 v ≠ g old v
theorem inv (H : Ok B arr m L) (old : List Int) (hl : old.length = m) : ∀ i, i ≤ L → Inv A B arr m old i (rndI A B arr old i)
  | 0, _ => ⟨hl, fun v => .inl rfl, fun j hj => absurd hj (Nat.not_lt_zero _), fun _ => rfl, fun h => by cases h⟩
  | i + 1, hi => by
    have I := inv H old hl i (by omega)
    have hB := H.to i (by omega)
    show Inv A B arr m old (i + 1) (stp A B arr old i (rndI A B arr old i))
    generalize rndI A B arr old i = s at I
    have stay : (∀ e, 0 ≤ g old (A i) → arr i (g old (A i)) = some e → 0 ≤ g s.1 (B i) ∧ g s.1 (B i) ≤ e) → Inv A B arr m old (i + 1) s := fun h => by
      refine ⟨I.len, fun v => ?_, fun j hj e h0 he => ?_, I.no, I.yes⟩
      · rcases I.from_ v with h1 | ⟨h1, h2, j, hj, h3⟩
        · exact .inl h1
        · exact .inr ⟨h1, h2, j, by omega, h3⟩
      · by_cases hji : j = i
        · subst hji; exact h e h0 he
        · exact I.all j (by omega) e h0 he
    unfold stp
    by_cases h0 : g old (A i) < 0
    · rw [if_pos h0]
      exact stay fun e h _ => by omega
    · rw [if_neg h0]
      cases he : arr i (g old (A i)) with
      | none => exact stay fun e _ h => by rw [he] at h; cases h
      | some e =>
        have hup := H.up i _ e (by omega) (by omega) he
        by_cases hc : g s.1 (B i) < 0 ∨ e < g s.1 (B i)
        · simp only [if_pos hc]
          have hgs : ∀ v, g (s.1.set (B i) e) v = if v = B i then e else g s.1 v := fun v => g_set (by rw [I.len]; exact hB)
          have better : g old (B i) < 0 ∨ e < g old (B i) := by
            rcases I.from_ (B i) with h1 | ⟨h1, h2, _⟩
            · rw [← h1]; exact hc
            · rcases hc with hc | hc
              · omega
              · rcases h2 with h2 | h2
                · exact .inl h2
                · exact .inr (by omega)
          refine ⟨by simp [I.len], fun v => ?_, fun j hj e' h1 h2 => ?_, (fun h => by cases h), fun _ => ⟨B i, hB, ?_⟩⟩
          · simp only [hgs]
            by_cases hv : v = B i
            · subst hv
              rw [if_pos rfl]
              exact .inr ⟨by omega, better, i, by omega, rfl, by omega, he⟩
            · rw [if_neg hv]
              rcases I.from_ v with h1 | ⟨h1, h2, j, hj, h3⟩
              · exact .inl h1
              · exact .inr ⟨h1, h2, j, by omega, h3⟩
          · simp only [hgs]
            by_cases hji : j = i
            · subst hji
              rw [he] at h2
              injection h2 with h2
              subst h2
              rw [if_pos rfl]
              exact ⟨by omega, Int.le_refl _⟩
            · have := I.all j (by omega) e' h1 h2
              by_cases hv : B j = B i
              · rw [if_pos hv]
                rw [hv] at this
                omega
              · rw [if_neg hv]; exact this
          · show g (s.1.set (B i) e) (B i) ≠ g old (B i)
            rw [hgs, if_pos rfl]
            omega
        · simp only [if_neg hc]
          exact stay fun e' _ h2 => by
            rw [he] at h2
            injection h2 with h2
            subst h2
            omega
/-- the state after k rounds -/
def X (A B : Nat → Nat) (arr : Nat → Int → Option Int) (L : Nat) (x0 : List Int) : Nat → List Int
  | 0 => x0
  | k + 1 => (rndI A B arr (X A B arr L x0 k) L).1
structure Start (m : Nat) (x0 : List Int) (st : Nat) : Prop where
  len : x0.length = m
  lt : st < m
  pos : 0 ≤ g x0 st
  other : ∀ v, v ≠ st → g x0 v < 0
variable {x0 : List Int} {st : Nat}
theorem X_len (H : Ok B arr m L) (S : Start m x0 st) : ∀ k, (X A B arr L x0 k).length = m
  | 0 => S.len
  | k + 1 => (inv H _ (X_len H S k) L (Nat.le_refl _)).len
theorem X_mono (H : Ok B arr m L) (S : Start m x0 st) (k v : Nat) (h : 0 ≤ g (X A B arr L x0 k) v) : ∀ j, 0 ≤ g (X A B arr L x0 (k + j)) v ∧ g (X A B arr L x0 (k + j)) v ≤ g (X A B arr L x0 k) v
  | 0 => ⟨h, Int.le_refl _⟩
  | j + 1 => by
    obtain ⟨h1, h2⟩ := X_mono H S k v h j
    rcases (inv H _ (X_len H S (k + j)) L (Nat.le_refl _)).from_ v with e | ⟨e1, e2, _⟩
    · have e : g (X A B arr L x0 (k + (j + 1))) v = g (X A B arr L x0 (k + j)) v := e
      rw [e]; exact ⟨h1, h2⟩
    · have e1 : 0 ≤ g (X A B arr L x0 (k + (j + 1))) v := e1
      have e2 : g (X A B arr L x0 (k + j)) v < 0 ∨ g (X A B arr L x0 (k + (j + 1))) v < g (X A B arr L x0 (k + j)) v := e2
      omega
theorem X_low (H : Ok B arr m L) (S : Start m x0 st) : ∀ k v, 0 ≤ g (X A B arr L x0 k) v → g x0 st ≤ g (X A B arr L x0 k) v
  | 0, v, h => by
    by_cases hv : v = st
    · subst hv; exact Int.le_refl _
    · have := S.other v hv
      have h : 0 ≤ g x0 v := h
      omega
  | k + 1, v, h => by
    rcases (inv H _ (X_len H S k) L (Nat.le_refl _)).from_ v with e | ⟨e1, e2, j, hj, _, h3, h4⟩
    · have e : g (X A B arr L x0 (k + 1)) v = g (X A B arr L x0 k) v := e
      rw [e] at h ⊢
      exact X_low H S k v h
    · have := X_low H S k (A j) h3
      have := H.up j _ _ hj h3 h4
      have : g (X A B arr L x0 k) (A j) < g (X A B arr L x0 (k + 1)) v := this
      omega
/-- WHO GAINS IN ROUND k + 1 HAS A CHAIN OF k + 1 PLACES BEHIND IT -/
theorem chain (H : Ok B arr m L) (S : Start m x0 st) : ∀ k v, v < m → g (X A B arr L x0 (k + 1)) v ≠ g (X A B arr L x0 k) v →
    ∃ l : List Nat, l.length = k + 1 ∧ l.Nodup ∧ st ∉ l ∧ (∀ u ∈ l, u < m) ∧ ∀ u ∈ l, ∃ j, j ≤ k + 1 ∧ 0 ≤ g (X A B arr L x0 j) u ∧ g (X A B arr L x0 j) u ≤ g (X A B arr L x0 (k + 1)) v := by
  intro k
  induction k with
  | zero =>
    intro v hv hne
    rcases (inv H _ (X_len H S 0) L (Nat.le_refl _)).from_ v with e | ⟨e1, e2, j, hj, _, h3, h4⟩
    · exact absurd e hne
    · have hup := H.up j _ _ hj h3 h4
      have hlow := X_low H S 0 (A j) h3
      have hst : st ≠ v := fun e => by
        subst e
        have := (X_mono (A := A) (B := B) (arr := arr) H S 0 st S.pos 1).2
        have e5 : g (X A B arr L x0 0) (A j) < g (X A B arr L x0 (0 + 1)) st := hup
        have e6 : g x0 st ≤ g (X A B arr L x0 0) (A j) := hlow
        have e7 : g (X A B arr L x0 (0 + 1)) st ≤ g x0 st := this
        omega
      refine ⟨[v], rfl, by simp, by simpa using hst, by simpa using hv, fun u hu => ?_⟩
      simp at hu; subst hu
      exact ⟨1, by omega, e1, Int.le_refl _⟩
  | succ k ih =>
    intro v hv hne
    rcases (inv H _ (X_len H S (k + 1)) L (Nat.le_refl _)).from_ v with e | ⟨e1, e2, j, hj, hBj, h3, h4⟩
    · exact absurd e hne
    · have e1 : 0 ≤ g (X A B arr L x0 (k + 1 + 1)) v := e1
      have e2 : g (X A B arr L x0 (k + 1)) v < 0 ∨ g (X A B arr L x0 (k + 1 + 1)) v < g (X A B arr L x0 (k + 1)) v := e2
      have h4 : arr j (g (X A B arr L x0 (k + 1)) (A j)) = some (g (X A B arr L x0 (k + 1 + 1)) v) := h4
      have hup := H.up j _ _ hj h3 h4
      have hA : A j < m := by
        apply Classical.byContradiction
        intro hn
        have : g (X A B arr L x0 (k + 1)) (A j) = -1 := by
          unfold g
          rw [List.getElem?_eq_none (by rw [X_len H S]; omega)]; rfl
        omega
      have hgain : g (X A B arr L x0 (k + 1)) (A j) ≠ g (X A B arr L x0 k) (A j) := fun e => by
        rw [e] at h3 h4
        have := (inv H _ (X_len H S k) L (Nat.le_refl _)).all j hj _ h3 h4
        rw [hBj] at this
        have t1 : 0 ≤ g (X A B arr L x0 (k + 1)) v := this.1
        have t2 : g (X A B arr L x0 (k + 1)) v ≤ g (X A B arr L x0 (k + 1 + 1)) v := this.2
        omega
      obtain ⟨l, l1, l2, l3, l4, l5⟩ := ih (A j) hA hgain
      have hlow := X_low H S (k + 1) (A j) h3
      have hst : st ≠ v := fun e => by
        subst e
        have e7 := (X_mono (A := A) (B := B) (arr := arr) H S 0 st S.pos (k + 1 + 1)).2
        rw [Nat.zero_add] at e7
        have e7 : g (X A B arr L x0 (k + 1 + 1)) st ≤ g x0 st := e7
        omega
      have hnew : v ∉ l := fun hm => by
        obtain ⟨i, i1, i2, i3⟩ := l5 v hm
        have := (X_mono H S i v i2 (k + 1 + 1 - i)).2
        rw [show i + (k + 1 + 1 - i) = k + 1 + 1 by omega] at this
        omega
      refine ⟨v :: l, by simp [l1], List.nodup_cons.2 ⟨hnew, l2⟩, by simp [hst, l3], fun u hu => ?_, fun u hu => ?_⟩
      · rcases List.mem_cons.1 hu with rfl | hu
        · exact hv
        · exact l4 u hu
      · rcases List.mem_cons.1 hu with rfl | hu
        · exact ⟨k + 1 + 1, by omega, e1, Int.le_refl _⟩
        · obtain ⟨i, i1, i2, i3⟩ := l5 u hu
          exact ⟨i, by omega, i2, by omega⟩
theorem nodup_le : ∀ {m : Nat} {l : List Nat}, l.Nodup → (∀ u ∈ l, u < m) → l.length ≤ m
  | 0, [], _, _ => Nat.le_refl _
  | 0, a :: l, _, h => absurd (h a (by simp)) (Nat.not_lt_zero _)
  | m + 1, l, hn, h => by
    have := nodup_le (m := m) (l := l.erase m) (hn.erase m) (fun u hu => by
      have h1 := h u (List.mem_of_mem_erase hu)
      have h2 : u ≠ m := ((List.Nodup.mem_erase_iff hn).1 hu).1
      omega)
    rw [List.length_erase] at this
    split at this <;> omega
/-- AFTER m - 1 ROUNDS NOTHING TURNS -/
theorem still (H : Ok B arr m L) (S : Start m x0 st) {k : Nat} (hk : m ≤ k + 1) : X A B arr L x0 (k + 1) = X A B arr L x0 k := by
  apply List.ext_getElem?
  intro v
  by_cases hv : v < m
  · have : g (X A B arr L x0 (k + 1)) v = g (X A B arr L x0 k) v := by
      apply Classical.byContradiction
      intro hne
      obtain ⟨l, l1, l2, l3, l4, _⟩ := chain H S k v hv hne
      have := nodup_le (m := m) (l := st :: l) (List.nodup_cons.2 ⟨l3, l2⟩) (fun u hu => by
        rcases List.mem_cons.1 hu with rfl | hu
        · exact S.lt
        · exact l4 u hu)
      simp [l1] at this
      omega
    have h1 : v < (X A B arr L x0 (k + 1)).length := by rw [X_len H S]; exact hv
    have h2 : v < (X A B arr L x0 k).length := by rw [X_len H S]; exact hv
    simp only [g, List.getElem?_eq_getElem h1, List.getElem?_eq_getElem h2, Option.getD_some] at this
    rw [List.getElem?_eq_getElem h1, List.getElem?_eq_getElem h2, this]
  · rw [List.getElem?_eq_none (by rw [X_len H S]; omega), List.getElem?_eq_none (by rw [X_len H S]; omega)]
theorem still_on (H : Ok B arr m L) (S : Start m x0 st) {k : Nat} (h : X A B arr L x0 (k + 1) = X A B arr L x0 k) : ∀ j, X A B arr L x0 (k + j) = X A B arr L x0 k
  | 0 => rfl
  | j + 1 => by
    have ih := still_on H S h j
    show (rndI A B arr (X A B arr L x0 (k + j)) L).1 = _
    rw [ih]
    exact h
end Relax
end Go.Sx
