/- Plain laws about loops and rows: no program in sight. -/
import Derived.Test.YtpgpgangmkjhlaaSxP
namespace Go.Sx
set_option linter.unusedVariables false

theorem w64_id {x : Int} (h1 : -9223372036854775808 ≤ x) (h2 : x ≤ 9223372036854775807) : w64 x = x := by
  have hb : IntKind.i64.bits = 64 := rfl
  have hs : IntKind.i64.signed = true := rfl
  simp only [w64, IntKind.wrap, hb, hs, Bool.true_and, decide_eq_true_eq]
  split <;> omega

theorem gi_eq {α : Type} {l : List α} {i : Int} (h0 : 0 ≤ i) (h1 : i < l.length) : gi l i = some (l[i.toNat]'(by omega)) := by
  unfold gi
  rw [if_pos h0, List.getElem?_eq_getElem]
theorem gi_nat {α : Type} {l : List α} {i : Nat} (h1 : i < l.length) : gi l (i : Int) = some l[i] := by
  rw [gi_eq (by omega) (by omega)]; simp

/-- A loop ends, and where it ends Q holds: I holds of each state, and m falls. -/
theorem loopM_tot {σ τ ρ : Type} {body : σ → Option (Ctl σ τ ρ)} (I : σ → Prop) (m : σ → Nat) (Q : τ ⊕ ρ → Prop)
    (h : ∀ s, I s → (∃ s', body s = some (.next s') ∧ I s' ∧ m s' < m s) ∨ (∃ t, body s = some (.brk t) ∧ Q (.inl t)) ∨ (∃ r, body s = some (.ret r) ∧ Q (.inr r))) :
    ∀ (n : Nat) (s : σ), I s → m s < n → ∃ x, loopM body n s = some x ∧ Q x
  | 0, s, _, hn => absurd hn (Nat.not_lt_zero _)
  | n + 1, s, hI, hn => by
    rcases h s hI with ⟨s', e, hI', hm⟩ | ⟨t, e, hq⟩ | ⟨r, e, hq⟩
    · obtain ⟨x, hx, hq⟩ := loopM_tot I m Q h n s' hI' (by omega)
      exact ⟨x, by rw [loopM, e]; exact hx, hq⟩
    · exact ⟨_, by rw [loopM, e], hq⟩
    · exact ⟨_, by rw [loopM, e], hq⟩

/-- The same, for a loop that counts up an index below n. -/
theorem loopM_up {σ τ ρ : Type} {body : σ → Option (Ctl σ τ ρ)} (n : Nat) (st : Nat → σ → Prop) (Q : τ ⊕ ρ → Prop)
    (h : ∀ i s, i < n → st i s → (∃ s', body s = some (.next s') ∧ st (i + 1) s') ∨ (∃ t, body s = some (.brk t) ∧ Q (.inl t)) ∨ (∃ r, body s = some (.ret r) ∧ Q (.inr r)))
    (he : ∀ s, st n s → (∃ t, body s = some (.brk t) ∧ Q (.inl t)) ∨ (∃ r, body s = some (.ret r) ∧ Q (.inr r))) (s : σ) (h0 : st 0 s) (hn : n < big) : ∃ x, loopM body big s = some x ∧ Q x := by
  have key : ∀ (k : Nat) (i : Nat) (s : σ), i ≤ n → st i s → n - i < k → ∃ x, loopM body k s = some x ∧ Q x := by
    intro k
    induction k with
    | zero => intro i s _ _ hk; exact absurd hk (Nat.not_lt_zero _)
    | succ k ih =>
      intro i s hi hs hk
      by_cases hin : i = n
      · subst hin
        rcases he s hs with ⟨t, e, hq⟩ | ⟨r, e, hq⟩
        · exact ⟨_, by rw [loopM, e], hq⟩
        · exact ⟨_, by rw [loopM, e], hq⟩
      · rcases h i s (by omega) hs with ⟨s', e, hI'⟩ | ⟨t, e, hq⟩ | ⟨r, e, hq⟩
        · obtain ⟨x, hx, hq⟩ := ih (i + 1) s' (by omega) hI' (by omega)
          exact ⟨x, by rw [loopM, e]; exact hx, hq⟩
        · exact ⟨_, by rw [loopM, e], hq⟩
        · exact ⟨_, by rw [loopM, e], hq⟩
  exact key big 0 s (Nat.zero_le _) h0 (by omega)

theorem big_pos {n : Nat} (h : n ≤ 1048576) : n < big := by unfold big; omega

/-- A copying loop. -/
theorem copy_loop {α ρ : Type} [Inhabited α] (a0 : List α) (f : α → Option α) (hf : ∀ x, f x = some x) (hl : a0.length ≤ 1048576) :
    loopM (ρ := ρ) (fun s : List α × Int => bif decide (s.2 < (a0.length : Int)) then (gi a0 s.2).bind fun v7 => (f v7).bind fun v9 => (gi s.1 s.2).bind fun v11 => some (.next (List.set s.1 (Int.toNat s.2) v9, w64 (s.2 + 1))) else some (.brk s.1)) big (List.replicate a0.length default, 0) = some (.inl a0) := by
  refine (?_ : ∃ x, _ = some x ∧ x = .inl a0).elim fun x h => h.1.trans (by rw [h.2])
  refine loopM_up a0.length (fun i s => s.2 = (i : Int) ∧ s.1.length = a0.length ∧ s.1.take i = a0.take i) _ (fun i s hi hs => ?_) (fun s hs => ?_) (List.replicate a0.length default, 0) (by simp) (big_pos hl)
  · obtain ⟨l, j⟩ := s
    obtain ⟨rfl, h1, h2⟩ := hs
    simp only at h1 h2
    refine .inl ⟨(l.set i (a0[i]), ((i + 1 : Nat) : Int)), ?_, by simp, by simpa using h1, ?_⟩
    · rw [w64_id (by omega) (by omega)]
      simp [hi, gi_nat hi, gi_nat (h1 ▸ hi : i < l.length), hf]
    · apply List.ext_getElem?
      intro k
      have := congrArg (fun z => z[k]?) h2
      simp only [List.getElem?_take] at this ⊢
      by_cases hk : k = i
      · subst hk
        simp [List.getElem?_set, h1, hi]
      · rw [List.getElem?_set_ne (by omega)]
        by_cases hki : k < i
        · simpa [hki, Nat.lt_succ_of_lt hki] using this
        · simp [show ¬ k < i + 1 by omega]
  · obtain ⟨l, j⟩ := s
    obtain ⟨rfl, h1, h2⟩ := hs
    refine .inl ⟨l, by simp, ?_⟩
    simp only [List.take_length] at h2
    rw [← h2, ← h1, List.take_length]

/-- A loop that compares a row with itself. -/
theorem eq_loop_refl {α : Type} (a0 : List α) (f : α → α → Option Bool) (hf : ∀ x, f x x = some true) (hl : a0.length ≤ 1048576) :
    loopM (fun s : Int => bif decide (s < (a0.length : Int)) then (gi a0 s).bind fun v4 => (gi a0 s).bind fun v6 => (f v4 v6).bind fun v8 => bif (!v8) then some (.ret false) else some (.next (w64 (s + 1))) else some (Ctl.brk ())) big 0 = some (.inl ()) := by
  refine (?_ : ∃ x, _ = some x ∧ x = .inl ()).elim fun x h => h.1.trans (by rw [h.2])
  refine loopM_up a0.length (fun i s => s = (i : Int)) _ (fun i s hi hs => ?_) (fun s hs => ?_) 0 rfl (big_pos hl)
  · subst hs
    refine .inl ⟨((i + 1 : Nat) : Int), ?_, rfl⟩
    rw [w64_id (by omega) (by omega)]
    simp [hi, gi_nat hi, hf]
  · subst hs
    exact .inl ⟨(), by simp, rfl⟩

theorem mkM_eq {α : Type} [Inhabited α] {b : Nat} {n : Nat} (h1 : n ≤ 1048576) (h2 : b ≤ 1000) : (mkM b (n : Int) : Option (List α)) = some (List.replicate n default) := by
  unfold mkM
  rw [if_pos]
  · simp
  · have : b * n ≤ 1000 * 1048576 := Nat.mul_le_mul h2 h1
    refine ⟨by omega, ?_, by omega⟩
    have h := Int.ofNat_le.2 this
    simp at h ⊢
    omega
end Go.Sx
