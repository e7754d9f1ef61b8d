/- The library's stable sort, over any comparison: blocks exchanged and turned; a search by halves. -/
import Derived.Test.YtbeialanbblkoaaSxSa
namespace Go.Sx
set_option linter.unusedVariables false

theorem nat64 {n : Nat} (h : n ≤ 4611686018427387904) : w64 (n : Int) = n := w64_id (by omega) (by omega)
/-- the middle of two indices, as Go writes it -/
theorem mid64 {x y : Nat} (h : x + y ≤ 4611686018427387904) : w64 (Int.fdiv (IntKind.u64.wrap (w64 ((x : Int) + y))) (2 ^ 1)) = (((x + y) / 2 : Nat) : Int) := by
  have e1 : w64 ((x : Int) + y) = ((x + y : Nat) : Int) := by
    rw [show (x : Int) + y = ((x + y : Nat) : Int) by omega]; exact nat64 h
  rw [e1]
  have e2 : IntKind.u64.wrap ((x + y : Nat) : Int) = ((x + y : Nat) : Int) := by
    simp [IntKind.wrap, IntKind.bits, IntKind.signed]; omega
  rw [e2, show ((x + y : Nat) : Int).fdiv (2 ^ 1) = (((x + y) / 2 : Nat) : Int) by
    rw [Int.fdiv_eq_ediv_of_nonneg _ (by omega)]; omega]
  exact nat64 (by omega)
theorem gi_at {α : Type} {L R : List α} {x : α} {i : Int} (hi : i = (L.length : Nat)) : gi (L ++ x :: R) i = some x := by
  subst hi; simp [gi]
theorem gi_app {α : Type} (l : List α) (i : Nat) : gi l (i : Int) = l[i]? := by simp [gi]
/-- two places exchanged -/
theorem set_two {α : Type} {L M R : List α} {x y : α} {i j : Nat} (hi : i = L.length) (hj : j = L.length + 1 + M.length) : List.set (List.set (L ++ x :: (M ++ y :: R)) i y) j x = L ++ y :: (M ++ x :: R) := by
  subst hi hj
  have h1 : ¬ (L.length + 1 + M.length < L.length) := by omega
  have h2 : L.length + 1 + M.length - L.length = M.length + 1 := by omega
  simp [List.set_append, h1, h2]
theorem set_two' {α : Type} {L M R : List α} {x y : α} {i j : Nat} (hi : i = L.length) (hj : j = L.length + 1 + M.length) : List.set (List.set (L ++ x :: (M ++ y :: R)) j x) i y = L ++ y :: (M ++ x :: R) := by
  subst hi hj
  have h1 : ¬ (L.length + 1 + M.length < L.length) := by omega
  have h2 : L.length + 1 + M.length - L.length = M.length + 1 := by omega
  simp [List.set_append, h1, h2]
/-- a loop that comes to its end: I holds on the way, m falls -/
theorem loop_end {σ τ ρ : Type} {body : σ → Option (Ctl σ τ ρ)} (I : σ → Prop) (m : σ → Nat) (Q : τ → Prop)
    (h : ∀ s, I s → (∃ s', body s = some (.next s') ∧ I s' ∧ m s' < m s) ∨ (∃ t, body s = some (.brk t) ∧ Q t)) : ∀ (n : Nat) (s : σ), I s → m s < n → ∃ t, loopM body n s = some (.inl t) ∧ Q t
  | 0, s, _, hn => by omega
  | n + 1, s, hI, hn => by
    rcases h s hI with ⟨s', e, hI', hm⟩ | ⟨t, e, hQ⟩
    · obtain ⟨t, e2, hQ⟩ := loop_end I m Q h n s' hI' (by omega)
      exact ⟨t, by simp only [loopM, e]; exact e2, hQ⟩
    · exact ⟨t, by simp only [loopM, e], hQ⟩
abbrev LIM : Nat := 1048576
theorem lim_big {n : Nat} (h : n ≤ 4 * LIM) : n < big := by unfold big; unfold LIM at h; omega

/-- a search by halves -/
theorem bs_loop {ρ : Type} {body : Int × Int → Option (Ctl (Int × Int) Int ρ)} (p : Nat → Bool) (lo hi : Nat) (hhi : hi ≤ LIM)
    (hb : ∀ x y : Nat, lo ≤ x → x < y → y ≤ hi → body ((x : Int), (y : Int)) = if p ((x + y) / 2) then some (.next ((((x + y) / 2 + 1 : Nat) : Int), (y : Int))) else some (.next ((x : Int), (((x + y) / 2 : Nat) : Int))))
    (he : ∀ x : Nat, lo ≤ x → x ≤ hi → body ((x : Int), (x : Int)) = some (.brk (x : Int)))
    (mono : ∀ h h', lo ≤ h → h ≤ h' → h' < hi → p h' = true → p h = true) (hle : lo ≤ hi) :
    ∃ i : Nat, lo ≤ i ∧ i ≤ hi ∧ loopM body big ((lo : Int), (hi : Int)) = some (.inl (i : Int)) ∧ (∀ h, lo ≤ h → h < i → p h = true) ∧ (∀ h, i ≤ h → h < hi → p h = false) := by
  have key := loop_end (body := body) (fun s => ∃ x y : Nat, s = ((x : Int), (y : Int)) ∧ lo ≤ x ∧ x ≤ y ∧ y ≤ hi ∧ (∀ h, lo ≤ h → h < x → p h = true) ∧ (∀ h, y ≤ h → h < hi → p h = false)) (fun s => (s.2 - s.1).toNat)
    (fun t => ∃ i : Nat, t = (i : Int) ∧ lo ≤ i ∧ i ≤ hi ∧ (∀ h, lo ≤ h → h < i → p h = true) ∧ (∀ h, i ≤ h → h < hi → p h = false)) (fun s hs => by
      obtain ⟨x, y, rfl, h1, h2, h3, h4, h5⟩ := hs
      by_cases hxy : x < y
      · left
        rw [hb x y h1 hxy h3]
        have hm1 : x ≤ (x + y) / 2 := by omega
        have hm2 : (x + y) / 2 < y := by omega
        cases hp : p ((x + y) / 2) with
        | true =>
          refine ⟨_, by rw [if_pos rfl], ⟨(x + y) / 2 + 1, y, rfl, by omega, by omega, h3, fun h hl hh => ?_, h5⟩, by simp only; omega⟩
          exact mono h ((x + y) / 2) hl (by omega) (by omega) hp
        | false =>
          refine ⟨_, by rw [if_neg (by simp)], ⟨x, (x + y) / 2, rfl, h1, hm1, by omega, h4, fun h hl hh => ?_⟩, by simp only; omega⟩
          cases hq : p h with
          | false => rfl
          | true => rw [mono ((x + y) / 2) h (by omega) hl hh hq] at hp; cases hp
      · right
        have hxy : x = y := by omega
        subst hxy
        exact ⟨_, he x h1 h3, x, rfl, h1, h3, h4, h5⟩) big ((lo : Int), (hi : Int)) ⟨lo, hi, rfl, Nat.le_refl _, hle, Nat.le_refl _, fun h a b => by omega, fun h a b => by omega⟩ (by simp only; exact lim_big (by omega))
  obtain ⟨t, e, i, rfl, h1, h2, h3, h4⟩ := key
  exact ⟨i, h1, h2, e, h3, h4⟩

section
variable {α : Type}
/-- two blocks of one length are exchanged -/
theorem so_swapRange_spec (P X M Y S : List α) (hXY : X.length = Y.length) (hl : (P ++ X ++ M ++ Y ++ S).length ≤ LIM) (hX : 0 < X.length) :
    so_swapRange (P ++ X ++ M ++ Y ++ S) (P.length : Nat) ((P.length + X.length + M.length : Nat) : Int) (X.length : Nat) = some (P ++ Y ++ M ++ X ++ S) := by
  unfold LIM at hl
  simp only [List.length_append] at hl
  have key := loop_val (body := so_swapRange_L1 (P.length : Int) ((P.length + X.length + M.length : Nat) : Int) (X.length : Int)) X.length
    (fun i => (P ++ Y.take i ++ X.drop i ++ M ++ X.take i ++ Y.drop i ++ S, (i : Int))) (P ++ Y ++ M ++ X ++ S) (by omega) (fun i hi => by
      have hiY : i < Y.length := by omega
      have e1 : X.drop i = X[i] :: X.drop (i + 1) := (List.drop_eq_getElem_cons hi)
      have e2 : Y.drop i = Y[i] :: Y.drop (i + 1) := (List.drop_eq_getElem_cons hiY)
      have e3 : X.take (i + 1) = X.take i ++ [X[i]] := by rw [List.take_succ_eq_append_getElem hi]
      have e4 : Y.take (i + 1) = Y.take i ++ [Y[i]] := by rw [List.take_succ_eq_append_getElem hiY]
      have i1 : w64 ((P.length : Int) + i) = ((P.length + i : Nat) : Int) := by rw [show (P.length : Int) + i = ((P.length + i : Nat) : Int) by omega]; exact nat64 (by omega)
      have i2 : w64 (((P.length + X.length + M.length : Nat) : Int) + i) = ((P.length + X.length + M.length + i : Nat) : Int) := by rw [show ((P.length + X.length + M.length : Nat) : Int) + i = ((P.length + X.length + M.length + i : Nat) : Int) by omega]; exact nat64 (by omega)
      have hrow : P ++ Y.take i ++ X.drop i ++ M ++ X.take i ++ Y.drop i ++ S = (P ++ Y.take i) ++ X[i] :: ((X.drop (i + 1) ++ M ++ X.take i) ++ Y[i] :: (Y.drop (i + 1) ++ S)) := by rw [e1, e2]; simp only [List.append_assoc, List.cons_append]
      have hrow' : (P ++ Y.take i) ++ Y[i] :: ((X.drop (i + 1) ++ M ++ X.take i) ++ X[i] :: (Y.drop (i + 1) ++ S)) = P ++ Y.take (i + 1) ++ X.drop (i + 1) ++ M ++ X.take (i + 1) ++ Y.drop (i + 1) ++ S := by rw [e3, e4]; simp only [List.append_assoc, List.cons_append, List.nil_append]
      have g1 : gi (P ++ Y.take i ++ X.drop i ++ M ++ X.take i ++ Y.drop i ++ S) ((P.length + i : Nat) : Int) = some X[i] := by
        rw [hrow]; exact gi_at (by simp; omega)
      have g2 : gi (P ++ Y.take i ++ X.drop i ++ M ++ X.take i ++ Y.drop i ++ S) ((P.length + X.length + M.length + i : Nat) : Int) = some Y[i] := by
        rw [hrow, show (P ++ Y.take i) ++ X[i] :: ((X.drop (i + 1) ++ M ++ X.take i) ++ Y[i] :: (Y.drop (i + 1) ++ S)) = (P ++ Y.take i ++ X[i] :: (X.drop (i + 1) ++ M ++ X.take i)) ++ Y[i] :: (Y.drop (i + 1) ++ S) by simp only [List.append_assoc, List.cons_append]]
        exact gi_at (by simp; omega)
      have hd : decide ((i : Int) < (X.length : Int)) = true := by simp; exact hi
      simp only [so_swapRange_L1, so_swapRange_L1_b, hd, cond_true, i1, i2, g1, g2, Option.bind_some, w64_succ (show i ≤ 1048576 by omega)]
      rw [← hrow', hrow]
      rw [set_two (by simp; omega) (by simp; omega)]) (by
      have hd : decide ((X.length : Int) < (X.length : Int)) = false := by simp
      simp only [so_swapRange_L1, so_swapRange_L1_b, hd, cond_false]
      rw [List.drop_length, List.take_length, List.take_of_length_le (show Y.length ≤ X.length by omega), List.drop_eq_nil_of_le (show Y.length ≤ X.length by omega), List.append_nil, List.append_nil])
  unfold so_swapRange
  have h0 : ((P ++ Y.take 0 ++ X.drop 0 ++ M ++ X.take 0 ++ Y.drop 0 ++ S, ((0 : Nat) : Int)) : List α × Int) = (P ++ X ++ M ++ Y ++ S, 0) := by simp
  simp only [h0] at key
  rw [key]
  rfl
end
end Go.Sx
