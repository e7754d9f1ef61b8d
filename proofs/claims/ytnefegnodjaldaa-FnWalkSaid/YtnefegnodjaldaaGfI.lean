/- The laws about what is reached and about choices answer true. -/
import Derived.Test.YtnefegnodjaldaaGfH
namespace Go.Sx
open Relax (g g_set X)
set_option linter.unusedVariables false

theorem plcs_inc (n : Network) : Inc (plcs n) := (ins_fold (nmL n.Legs) [] List.Pairwise.nil).1
/-- each place is found where it stands -/
theorem idx_at (n : Network) {i : Nat} (hi : i < (plcs n).length) : idxV (plcs n) (plcs n)[i] = (i : Int) := by
  obtain ⟨k, e, hk⟩ := idx_in (List.getElem_mem hi)
  unfold idxV at *
  cases hf : (plcs n).findIdx? (fun x => decide (x = (plcs n)[i])) with
  | none => rw [hf] at e; simp only at e; omega
  | some j =>
    obtain ⟨hj, hp, _⟩ := List.findIdx?_eq_some_iff_getElem.1 hf
    have hp : (plcs n)[j] = (plcs n)[i] := by simpa using hp
    have hinc := plcs_inc n
    rcases Nat.lt_trichotomy j i with h | h | h
    · have := List.pairwise_iff_getElem.1 hinc j i hj hi h
      rw [hp] at this
      exact absurd this (ltB_irrefl _)
    · subst h; rfl
    · have := List.pairwise_iff_getElem.1 hinc i j hi hj h
      rw [hp] at this
      exact absurd this (ltB_irrefl _)
theorem idx_mem {l : List ByteArray} {p : ByteArray} : idxV l p ≥ 0 ↔ p ∈ l := by
  constructor
  · intro h
    unfold idxV at h
    cases hf : l.findIdx? (fun x => decide (x = p)) with
    | none => rw [hf] at h; simp at h
    | some j =>
      obtain ⟨hj, hp, _⟩ := List.findIdx?_eq_some_iff_getElem.1 hf
      have hp : l[j] = p := by simpa using hp
      rw [← hp]
      exact List.getElem_mem _
  · intro h
    obtain ⟨k, e, _⟩ := idx_in h
    omega
/-- what is reached, place by place -/
def rchL (pl : List ByteArray) (l : List Int) (b : Int) : Nat → List ByteArray
  | 0 => []
  | i + 1 => if g l i = -1 then rchL pl l b i else if g l i ≤ b then rchL pl l b i ++ [pl[i]?.getD default] else rchL pl l b i
theorem rchL_succ (pl : List ByteArray) (l : List Int) (b : Int) (i : Nat) : rchL pl l b (i + 1) = if g l i = -1 then rchL pl l b i else if g l i ≤ b then rchL pl l b i ++ [pl[i]?.getD default] else rchL pl l b i := rfl
theorem rchL_len (pl : List ByteArray) (l : List Int) (b : Int) : ∀ i, (rchL pl l b i).length ≤ i
  | 0 => Nat.le_refl _
  | i + 1 => by
    have := rchL_len pl l b i
    unfold rchL
    split
    · omega
    · split
      · simp; omega
      · omega
theorem rchL_mem (pl : List ByteArray) (l : List Int) (b : Int) (x : ByteArray) : ∀ i, x ∈ rchL pl l b i ↔ ∃ j, j < i ∧ g l j ≠ -1 ∧ g l j ≤ b ∧ x = pl[j]?.getD default
  | 0 => by
    constructor
    · intro h; cases h
    · intro ⟨j, h, _⟩; exact absurd h (Nat.not_lt_zero _)
  | i + 1 => by
    have ih := rchL_mem pl l b x i
    unfold rchL
    by_cases h1 : g l i = -1
    · rw [if_pos h1, ih]
      constructor
      · intro ⟨j, a, c⟩; exact ⟨j, by omega, c⟩
      · intro ⟨j, a, c⟩
        rcases Nat.lt_or_ge j i with h | h
        · exact ⟨j, h, c⟩
        · have : j = i := by omega
          subst this; exact absurd h1 c.1
    · rw [if_neg h1]
      by_cases h2 : g l i ≤ b
      · rw [if_pos h2, List.mem_append, ih]
        constructor
        · rintro (⟨j, a, c⟩ | h)
          · exact ⟨j, by omega, c⟩
          · exact ⟨i, by omega, h1, h2, by simpa using h⟩
        · intro ⟨j, a, c⟩
          rcases Nat.lt_or_ge j i with h | h
          · exact .inl ⟨j, h, c⟩
          · have : j = i := by omega
            subst this; exact .inr (by simp only [List.mem_singleton]; exact c.2.2)
      · rw [if_neg h2, ih]
        constructor
        · intro ⟨j, a, c⟩; exact ⟨j, by omega, c⟩
        · intro ⟨j, a, c⟩
          rcases Nat.lt_or_ge j i with h | h
          · exact ⟨j, h, c⟩
          · have : j = i := by omega
            subst this; exact absurd c.2.1 h2
def rchV (n : Network) (a : ByteArray) (t b : Int) : List ByteArray := rchL (plcs n) (bestV n a t (plcs n).length) b (bestV n a t (plcs n).length).length
theorem rch_mem (n : Network) (h : NetS n) (a : ByteArray) (t b : Int) {i : Nat} (hi : i < (plcs n).length) : (plcs n)[i] ∈ rchV n a t b ↔ (0 ≤ earV n a (plcs n)[i] t ∧ earV n a (plcs n)[i] t ≤ b) := by
  have hid := idx_at n hi
  unfold rchV
  rw [rchL_mem]
  by_cases hf : Fine n a t
  · rw [best_vals hf, XN_len hf.1 hf.lt hf.2.2, ear_fine hf (by omega), hid, Int.toNat_natCast]
    constructor
    · intro ⟨j, hj, h1, h2, h3⟩
      have : j = i := by
        have hj' := idx_at n hj
        rw [List.getElem?_eq_getElem hj, Option.getD_some] at h3
        rw [← h3, hid] at hj'
        omega
      subst this
      have := XN_neg hf.1 hf.lt hf.2.2 (plcs n).length j
      exact ⟨by show 0 ≤ g (XN n _ t _) j; omega, h2⟩
    · intro ⟨h1, h2⟩
      exact ⟨i, hi, by have h1 : 0 ≤ g (XN n (idxV (plcs n) a).toNat t (plcs n).length) i := h1; omega, h2, by rw [List.getElem?_eq_getElem hi, Option.getD_some]⟩
  · rw [best_bad hf, ear_bad (fun hh => hf hh.1)]
    constructor
    · intro ⟨j, hj, _⟩; exact absurd hj (by simp)
    · intro ⟨h1, _⟩; omega
theorem beq_m (m : Bool) (q : Prop) [Decidable q] (h : m = true ↔ q) : (m == decide q) = true := by
  by_cases hq : q
  · rw [h.2 hq, decide_eq_true hq]; rfl
  · cases m with
    | true => exact absurd (h.1 rfl) hq
    | false => rw [decide_eq_false hq]; rfl
/-- the choices after k counts of legs -/
def choL (n : Network) (a : ByteArray) (t : Int) (x : Nat) : Nat → List Choice
  | 0 => []
  | k + 1 => if bestV n a t (k : Int) = [] ∨ g (bestV n a t (k : Int)) x = -1 then choL n a t x k
    else if choL n a t x k = [] ∨ g (bestV n a t (k : Int)) x < ((choL n a t x k)[(choL n a t x k).length - 1]?.getD default).Ends then choL n a t x k ++ [⟨(k : Int), g (bestV n a t (k : Int)) x⟩] else choL n a t x k
/-- what holds of the choices after k counts -/
structure ChInv (n : Network) (a : ByteArray) (t : Int) (x : Nat) (k : Nat) (l : List Choice) : Prop where
  len : l.length ≤ k
  each : ∀ i (hi : i < l.length), ∃ m : Nat, m < k ∧ l[i].Legs = (m : Int) ∧ bestV n a t (m : Int) ≠ [] ∧ l[i].Ends = g (bestV n a t (m : Int)) x ∧ g (bestV n a t (m : Int)) x ≠ -1
  next : ∀ i (hi : i + 1 < l.length), l[i].Legs < l[i + 1].Legs ∧ l[i + 1].Ends < l[i].Ends
  none : l = [] → ∀ m : Nat, m < k → bestV n a t (m : Int) = [] ∨ g (bestV n a t (m : Int)) x = -1
theorem choL_inv (n : Network) (a : ByteArray) (t : Int) (x : Nat) : ∀ k, ChInv n a t x k (choL n a t x k)
  | 0 => ⟨Nat.le_refl _, fun i hi => absurd hi (Nat.not_lt_zero _), fun i hi => absurd hi (Nat.not_lt_zero _), fun _ m hm => absurd hm (Nat.not_lt_zero _)⟩
  | k + 1 => by
    have I := choL_inv n a t x k
    unfold choL
    generalize choL n a t x k = l at I
    have up : ∀ i (hi : i < l.length), ∃ m : Nat, m < k + 1 ∧ l[i].Legs = (m : Int) ∧ bestV n a t (m : Int) ≠ [] ∧ l[i].Ends = g (bestV n a t (m : Int)) x ∧ g (bestV n a t (m : Int)) x ≠ -1 := fun i hi => by
      obtain ⟨m, h1, h2⟩ := I.each i hi
      exact ⟨m, by omega, h2⟩
    have hlen := I.len
    by_cases h1 : bestV n a t (k : Int) = [] ∨ g (bestV n a t (k : Int)) x = -1
    · rw [if_pos h1]
      refine ⟨by omega, up, I.next, fun hl m hm => ?_⟩
      rcases Nat.lt_or_ge m k with h | h
      · exact I.none hl m h
      · have : m = k := by omega
        subst this; exact h1
    · rw [if_neg h1]
      by_cases h2 : l = [] ∨ g (bestV n a t (k : Int)) x < (l[l.length - 1]?.getD default).Ends
      · rw [if_pos h2]
        refine ⟨by simp; omega, fun i hi => ?_, fun i hi => ?_, fun hl => absurd hl (by simp)⟩
        · by_cases hi2 : i < l.length
          · rw [List.getElem_append_left hi2]
            exact up i hi2
          · have : i = l.length := by simp at hi; omega
            subst this
            refine ⟨k, by omega, ?_⟩
            rw [List.getElem_append_right (Nat.le_refl _)]
            simp only [Nat.sub_self, List.getElem_cons_zero]
            exact ⟨trivial, fun hh => h1 (.inl hh), trivial, fun hh => h1 (.inr hh)⟩
        · by_cases hi2 : i + 1 < l.length
          · rw [List.getElem_append_left hi2, List.getElem_append_left (by omega)]
            exact I.next i hi2
          · have hil : i + 1 = l.length := by simp at hi; omega
            have hi3 : i < l.length := by omega
            have hne : ¬ l = [] := fun e => by rw [e] at hi3; simp at hi3
            have h2' := h2.resolve_left hne
            rw [show l.length - 1 = i by omega, List.getElem?_eq_getElem hi3, Option.getD_some] at h2'
            obtain ⟨m, m1, m2, _⟩ := I.each i hi3
            rw [List.getElem_append_left hi3]
            rw [List.getElem_append_right (by omega)]
            simp only [show i + 1 - l.length = 0 by omega, List.getElem_cons_zero]
            exact ⟨by rw [m2]; omega, h2'⟩
      · rw [if_neg h2]
        refine ⟨by omega, up, I.next, fun hl => absurd (Or.inl hl) h2⟩
theorem cho_impl (n : Network) (h : NetS n) (a b : ByteArray) (t : Int) : impl_ChoicesOf n a b t = some (if idxV (plcs n) b < 0 then [] else choL n a t (idxV (plcs n) b).toNat ((plcs n).length + 1)) := by
  have hp := plcs_len n h
  unfold impl_ChoicesOf
  rw [impl_PlacesOf_eq n h]
  simp only [Option.bind_some, placeAt_eq _ _ (show (plcs n).length ≤ 4000000 by omega)]
  by_cases h0 : idxV (plcs n) b < 0
  · rw [if_pos h0]
    have := loop_go (body := impl_ChoicesOf_L1 n a t (plcs n) (idxV (plcs n) b)) 0 (fun i => (([] : List Choice), (i : Int))) ([] : List Choice) (show (0 : Nat) < 1000000000000 by omega) (fun i hi => absurd hi (Nat.not_lt_zero _)) (by
      show impl_ChoicesOf_L1_b n a t (plcs n) (idxV (plcs n) b) [] ((0 : Nat) : Int) = _
      unfold impl_ChoicesOf_L1_b
      have h1 : decide (((0 : Nat) : Int) ≤ ((plcs n).length : Int)) = true := by simp
      have h2 : decide (idxV (plcs n) b ≥ 0) = false := by simp; omega
      rw [h1, h2]; rfl)
    have this' : loopM (impl_ChoicesOf_L1 n a t (plcs n) (idxV (plcs n) b)) big ([], 0) = some (.inl []) := this
    rw [this']
    simp [impl_ChoicesOf_L1_k, impl_ChoicesOf_L1_a]
  · rw [if_neg h0]
    obtain ⟨x, e, hx⟩ := idx_lt h0
    rw [e]
    simp only [Int.toNat_natCast]
    have hz0 : ∀ k, netB n = false → choL n a t x k = [] := fun k hn => by
      induction k with
      | zero => rfl
      | succ k ih => unfold choL; rw [if_pos (.inl ((best_le n h a t k).2 hn)), ih]
    have := loop_go (body := impl_ChoicesOf_L1 n a t (plcs n) (x : Int)) ((plcs n).length + 1) (fun i => (choL n a t x i, (i : Int))) (choL n a t x ((plcs n).length + 1)) (show (plcs n).length + 1 < 1000000000000 by omega) (fun i hi => by
      have I := choL_inv n a t x i
      have fine : (choL n a t x i).length ≤ 1048576 := by
        cases hn : netB n with
        | false => rw [hz0 i hn]; simp
        | true => have := plcs_le hn; have := I.len; omega
      show impl_ChoicesOf_L1_b n a t (plcs n) (x : Int) (choL n a t x i) (i : Int) = _
      unfold impl_ChoicesOf_L1_b
      have hile : (i : Int) ≤ ((plcs n).length : Int) := by omega
      have hws : w64 ((i : Int) + 1) = ((i + 1 : Nat) : Int) := by rw [w64_id (by omega) (by omega)]; omega
      have hx0 : decide ((x : Int) ≥ 0) = true := by simp
      simp only [hile, decide_true, cond_true, best_impl n h, Option.bind_some, hws, hx0]
      rw [show choL n a t x (i + 1) = if bestV n a t (i : Int) = [] ∨ g (bestV n a t (i : Int)) x = -1 then choL n a t x i else if choL n a t x i = [] ∨ g (bestV n a t (i : Int)) x < ((choL n a t x i)[(choL n a t x i).length - 1]?.getD default).Ends then choL n a t x i ++ [⟨(i : Int), g (bestV n a t (i : Int)) x⟩] else choL n a t x i from rfl]
      rcases best_len n h a t i with hb | ⟨hb, _⟩
      · rw [if_pos (.inl hb), hb]; rfl
      · have hne : ¬ bestV n a t (i : Int) = [] := fun e => by rw [e] at hb; simp only [List.length_nil] at hb; omega
        have hz : (((bestV n a t i).length : Int) == 0) = false := by rw [hb]; exact beq_eq_false_iff_ne.2 (by omega)
        have hgt : gi (bestV n a t i) (x : Int) = some (g (bestV n a t i) x) := gi_g (by rw [hb]; exact hx)
        simp only [hz, cond_false, hgt, Option.bind_some]
        by_cases h1 : g (bestV n a t (i : Int)) x = -1
        · rw [if_pos (.inr h1)]; simp [h1]
        · rw [if_neg (by intro hh; rcases hh with hh | hh; exact hne hh; exact h1 hh)]
          have h1' : (g (bestV n a t (i : Int)) x == -1) = false := by simp [h1]
          generalize choL n a t x i = l at I fine
          have hap : ∀ c : Choice, ap 16 l ([c] : List Choice) = some (l ++ [c]) := fun c => ap_eq (by simp; omega) (by omega)
          simp only [h1', cond_false, hap, Option.bind_some]
          cases hl : l with
          | nil => simp
          | cons y r =>
            rw [← hl]
            have hne2 : ¬ l = [] := by rw [hl]; simp
            have hpos : 0 < l.length := List.length_pos_iff.2 hne2
            have hs0 : ((l.length : Int) == 0) = false := beq_eq_false_iff_ne.2 (by omega)
            have hlast : gi l (w64 ((l.length : Int) - 1)) = some l[l.length - 1] := by
              rw [w64_id (by omega) (by omega), show ((l.length : Int) - 1) = ((l.length - 1 : Nat) : Int) by omega, gi_nat (by omega : l.length - 1 < l.length)]
            have hgd : (l[l.length - 1]?.getD default) = l[l.length - 1] := by rw [List.getElem?_eq_getElem (by omega), Option.getD_some]
            simp only [hs0, cond_false, hlast, Option.bind_some, hgd]
            by_cases h2 : g (bestV n a t (i : Int)) x < l[l.length - 1].Ends
            · simp [h2]
            · simp [h2, hne2]) (by
      show impl_ChoicesOf_L1_b n a t (plcs n) (x : Int) (choL n a t x ((plcs n).length + 1)) (((plcs n).length + 1 : Nat) : Int) = _
      unfold impl_ChoicesOf_L1_b
      have : decide ((((plcs n).length + 1 : Nat) : Int) ≤ ((plcs n).length : Int)) = false := by simp; omega
      rw [this]
      rfl)
    have this' : loopM (impl_ChoicesOf_L1 n a t (plcs n) (x : Int)) big ([], 0) = some (.inl (choL n a t x ((plcs n).length + 1))) := this
    rw [this']
    simp [impl_ChoicesOf_L1_k, impl_ChoicesOf_L1_a]
end Go.Sx
