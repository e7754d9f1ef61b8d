/- What the functions of the program compute, said with the rounds and the sweeps. -/
import Derived.Test.YtjjmcifpnjmlbaaGzG
namespace Go.Sx
open Relax (g g_set X)
set_option linter.unusedVariables false

theorem v0N_pos {a : Int} (h : 0 ≤ a) : v0N a = a := by unfold v0N; split <;> omega
/-- both places known, the start in range -/
def Fine (n : Network) (a : ByteArray) (at0 : Int) : Prop := netB n = true ∧ ¬ idxV (plcs n) a < 0 ∧ ¬ at0 > 100000
theorem best_fine {n : Network} {a : ByteArray} {at0 legs : Int} (h : Fine n a at0) (hl : 0 ≤ legs) : bestV n a at0 legs = XN n (idxV (plcs n) a).toNat at0 legs.toNat := by
  unfold bestV
  rw [if_pos ⟨h.1, h.2.1, h.2.2, by omega⟩]
theorem best_bad {n : Network} {a : ByteArray} {at0 legs : Int} (h : ¬ Fine n a at0) : bestV n a at0 legs = [] := by
  unfold bestV
  rw [if_neg (fun hh => h ⟨hh.1, hh.2.1, hh.2.2.1⟩)]
theorem Fine.lt {n : Network} {a : ByteArray} {at0 : Int} (h : Fine n a at0) : (idxV (plcs n) a).toNat < (plcs n).length := by
  obtain ⟨k, e, hk⟩ := idx_lt h.2.1
  rw [e]; exact hk
theorem XN_len {n : Network} (hn : netB n = true) {st : Nat} (hst : st < (plcs n).length) {at0 : Int} (ha : ¬ at0 > 100000) (k : Nat) : (XN n st at0 k).length = (plcs n).length := Relax.X_len (A := iA n) (relax_ok hn st) (x0_start hst ha).1 k
theorem XN_ne {n : Network} (hn : netB n = true) {st : Nat} (hst : st < (plcs n).length) {at0 : Int} (ha : ¬ at0 > 100000) (k : Nat) : XN n st at0 k ≠ [] := by
  intro e
  have := XN_len hn hst ha k
  rw [e] at this
  simp only [List.length_nil] at this
  omega
theorem ear_fine {n : Network} {a b : ByteArray} {at0 : Int} (h : Fine n a at0) (hb : ¬ idxV (plcs n) b < 0) : earV n a b at0 = DN n (idxV (plcs n) a).toNat at0 (idxV (plcs n) b).toNat := by
  unfold earV
  rw [best_fine h (by omega), if_neg]
  · rfl
  · intro hh
    rcases hh with hh | hh
    · exact hb hh
    · exact XN_ne h.1 h.lt h.2.2 _ hh
theorem ear_bad {n : Network} {a b : ByteArray} {at0 : Int} (h : ¬ (Fine n a at0 ∧ ¬ idxV (plcs n) b < 0)) : earV n a b at0 = -1 := by
  unfold earV
  by_cases hb : idxV (plcs n) b < 0
  · rw [if_pos (.inl hb)]
  · rw [if_pos (.inr (best_bad fun hf => h ⟨hf, hb⟩))]
/-- the earliest arrival grows with the start -/
theorem ear_later {n : Network} {a b : ByteArray} {t u : Int} (ht : 0 ≤ t) (htu : t ≤ u) (h : 0 ≤ earV n a b u) : 0 ≤ earV n a b t ∧ earV n a b t ≤ earV n a b u := by
  by_cases hc : Fine n a u ∧ ¬ idxV (plcs n) b < 0
  · have hf : Fine n a t := ⟨hc.1.1, hc.1.2.1, by have := hc.1.2.2; omega⟩
    rw [ear_fine hc.1 hc.2] at h ⊢
    rw [ear_fine hf hc.2]
    exact XN_later hc.1.1 hc.1.lt hc.1.2.2 (by rw [v0N_pos ht, v0N_pos (by omega)]; exact htu) hf.2.2 _ _ h
  · rw [ear_bad hc] at h
    omega
/-- the latest start -/
def lasV (n : Network) (a b : ByteArray) (b0 : Int) : Int := if netB n = true ∧ ¬ idxV (plcs n) a < 0 ∧ ¬ idxV (plcs n) b < 0 ∧ ¬ b0 < 0 then LN n (idxV (plcs n) b).toNat b0 (idxV (plcs n) a).toNat else -1
theorem lat_impl (n : Network) (h : NetS n) (a : ByteArray) (b : Int) (hb : b ≤ 9223372036854775807) : impl_LatestStarts n a b = some (latV n a b) := by
  have hp := plcs_len n h
  unfold impl_LatestStarts latV
  rw [impl_PlacesOf_eq n h, impl_IsNetwork_eq n h]
  simp only [Option.bind_some, placeAt_eq _ _ (show (plcs n).length ≤ 4000000 by omega)]
  cases hn : netB n with
  | false => simp
  | true =>
    by_cases h1 : idxV (plcs n) a < 0
    · simp [h1]
    by_cases h2 : b < 0
    · simp [h1, h2]
    obtain ⟨x, e, hx⟩ := idx_lt h1
    have hL : 0 < n.Legs.length := places_legs hx
    have hy : (y0N n x b).length = (plcs n).length := by simp [y0N]
    have hyb : ∀ v, g (y0N n x b) v ≤ 9223372036854775807 := fun v => by rw [g_y0 hx]; split <;> omega
    have hgx : g (y0N n x b) x = b := by rw [g_y0 hx, if_pos rfl]
    have r2 := impl_sweeps n h hn hL hx hy hyb
    rw [hgx] at r2
    have hgi : gi (List.replicate (plcs n).length (-1 : Int)) (x : Int) = some (-1) := by rw [gi_nat (by simpa using hx)]; simp
    simp only [h1, h2, Bool.not_true, cond_false, decide_false, not_false_eq_true, and_self, if_true, e, lat_fill n h, Option.bind_some, impl_LatestStarts_L1_k, impl_LatestStarts_L1_a, hgi, Int.toNat_natCast]
    rw [show (List.replicate (plcs n).length (-1 : Int)).set x b = y0N n x b from rfl, r2]
    rfl
theorem last_impl (n : Network) (h : NetS n) (a b : ByteArray) (by0 : Int) (hb : by0 ≤ 9223372036854775807) : impl_LatestStart n a b by0 = some (lasV n a b by0) := by
  have hp := plcs_len n h
  unfold impl_LatestStart
  rw [impl_PlacesOf_eq n h, lat_impl n h b by0 hb]
  simp only [Option.bind_some, placeAt_eq _ _ (show (plcs n).length ≤ 4000000 by omega)]
  by_cases h1 : idxV (plcs n) a < 0
  · unfold lasV
    rw [if_neg (fun hh => hh.2.1 h1)]
    simp only [h1, decide_true, cond_true]
    cases (((latV n b by0).length : Int) == 0) <;> rfl
  obtain ⟨t, e, ht⟩ := idx_lt h1
  by_cases hc : netB n = true ∧ ¬ idxV (plcs n) b < 0 ∧ ¬ by0 < 0
  · have hlv : latV n b by0 = YN n (idxV (plcs n) b).toNat (y0N n (idxV (plcs n) b).toNat by0) ((plcs n).length * n.Legs.length) := by unfold latV; rw [if_pos hc]
    have hlen : (latV n b by0).length = (plcs n).length := by rw [hlv]; exact Sweep.Y_len (y0_len _ _ _) _
    have hz : (((latV n b by0).length : Int) == 0) = false := by rw [hlen]; exact beq_eq_false_iff_ne.2 (by omega)
    have hgt : gi (latV n b by0) (t : Int) = some (g (latV n b by0) t) := gi_g (by rw [hlen]; exact ht)
    have h1' : decide (idxV (plcs n) a < 0) = false := by simp [h1]
    rw [hz, h1']
    unfold lasV
    rw [if_pos ⟨hc.1, h1, hc.2.1, hc.2.2⟩, e]
    simp only [cond_false, hgt, Option.bind_some, Int.toNat_natCast]
    rw [hlv]
  · have hlv : latV n b by0 = [] := by unfold latV; rw [if_neg hc]
    unfold lasV
    rw [if_neg (fun hh => hc ⟨hh.1, hh.2.2⟩), hlv]
    rfl
theorem las_low (n : Network) (a b : ByteArray) (b0 : Int) : -1 ≤ lasV n a b b0 := by
  unfold lasV
  split
  · rename_i h
    obtain ⟨k, e, hk⟩ := idx_lt h.2.2.1
    rw [e]
    rcases LN_neg h.1 hk (b := b0) (by omega) ((plcs n).length * n.Legs.length) (idxV (plcs n) a).toNat with h1 | h1
    · show -1 ≤ g (YN n k (y0N n k b0) ((plcs n).length * n.Legs.length)) _
      omega
    · show -1 ≤ g (YN n k (y0N n k b0) ((plcs n).length * n.Legs.length)) _
      omega
  · exact Int.le_refl _
/-- the promise -/
def dayV (e : Int) : Int := if Int.tmod e 1440 > 1080 then Int.tdiv e 1440 + 1 else Int.tdiv e 1440
def proV (n : Network) (s : Int) (a b : ByteArray) (t : Int) : Int := if earV n a b t < 0 ∨ s < 1 ∨ s > 3 then -1 else (dayV (earV n a b t) + (s - 1) * (s - 1)) * 1440 + 1080
theorem ear_big (n : Network) (a b : ByteArray) (t : Int) : earV n a b t ≤ 1000000 := by
  by_cases hc : Fine n a t ∧ ¬ idxV (plcs n) b < 0
  · rw [ear_fine hc.1 hc.2]
    exact XN_big hc.1.1 hc.1.lt hc.1.2.2 _ _
  · rw [ear_bad hc]; omega
theorem day_in {e : Int} (h : 0 ≤ e) : 0 ≤ dayV e ∧ dayV e ≤ e / 1440 + 1 ∧ dayV e = (if e % 1440 > 1080 then e / 1440 + 1 else e / 1440) := by
  have h1 : Int.tmod e 1440 = e % 1440 := Int.tmod_eq_emod_of_nonneg h
  have h2 : Int.tdiv e 1440 = e / 1440 := Int.tdiv_eq_ediv_of_nonneg h
  unfold dayV
  rw [h1, h2]
  refine ⟨?_, ?_, rfl⟩ <;> split <;> omega
theorem prom_impl (n : Network) (h : NetS n) (s : Int) (a b : ByteArray) (t : Int) : impl_PromiseOf n s a b t = some (proV n s a b t) := by
  obtain ⟨r1, r2⟩ := ear_spec n h a b t
  have hbig := ear_big n a b t
  unfold impl_PromiseOf proV
  rw [r2]
  simp only [Option.bind_some]
  rcases ear_neg n h a b t with e | e
  · simp [e]
  · generalize earV n a b t = x at e hbig
    have h1 : ¬ x < 0 := by omega
    have h2 : (x == (-1)) = false := by simp; omega
    have hd := day_in e
    have hq : 0 ≤ x / 1440 ∧ x / 1440 ≤ 1000 := by omega
    have htd : Int.tdiv x 1440 = x / 1440 := Int.tdiv_eq_ediv_of_nonneg e
    simp only [h1, h2, cond_false, within_eq, Option.bind_some, false_or]
    cases hs : inB s 1 3 with
    | false =>
      have : s < 1 ∨ s > 3 := by
        simp only [inB, Bool.and_eq_false_iff, decide_eq_false_iff_not] at hs
        omega
      rw [if_pos this]
      simp
    | true =>
      have hs' : s = 1 ∨ s = 2 ∨ s = 3 := by
        simp only [inB, Bool.and_eq_true, decide_eq_true_eq] at hs
        omega
      rw [if_neg (by omega)]
      have key : gi ([0, 1, 4] : List Int) (w64 (s - 1)) = some ((s - 1) * (s - 1)) := by
        rcases hs' with rfl | rfl | rfl <;> rfl
      have hsq : 0 ≤ (s - 1) * (s - 1) ∧ (s - 1) * (s - 1) ≤ 4 := by rcases hs' with rfl | rfl | rfl <;> decide
      have w1 : w64 (x / 1440) = x / 1440 := w64_id (by omega) (by omega)
      have w2 : w64 (x / 1440 + 1) = x / 1440 + 1 := w64_id (by omega) (by omega)
      unfold dayV
      rw [htd]
      generalize (s - 1) * (s - 1) = z at *
      by_cases hc : Int.tmod x 1440 > 1080
      · have e1 : w64 (x / 1440 + 1 + z) = x / 1440 + 1 + z := w64_id (by omega) (by omega)
        have e2 : w64 ((x / 1440 + 1 + z) * 1440) = (x / 1440 + 1 + z) * 1440 := w64_id (by omega) (by omega)
        have e3 : w64 ((x / 1440 + 1 + z) * 1440 + 1080) = (x / 1440 + 1 + z) * 1440 + 1080 := w64_id (by omega) (by omega)
        simp only [hc, decide_true, cond_true, Bool.not_true, cond_false, key, Option.bind_some, w1, w2, e1, e2, e3, if_true]
      · have e1 : w64 (x / 1440 + z) = x / 1440 + z := w64_id (by omega) (by omega)
        have e2 : w64 ((x / 1440 + z) * 1440) = (x / 1440 + z) * 1440 := w64_id (by omega) (by omega)
        have e3 : w64 ((x / 1440 + z) * 1440 + 1080) = (x / 1440 + z) * 1440 + 1080 := w64_id (by omega) (by omega)
        simp only [hc, decide_false, Bool.not_true, cond_false, key, Option.bind_some, w1, e1, e2, e3, if_false]
end Go.Sx
