/- The latest starts: the exact law answers true. -/
import Derived.Test.YtgfliphofffcaaaGyO
namespace Go.Sx
open Relax (g g_set)
set_option linter.unusedVariables false

theorem wf_le {z : Int} (h : (Lit.int .i64 z).wf = true) : z ≤ 9223372036854775807 := by
  simp [Lit.wf, IntKind.signed, IntKind.bits] at h
  omega
def y0N (n : Network) (x : Nat) (b : Int) : List Int := (List.replicate (plcs n).length (-1)).set x b
theorem g_y0 {n : Network} {x : Nat} {b : Int} (hx : x < (plcs n).length) (v : Nat) : g (y0N n x b) v = if v = x then b else -1 := by
  unfold y0N
  rw [g_set (by simpa using hx)]
  by_cases hv : v = x
  · rw [if_pos hv, if_pos hv]
  · rw [if_neg hv, if_neg hv]
    unfold g
    by_cases h : v < (plcs n).length
    · simp [h]
    · simp [h]
theorem lat_first (n : Network) (h : NetS n) (x : Nat) (hx : x < (plcs n).length) (b : Int) : loopM (spec_LatestStarts_L1 b (plcs n) (x : Int)) big (([] : List Int), 0) = some (.inl (y0N n x b)) := by
  have hp := plcs_len n h
  have hlen : (y0N n x b).length = (plcs n).length := by simp [y0N]
  exact loop_go (body := spec_LatestStarts_L1 b (plcs n) (x : Int)) (plcs n).length (fun i => ((y0N n x b).take i, (i : Int))) (y0N n x b) (show (plcs n).length < 1000000000000 by omega) (fun i hi => by
    have hi' : i < (y0N n x b).length := by omega
    have hget : (y0N n x b)[i] = if i = x then b else -1 := by
      have := g_y0 (b := b) hx i
      simpa [g, hi'] using this
    have hws : w64 ((i : Int) + 1) = ((i + 1 : Nat) : Int) := by rw [w64_id (by omega) (by omega)]; omega
    have hap : ∀ z : Int, ap 8 ((y0N n x b).take i) ([z] : List Int) = some ((y0N n x b).take i ++ [z]) := fun z => ap_eq (by simp; omega) (by omega)
    show spec_LatestStarts_L1_b b (plcs n) (x : Int) _ _ = _
    unfold spec_LatestStarts_L1_b
    rw [List.take_succ_eq_append_getElem hi', hget]
    simp only [Int.ofNat_lt, hi, decide_true, cond_true, hws, hap, Option.bind_some]
    by_cases hs : i = x
    · subst hs; simp
    · have : ((i : Int) == (x : Int)) = false := by simp; omega
      simp [this, hs]) (by
    show spec_LatestStarts_L1_b b (plcs n) (x : Int) _ _ = _
    rw [show (y0N n x b).take (plcs n).length = y0N n x b by rw [← hlen, List.take_length]]
    simp [spec_LatestStarts_L1_b])
theorem lat_fill (n : Network) (h : NetS n) : loopM (impl_LatestStarts_L1 (plcs n)) big (([] : List Int), 0) = some (.inl (List.replicate (plcs n).length (-1))) := by
  have hp := plcs_len n h
  exact loop_go (body := impl_LatestStarts_L1 (plcs n)) (plcs n).length (fun i => (List.replicate i (-1), (i : Int))) (List.replicate (plcs n).length (-1)) (show (plcs n).length < 1000000000000 by omega) (fun i hi => by
    have hws : w64 ((i : Int) + 1) = ((i + 1 : Nat) : Int) := by rw [w64_id (by omega) (by omega)]; omega
    show impl_LatestStarts_L1_b (plcs n) _ _ = _
    unfold impl_LatestStarts_L1_b
    simp only [Int.ofNat_lt, hi, decide_true, cond_true]
    rw [ap_eq (by simp; omega) (by omega), hws, List.replicate_succ']
    rfl) (by
    show impl_LatestStarts_L1_b (plcs n) _ _ = _
    simp [impl_LatestStarts_L1_b])
def latV (n : Network) (a : ByteArray) (b : Int) : List Int :=
  if netB n = true ∧ ¬ idxV (plcs n) a < 0 ∧ ¬ b < 0 then Sweep.Y (iA n) (iB n) (lfN n (idxV (plcs n) a).toNat) (idxV (plcs n) a).toNat n.Legs.length (y0N n (idxV (plcs n) a).toNat b) ((plcs n).length * n.Legs.length) else []
theorem lat_eq (n : Network) (h : NetS n) (a : ByteArray) (b : Int) (hb : b ≤ 9223372036854775807) : spec_LatestStarts n a b = some (latV n a b) ∧ impl_LatestStarts n a b = some (latV n a b) ∧ (latV n a b).length ≤ 1048576 := by
  have hp := plcs_len n h
  unfold spec_LatestStarts impl_LatestStarts latV
  rw [spec_PlacesOf_eq n h, impl_PlacesOf_eq n h, spec_IsNetwork_eq n h, impl_IsNetwork_eq n h]
  simp only [Option.bind_some, placeAt_eq _ _ (show (plcs n).length ≤ 4000000 by omega), index_eq _ _ (show (plcs n).length ≤ 4000000 by omega)]
  cases hn : netB n with
  | false => simp
  | true =>
    by_cases h1 : idxV (plcs n) a < 0
    · simp [h1]
    by_cases h2 : b < 0
    · simp [h1, h2]
    obtain ⟨x, e, hx⟩ := idx_lt h1
    have hL : 0 < n.Legs.length := by
      have := ins_len (nmL n.Legs) []
      rw [nmL_len] at this
      simp only [List.length_nil] at this
      unfold plcs at hx
      omega
    have hy : (y0N n x b).length = (plcs n).length := by simp [y0N]
    have hyb : ∀ v, g (y0N n x b) v ≤ 9223372036854775807 := fun v => by rw [g_y0 hx]; split <;> omega
    have hgx : g (y0N n x b) x = b := by rw [g_y0 hx, if_pos rfl]
    have r1 := spec_sweeps n h hn hL hx hy hyb
    have r2 := impl_sweeps n h hn hL hx hy hyb
    rw [hgx] at r2
    have hgi : gi (List.replicate (plcs n).length (-1 : Int)) (x : Int) = some (-1) := by rw [gi_nat (by simpa using hx)]; simp
    simp only [h1, h2, Bool.not_true, cond_false, decide_false, not_false_eq_true, and_self, if_true, e, lat_first n h x hx b, lat_fill n h, Option.bind_some, spec_LatestStarts_L1_k, spec_LatestStarts_L1_a, impl_LatestStarts_L1_k, impl_LatestStarts_L1_a, hgi, r1, Int.toNat_natCast]
    rw [show (List.replicate (plcs n).length (-1 : Int)).set x b = y0N n x b from rfl, r2]
    refine ⟨rfl, rfl, ?_⟩
    rw [if_pos ⟨trivial, by omega, trivial⟩, Sweep.Y_len hy]
    have := plcs_le hn
    omega
theorem FnExactLatestStarts_true (n : Network) (a : ByteArray) (b : Int) (hN : NetIn n) (hb : (Lit.int .i64 b).wf = true) : laws_FnExactLatestStarts n a b = some true := by
  unfold laws_FnExactLatestStarts
  by_cases ha : (a.size : Int) > 1048576
  · simp [ha]
  obtain ⟨v, hv, hc⟩ := szNetwork_le n hN
  rw [hv]
  simp only [ha, decide_false, cond_false]
  by_cases hn : v < 0
  · simp [hn]
  obtain ⟨hS, hv1⟩ := hc.resolve_left hn
  obtain ⟨r1, r2, hr⟩ := lat_eq n hS a b (wf_le hb)
  obtain ⟨k, n', k0, k1, e1⟩ := markNetwork_tot n hS
  obtain ⟨c3, m3, n3, e3, e4⟩ := markIntS_eq _ hr
  simp [hn, toNetwork_eq n hS, r1, r2, eqNetwork_refl n hS, eqIntS_refl _ hr, e1, e3, e4, n3, show ¬ k < 0 by omega]
end Go.Sx
