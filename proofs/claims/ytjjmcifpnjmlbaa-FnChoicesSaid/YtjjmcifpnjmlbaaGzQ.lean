/- The latest starts: the exact law answers true. -/
import Derived.Test.YtjjmcifpnjmlbaaGzO
namespace Go.Sx
open Relax (g g_set)
set_option linter.unusedVariables false

theorem wf_le {z : Int} (h : (Lit.int .i64 z).wf = true) : z ≤ 9223372036854775807 := by
  simp [Lit.wf, IntKind.signed, IntKind.bits] at h
  omega
def y0N (n : Network) (x : Nat) (b : Int) : List Int := (List.replicate (plcs n).length (-1)).set x b
theorem g_y0 {n : Network} {x : Nat} {b : Int} (hx : x < (plcs n).length) (v : Nat) : g (y0N n x b) v = if v = x then b else -1 := by
  unfold y0N
  rw [g_set (by simpa using hx)]
  by_cases hv : v = x
  · rw [if_pos hv, if_pos hv]
  · rw [if_neg hv, if_neg hv]
    unfold g
    by_cases h : v < (plcs n).length
    · simp [h]
    · simp [h]
theorem lat_fill (n : Network) (h : NetS n) : loopM (impl_LatestStarts_L1 (plcs n)) big (([] : List Int), 0) = some (.inl (List.replicate (plcs n).length (-1))) := by
  have hp := plcs_len n h
  exact loop_go (body := impl_LatestStarts_L1 (plcs n)) (plcs n).length (fun i => (List.replicate i (-1), (i : Int))) (List.replicate (plcs n).length (-1)) (show (plcs n).length < 1000000000000 by omega) (fun i hi => by
    have hws : w64 ((i : Int) + 1) = ((i + 1 : Nat) : Int) := by rw [w64_id (by omega) (by omega)]; omega
    show impl_LatestStarts_L1_b (plcs n) _ _ = _
    unfold impl_LatestStarts_L1_b
    simp only [Int.ofNat_lt, hi, decide_true, cond_true]
    rw [ap_eq (by simp; omega) (by omega), hws, List.replicate_succ']
    rfl) (by
    show impl_LatestStarts_L1_b (plcs n) _ _ = _
    simp [impl_LatestStarts_L1_b])
def latV (n : Network) (a : ByteArray) (b : Int) : List Int :=
  if netB n = true ∧ ¬ idxV (plcs n) a < 0 ∧ ¬ b < 0 then Sweep.Y (iA n) (iB n) (lfN n (idxV (plcs n) a).toNat) (idxV (plcs n) a).toNat n.Legs.length (y0N n (idxV (plcs n) a).toNat b) ((plcs n).length * n.Legs.length) else []
end Go.Sx
