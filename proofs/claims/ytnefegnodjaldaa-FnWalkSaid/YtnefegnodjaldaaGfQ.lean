/- The latest starts: the exact law answers true. -/
import Derived.Test.YtnefegnodjaldaaGfO
namespace Go.Sx
open Relax (g g_set)
set_option linter.unusedVariables false

theorem wf_le {z : Int} (h : (Lit.int .i64 z).wf = true) : z ≤ 9223372036854775807 := by
  simp [Lit.wf, IntKind.signed, IntKind.bits] at h
  omega
def y0N (n : Network) (x : Nat) (b : Int) : List Int := (List.replicate (plcs n).length (-1)).set x b
theorem g_y0 {n : Network} {x : Nat} {b : Int} (hx : x < (plcs n).length) (v : Nat) : g (y0N n x b) v = if v = x then b else -1 := by
  unfold y0N
  rw [g_set (by simpa using hx)]
  by_cases hv : v = x
  · rw [if_pos hv, if_pos hv]
  · rw [if_neg hv, if_neg hv]
    unfold g
    by_cases h : v < (plcs n).length
    · simp [h]
    · simp [h]
def latV (n : Network) (a : ByteArray) (b : Int) : List Int :=
  if netB n = true ∧ ¬ idxV (plcs n) a < 0 ∧ ¬ b < 0 then Sweep.Y (iA n) (iB n) (lfN n (idxV (plcs n) a).toNat) (idxV (plcs n) a).toNat n.Legs.length (y0N n (idxV (plcs n) a).toNat b) ((plcs n).length * n.Legs.length) else []
end Go.Sx
