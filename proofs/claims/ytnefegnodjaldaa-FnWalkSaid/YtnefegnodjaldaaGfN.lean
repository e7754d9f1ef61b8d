/- The latest starts: whole sweeps. -/
import Derived.Test.YtnefegnodjaldaaGfM
namespace Go.Sx
open Relax (g g_set)
set_option linter.unusedVariables false

theorem mul_mod {k L i : Nat} (h : i < L) : (k * L + i) % L = i := by
  rw [Nat.mul_comm, Nat.mul_add_mod]; exact Nat.mod_eq_of_lt h
end Go.Sx
