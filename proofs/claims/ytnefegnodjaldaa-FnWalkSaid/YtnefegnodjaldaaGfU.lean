/- The latest start: the exact law answers true. -/
import Derived.Test.YtnefegnodjaldaaGfQ
namespace Go.Sx
open Relax (g g_set)
set_option linter.unusedVariables false

theorem lat_len (n : Network) (h : NetS n) (a : ByteArray) (b : Int) : latV n a b = [] ∨ (latV n a b).length = (plcs n).length := by
  unfold latV
  split
  · exact .inr (Sweep.Y_len (by simp [y0N]) _)
  · exact .inl rfl
end Go.Sx
