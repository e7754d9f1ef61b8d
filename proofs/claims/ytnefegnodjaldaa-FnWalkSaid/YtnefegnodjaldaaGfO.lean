/- The latest starts: the sweeps of the program, and the exact laws. -/
import Derived.Test.YtnefegnodjaldaaGfN
namespace Go.Sx
open Relax (g g_set)
set_option linter.unusedVariables false

theorem g_ext {l l' : List Int} (hl : l.length = l'.length) (h : ∀ v, g l v = g l' v) : l = l' := by
  apply List.ext_getElem hl
  intro i h1 h2
  have := h i
  simpa [g, h1, h2] using this
section
variable {n : Network} {x : Nat} {y0 : List Int}
theorem Y_shift (k : Nat) : ∀ t, Sweep.Y (iA n) (iB n) (lfN n x) x n.Legs.length y0 (k * n.Legs.length + t) = Sweep.Y (iA n) (iB n) (lfN n x) x n.Legs.length (Sweep.Y (iA n) (iB n) (lfN n x) x n.Legs.length y0 (k * n.Legs.length)) t
  | 0 => rfl
  | t + 1 => by
    show Sweep.stp (iA n) (iB n) (lfN n x) x ((k * n.Legs.length + t) % n.Legs.length) _ = Sweep.stp (iA n) (iB n) (lfN n x) x (t % n.Legs.length) _
    have e : (k * n.Legs.length + t) % n.Legs.length = t % n.Legs.length := by rw [Nat.mul_comm, Nat.mul_add_mod]
    rw [e]
    exact congrArg _ (Y_shift k t)
theorem Y_const {k : Nat} (h : Sweep.Y (iA n) (iB n) (lfN n x) x n.Legs.length y0 ((k + 1) * n.Legs.length) = Sweep.Y (iA n) (iB n) (lfN n x) x n.Legs.length y0 (k * n.Legs.length)) : ∀ j, Sweep.Y (iA n) (iB n) (lfN n x) x n.Legs.length y0 ((k + j) * n.Legs.length) = Sweep.Y (iA n) (iB n) (lfN n x) x n.Legs.length y0 (k * n.Legs.length)
  | 0 => rfl
  | j + 1 => by
    have ih := Y_const h j
    rw [show (k + (j + 1)) * n.Legs.length = (k + j) * n.Legs.length + n.Legs.length by rw [← Nat.add_assoc, Nat.add_mul, Nat.one_mul], Y_shift, ih, ← Y_shift, show k * n.Legs.length + n.Legs.length = (k + 1) * n.Legs.length by rw [Nat.add_mul, Nat.one_mul]]
    exact h
end
end Go.Sx
