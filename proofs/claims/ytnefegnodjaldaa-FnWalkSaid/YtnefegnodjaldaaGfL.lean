/- The latest starts: sweeps until nothing turns, and a fixed number of sweeps, come to the same. -/
import Derived.Test.YtnefegnodjaldaaGfR
import Derived.Test.YtnefegnodjaldaaSxY
namespace Go.Sx
open Relax (g g_set)
set_option linter.unusedVariables false

def lasB (n : Network) (leg due : Int) (d : Nat) : Bool := runB n leg d && decide (enT n ⟨leg, d⟩ ≤ due)
def days : List Nat := (List.range 61).reverse
theorem fold_last (p : Nat → Bool) : ∀ (l : List Nat) (i : Nat) (x : Int), each (X := Int) (R := Int) (fun _ d x => .inl (bif p d then (d : Int) else x)) i l x = .inl (match l.reverse.find? p with | some d => (d : Int) | none => x)
  | [], _, x => rfl
  | a :: l, i, x => by
    rw [each]
    show each _ (i + 1) l _ = _
    rw [fold_last p l (i + 1)]
    rw [List.reverse_cons, List.find?_append]
    cases h : l.reverse.find? p with
    | some d => rfl
    | none =>
      cases hp : p a <;> simp [hp]
theorem days_get {i : Nat} (h : i < days.length) : days[i] = 60 - i := by
  have h61 : i < 61 := by simpa [days] using h
  have key : ∀ i < 61, days[i]? = some (60 - i) := by decide
  have := key i h61
  rw [List.getElem?_eq_getElem h] at this
  injection this
end Go.Sx
