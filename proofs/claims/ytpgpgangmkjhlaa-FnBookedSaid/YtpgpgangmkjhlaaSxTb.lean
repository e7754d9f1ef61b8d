/- What is known of the library's variables wherever a contract is entered: here nothing (the texts over it are those of a program that lays some). -/
import Derived.Lib.LaidTab
namespace Go.Sx
/-- Nothing need lie anywhere. -/
def Tab (_ : Nat → Option (Array Value)) : Prop := True
theorem Tab.mono {g g' : Nat → Option (Array Value)} (_ : ∀ b c, g b = some c → g' b = some c) (_ : Tab g) : Tab g' := trivial
end Go.Sx
