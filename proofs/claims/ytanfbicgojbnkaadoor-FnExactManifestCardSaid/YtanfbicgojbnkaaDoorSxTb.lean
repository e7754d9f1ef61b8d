/- What is known of the library's variables wherever a contract is entered: a table is laid. -/
import Derived.Lib.LaidTab
import Derived.Lib.ItoaMem
namespace Go.Sx
/-- The table of powers lies in its block. -/
def Tab (g : Nat → Option (Array Value)) : Prop :=
  g 0 = some (Lib.pow10Tab.map fun z => Value.int .u64 z).toArray
theorem Tab.mono {g g' : Nat → Option (Array Value)} (h : ∀ b c, g b = some c → g' b = some c) (t : Tab g) : Tab g' := h _ _ t
theorem Tab.pow {g : Nat → Option (Array Value)} (t : Tab g) : g 0 = some (Lib.pow10Tab.map fun z => Value.int .u64 z).toArray := t
end Go.Sx
