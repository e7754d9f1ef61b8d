/- What is known of the library's variables wherever a contract is entered: two tables are laid, two errors are no nil. -/
import Derived.Lib.LaidTab
import Derived.Lib.ItoaMem
namespace Go.Sx
/-- The table of powers lies in its block; the two errors' cells bear an error. -/
def Tab (g : Nat → Option (Array Value)) : Prop :=
  g 0 = some (Lib.pow10Tab.map fun z => Value.int .u64 z).toArray ∧ (∃ t p, g 1 = some #[.iface t p]) ∧ ∃ t p, g 2 = some #[.iface t p]
theorem Tab.mono {g g' : Nat → Option (Array Value)} (h : ∀ b c, g b = some c → g' b = some c) (t : Tab g) : Tab g' := by
  obtain ⟨h1, ⟨t2, p2, h2⟩, t3, p3, h3⟩ := t
  exact ⟨h _ _ h1, ⟨t2, p2, h _ _ h2⟩, t3, p3, h _ _ h3⟩
theorem Tab.pow {g : Nat → Option (Array Value)} (t : Tab g) : g 0 = some (Lib.pow10Tab.map fun z => Value.int .u64 z).toArray := t.1
end Go.Sx
