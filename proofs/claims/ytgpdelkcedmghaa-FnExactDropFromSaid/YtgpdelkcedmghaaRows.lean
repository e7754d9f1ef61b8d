/-
  No cell of these rows narrows 'for every input' (looked for: loops, veiled, ifaces, maps, wideKeys, modest, calm, conditions, laid).
  DERIVED. THE GIVEN ROWS OF THIS SEAT. 12 by the template 'for every input the law returns true; each argument reads behind the call as it read before'; 0 by the template 'total and deterministic' (their statements: YtgpdelkcedmghaaTotals.lean).
  GIVEN WITH THE SEED: the statements are not yours to turn. If you find one false, say at which input.
  Laid BY PROGRAM, IN A SANDBOX (cutbox-rows.mjs): the forced cells as the released guide's own fill.sh prints them over the translation 65cc090ee03fe511… (all of the seat's roots in one cut). By AI agents, Wed Nov 11 2026. No macro, syntax, notation, axiom, sorry.
-/
import Derived.Test.YtgpdelkcedmghaaChecked
import GoSem.Claim
import GoSem.ClaimJoined
import GoSem.ClaimMapViews
import Derived.JoinedTies
import Derived.KernelRfl
namespace Go.Proofs.Ytgpdelkcedmghaa
/- THE CELL 'sum', in the pinned program and in every row, IS THE sha256 OF THE DUMP (.gsa) THAT YtgpdelkcedmghaaProg.lean LOADS. Nothing in Lean hashes anything: it is a label: what it is worth is what the hold of that sum in a sandbox is worth. -/
noncomputable def Try.pinned : Pinned := { name := "ytgpdelkcedmghaa", sum := "65cc090ee03fe511da92f1f67d73356aa1e4fb0c45c2feecce027250037f8361", checked := Try.checked }
namespace Rows
def none {H : Type} : Left H := { results := [], args := [] }

/-- 'laws.FnExactMax': WHATEVER THE INPUT: true; the input reads as it did. -/
def fnExactMaxSpec : ChangeSpec := { name := "fnExactMax", fn := fun _ => fun
  | [d1, d2] => { results := [.lit (.bool true)], args := [d1, d2] }
  | _ => none }
def fnExactMaxRow : OpenClaim := { program := "ytgpdelkcedmghaa", sum := "65cc090ee03fe511da92f1f67d73356aa1e4fb0c45c2feecce027250037f8361", func := "loop.example/g03014/laws.FnExactMax", spec := "fnExactMax", apart := false }
def FnExactMaxSaid : Prop := fnExactMaxRow.holds Try.pinned (OpenSpec.ofChange fnExactMaxSpec)

/-- ITS FALSE NEIGHBOUR: 'it returns false'. Refute it at one input. -/
def fnExactMaxWrong : ChangeSpec := { name := "fnExactMax", fn := fun _ => fun
  | [d1, d2] => { results := [.lit (.bool false)], args := [d1, d2] }
  | _ => none }
def FnExactMaxWrongFalsely : Prop := fnExactMaxRow.holds Try.pinned (OpenSpec.ofChange fnExactMaxWrong)

/-- 'laws.FnExactLoadOf': WHATEVER THE INPUT: true; the input reads as it did. -/
def fnExactLoadOfSpec : ChangeSpec := { name := "fnExactLoadOf", fn := fun _ => fun
  | [d1, d2] => { results := [.lit (.bool true)], args := [d1, d2] }
  | _ => none }
def fnExactLoadOfRow : OpenClaim := { program := "ytgpdelkcedmghaa", sum := "65cc090ee03fe511da92f1f67d73356aa1e4fb0c45c2feecce027250037f8361", func := "loop.example/g03014/laws.FnExactLoadOf", spec := "fnExactLoadOf", apart := false }
def FnExactLoadOfSaid : Prop := fnExactLoadOfRow.holds Try.pinned (OpenSpec.ofChange fnExactLoadOfSpec)

/-- ITS FALSE NEIGHBOUR: 'it returns false'. Refute it at one input. -/
def fnExactLoadOfWrong : ChangeSpec := { name := "fnExactLoadOf", fn := fun _ => fun
  | [d1, d2] => { results := [.lit (.bool false)], args := [d1, d2] }
  | _ => none }
def FnExactLoadOfWrongFalsely : Prop := fnExactLoadOfRow.holds Try.pinned (OpenSpec.ofChange fnExactLoadOfWrong)

/-- 'laws.FnExactWhoRides': WHATEVER THE INPUT: true; the input reads as it did. -/
def fnExactWhoRidesSpec : ChangeSpec := { name := "fnExactWhoRides", fn := fun _ => fun
  | [d1, d2] => { results := [.lit (.bool true)], args := [d1, d2] }
  | _ => none }
def fnExactWhoRidesRow : OpenClaim := { program := "ytgpdelkcedmghaa", sum := "65cc090ee03fe511da92f1f67d73356aa1e4fb0c45c2feecce027250037f8361", func := "loop.example/g03014/laws.FnExactWhoRides", spec := "fnExactWhoRides", apart := false }
def FnExactWhoRidesSaid : Prop := fnExactWhoRidesRow.holds Try.pinned (OpenSpec.ofChange fnExactWhoRidesSpec)

/-- ITS FALSE NEIGHBOUR: 'it returns false'. Refute it at one input. -/
def fnExactWhoRidesWrong : ChangeSpec := { name := "fnExactWhoRides", fn := fun _ => fun
  | [d1, d2] => { results := [.lit (.bool false)], args := [d1, d2] }
  | _ => none }
def FnExactWhoRidesWrongFalsely : Prop := fnExactWhoRidesRow.holds Try.pinned (OpenSpec.ofChange fnExactWhoRidesWrong)

/-- 'laws.FnExactTripsOf': WHATEVER THE INPUT: true; the input reads as it did. -/
def fnExactTripsOfSpec : ChangeSpec := { name := "fnExactTripsOf", fn := fun _ => fun
  | [d1, d2] => { results := [.lit (.bool true)], args := [d1, d2] }
  | _ => none }
def fnExactTripsOfRow : OpenClaim := { program := "ytgpdelkcedmghaa", sum := "65cc090ee03fe511da92f1f67d73356aa1e4fb0c45c2feecce027250037f8361", func := "loop.example/g03014/laws.FnExactTripsOf", spec := "fnExactTripsOf", apart := false }
def FnExactTripsOfSaid : Prop := fnExactTripsOfRow.holds Try.pinned (OpenSpec.ofChange fnExactTripsOfSpec)

/-- ITS FALSE NEIGHBOUR: 'it returns false'. Refute it at one input. -/
def fnExactTripsOfWrong : ChangeSpec := { name := "fnExactTripsOf", fn := fun _ => fun
  | [d1, d2] => { results := [.lit (.bool false)], args := [d1, d2] }
  | _ => none }
def FnExactTripsOfWrongFalsely : Prop := fnExactTripsOfRow.holds Try.pinned (OpenSpec.ofChange fnExactTripsOfWrong)

/-- 'laws.FnExactWayEnds': WHATEVER THE INPUT: true; the input reads as it did. -/
def fnExactWayEndsSpec : ChangeSpec := { name := "fnExactWayEnds", fn := fun _ => fun
  | [d1, d2, d3] => { results := [.lit (.bool true)], args := [d1, d2, d3] }
  | _ => none }
def fnExactWayEndsRow : OpenClaim := { program := "ytgpdelkcedmghaa", sum := "65cc090ee03fe511da92f1f67d73356aa1e4fb0c45c2feecce027250037f8361", func := "loop.example/g03014/laws.FnExactWayEnds", spec := "fnExactWayEnds", apart := false }
def FnExactWayEndsSaid : Prop := fnExactWayEndsRow.holds Try.pinned (OpenSpec.ofChange fnExactWayEndsSpec)

/-- ITS FALSE NEIGHBOUR: 'it returns false'. Refute it at one input. -/
def fnExactWayEndsWrong : ChangeSpec := { name := "fnExactWayEnds", fn := fun _ => fun
  | [d1, d2, d3] => { results := [.lit (.bool false)], args := [d1, d2, d3] }
  | _ => none }
def FnExactWayEndsWrongFalsely : Prop := fnExactWayEndsRow.holds Try.pinned (OpenSpec.ofChange fnExactWayEndsWrong)

/-- 'laws.FnExactSlackOf': WHATEVER THE INPUT: true; the input reads as it did. -/
def fnExactSlackOfSpec : ChangeSpec := { name := "fnExactSlackOf", fn := fun _ => fun
  | [d1, d2] => { results := [.lit (.bool true)], args := [d1, d2] }
  | _ => none }
def fnExactSlackOfRow : OpenClaim := { program := "ytgpdelkcedmghaa", sum := "65cc090ee03fe511da92f1f67d73356aa1e4fb0c45c2feecce027250037f8361", func := "loop.example/g03014/laws.FnExactSlackOf", spec := "fnExactSlackOf", apart := false }
def FnExactSlackOfSaid : Prop := fnExactSlackOfRow.holds Try.pinned (OpenSpec.ofChange fnExactSlackOfSpec)

/-- ITS FALSE NEIGHBOUR: 'it returns false'. Refute it at one input. -/
def fnExactSlackOfWrong : ChangeSpec := { name := "fnExactSlackOf", fn := fun _ => fun
  | [d1, d2] => { results := [.lit (.bool false)], args := [d1, d2] }
  | _ => none }
def FnExactSlackOfWrongFalsely : Prop := fnExactSlackOfRow.holds Try.pinned (OpenSpec.ofChange fnExactSlackOfWrong)

/-- 'laws.FnExactAreBookings': WHATEVER THE INPUT: true; the input reads as it did. -/
def fnExactAreBookingsSpec : ChangeSpec := { name := "fnExactAreBookings", fn := fun _ => fun
  | [d1, d2] => { results := [.lit (.bool true)], args := [d1, d2] }
  | _ => none }
def fnExactAreBookingsRow : OpenClaim := { program := "ytgpdelkcedmghaa", sum := "65cc090ee03fe511da92f1f67d73356aa1e4fb0c45c2feecce027250037f8361", func := "loop.example/g03014/laws.FnExactAreBookings", spec := "fnExactAreBookings", apart := false }
def FnExactAreBookingsSaid : Prop := fnExactAreBookingsRow.holds Try.pinned (OpenSpec.ofChange fnExactAreBookingsSpec)

/-- ITS FALSE NEIGHBOUR: 'it returns false'. Refute it at one input. -/
def fnExactAreBookingsWrong : ChangeSpec := { name := "fnExactAreBookings", fn := fun _ => fun
  | [d1, d2] => { results := [.lit (.bool false)], args := [d1, d2] }
  | _ => none }
def FnExactAreBookingsWrongFalsely : Prop := fnExactAreBookingsRow.holds Try.pinned (OpenSpec.ofChange fnExactAreBookingsWrong)

/-- 'laws.FnExactSpareOn': WHATEVER THE INPUT: true; the input reads as it did. -/
def fnExactSpareOnSpec : ChangeSpec := { name := "fnExactSpareOn", fn := fun _ => fun
  | [d1, d2, d3] => { results := [.lit (.bool true)], args := [d1, d2, d3] }
  | _ => none }
def fnExactSpareOnRow : OpenClaim := { program := "ytgpdelkcedmghaa", sum := "65cc090ee03fe511da92f1f67d73356aa1e4fb0c45c2feecce027250037f8361", func := "loop.example/g03014/laws.FnExactSpareOn", spec := "fnExactSpareOn", apart := false }
def FnExactSpareOnSaid : Prop := fnExactSpareOnRow.holds Try.pinned (OpenSpec.ofChange fnExactSpareOnSpec)

/-- ITS FALSE NEIGHBOUR: 'it returns false'. Refute it at one input. -/
def fnExactSpareOnWrong : ChangeSpec := { name := "fnExactSpareOn", fn := fun _ => fun
  | [d1, d2, d3] => { results := [.lit (.bool false)], args := [d1, d2, d3] }
  | _ => none }
def FnExactSpareOnWrongFalsely : Prop := fnExactSpareOnRow.holds Try.pinned (OpenSpec.ofChange fnExactSpareOnWrong)

/-- 'laws.FnExactFillOf': WHATEVER THE INPUT: true; the input reads as it did. -/
def fnExactFillOfSpec : ChangeSpec := { name := "fnExactFillOf", fn := fun _ => fun
  | [d1, d2, d3] => { results := [.lit (.bool true)], args := [d1, d2, d3] }
  | _ => none }
def fnExactFillOfRow : OpenClaim := { program := "ytgpdelkcedmghaa", sum := "65cc090ee03fe511da92f1f67d73356aa1e4fb0c45c2feecce027250037f8361", func := "loop.example/g03014/laws.FnExactFillOf", spec := "fnExactFillOf", apart := false }
def FnExactFillOfSaid : Prop := fnExactFillOfRow.holds Try.pinned (OpenSpec.ofChange fnExactFillOfSpec)

/-- ITS FALSE NEIGHBOUR: 'it returns false'. Refute it at one input. -/
def fnExactFillOfWrong : ChangeSpec := { name := "fnExactFillOf", fn := fun _ => fun
  | [d1, d2, d3] => { results := [.lit (.bool false)], args := [d1, d2, d3] }
  | _ => none }
def FnExactFillOfWrongFalsely : Prop := fnExactFillOfRow.holds Try.pinned (OpenSpec.ofChange fnExactFillOfWrong)

/-- 'laws.FnExactRideAt': WHATEVER THE INPUT: true; the input reads as it did. -/
def fnExactRideAtSpec : ChangeSpec := { name := "fnExactRideAt", fn := fun _ => fun
  | [d1, d2, d3, d4] => { results := [.lit (.bool true)], args := [d1, d2, d3, d4] }
  | _ => none }
def fnExactRideAtRow : OpenClaim := { program := "ytgpdelkcedmghaa", sum := "65cc090ee03fe511da92f1f67d73356aa1e4fb0c45c2feecce027250037f8361", func := "loop.example/g03014/laws.FnExactRideAt", spec := "fnExactRideAt", apart := false }
def FnExactRideAtSaid : Prop := fnExactRideAtRow.holds Try.pinned (OpenSpec.ofChange fnExactRideAtSpec)

/-- ITS FALSE NEIGHBOUR: 'it returns false'. Refute it at one input. -/
def fnExactRideAtWrong : ChangeSpec := { name := "fnExactRideAt", fn := fun _ => fun
  | [d1, d2, d3, d4] => { results := [.lit (.bool false)], args := [d1, d2, d3, d4] }
  | _ => none }
def FnExactRideAtWrongFalsely : Prop := fnExactRideAtRow.holds Try.pinned (OpenSpec.ofChange fnExactRideAtWrong)

/-- 'laws.FnExactNextFree': WHATEVER THE INPUT: true; the input reads as it did. -/
def fnExactNextFreeSpec : ChangeSpec := { name := "fnExactNextFree", fn := fun _ => fun
  | [d1, d2, d3, d4, d5, d6] => { results := [.lit (.bool true)], args := [d1, d2, d3, d4, d5, d6] }
  | _ => none }
def fnExactNextFreeRow : OpenClaim := { program := "ytgpdelkcedmghaa", sum := "65cc090ee03fe511da92f1f67d73356aa1e4fb0c45c2feecce027250037f8361", func := "loop.example/g03014/laws.FnExactNextFree", spec := "fnExactNextFree", unfollowed := true, recurses := true, apart := false }
def FnExactNextFreeSaid : Prop := fnExactNextFreeRow.holds Try.pinned (OpenSpec.ofChange fnExactNextFreeSpec)

/-- ITS FALSE NEIGHBOUR: 'it returns false'. Refute it at one input. -/
def fnExactNextFreeWrong : ChangeSpec := { name := "fnExactNextFree", fn := fun _ => fun
  | [d1, d2, d3, d4, d5, d6] => { results := [.lit (.bool false)], args := [d1, d2, d3, d4, d5, d6] }
  | _ => none }
def FnExactNextFreeWrongFalsely : Prop := fnExactNextFreeRow.holds Try.pinned (OpenSpec.ofChange fnExactNextFreeWrong)

/-- 'laws.FnExactDropFrom': WHATEVER THE INPUT: true; the input reads as it did. -/
def fnExactDropFromSpec : ChangeSpec := { name := "fnExactDropFrom", fn := fun _ => fun
  | [d1, d2, d3, d4] => { results := [.lit (.bool true)], args := [d1, d2, d3, d4] }
  | _ => none }
def fnExactDropFromRow : OpenClaim := { program := "ytgpdelkcedmghaa", sum := "65cc090ee03fe511da92f1f67d73356aa1e4fb0c45c2feecce027250037f8361", func := "loop.example/g03014/laws.FnExactDropFrom", spec := "fnExactDropFrom", apart := false }
def FnExactDropFromSaid : Prop := fnExactDropFromRow.holds Try.pinned (OpenSpec.ofChange fnExactDropFromSpec)

/-- ITS FALSE NEIGHBOUR: 'it returns false'. Refute it at one input. -/
def fnExactDropFromWrong : ChangeSpec := { name := "fnExactDropFrom", fn := fun _ => fun
  | [d1, d2, d3, d4] => { results := [.lit (.bool false)], args := [d1, d2, d3, d4] }
  | _ => none }
def FnExactDropFromWrongFalsely : Prop := fnExactDropFromRow.holds Try.pinned (OpenSpec.ofChange fnExactDropFromWrong)

/- THE SECOND FORM. 'bulk': how many values and letters a reading holds, each counted each time it is reached (what is shared counts as often as it is met; a slice's spare places count too). A statement '..UptoSaid' is the law's where the arguments, and the package variables that the reading takes, are together of bulk at most 1048576: NARROWER than '..Said'. Prove '..Said' where nothing that the law and all that it calls make is longer than what came in: it says more and counts as full. Else prove '..UptoSaid'. A law counts once. -/
mutual
def uptoBulk {H : Type} : DataW H → Nat
  | .lit (.string bytes) => bytes.length + 1
  | .lit _ => 1
  | .nil => 1
  | .ptr d => uptoBulk d + 1
  | .slice elems spare => uptoBulkAll elems + uptoBulkAll spare + 1
  | .agg parts => uptoBulkAll parts + 1
  | .iface _ d => uptoBulk d + 1
  | .map entries => uptoBulkEntries entries + 1
  | .held _ => 1
def uptoBulkAll {H : Type} : List (DataW H) → Nat
  | [] => 0
  | d :: r => uptoBulk d + uptoBulkAll r
def uptoBulkEntries {H : Type} : List (Lit × DataW H) → Nat
  | [] => 0
  | x :: r => uptoBulkEntry x + uptoBulkEntries r
def uptoBulkEntry {H : Type} : Lit × DataW H → Nat
  | (.string bytes, d) => bytes.length + uptoBulk d + 1
  | (_, d) => uptoBulk d + 1
 end
def uptoSmall : (H : Type) → List (DataW H) → Bool := fun _ ds => decide (uptoBulkAll ds ≤ 1048576)
def OpenSpec.upto (s : _root_.Go.ChangeSpec) : _root_.Go.OpenSpec := { _root_.Go.OpenSpec.ofChange s with cond := some uptoSmall }

/-- 'laws.FnExactMax', WHERE WHAT IT READS IS OF BULK AT MOST 1048576: true; the input reads as it did. -/
def fnExactMaxUptoRow : OpenClaim := { program := "ytgpdelkcedmghaa", sum := "65cc090ee03fe511da92f1f67d73356aa1e4fb0c45c2feecce027250037f8361", func := "loop.example/g03014/laws.FnExactMax", spec := "fnExactMax", apart := false, narrowed := true }
def FnExactMaxUptoSaid : Prop := fnExactMaxUptoRow.holds Try.pinned (OpenSpec.upto fnExactMaxSpec)

/-- 'laws.FnExactLoadOf', WHERE WHAT IT READS IS OF BULK AT MOST 1048576: true; the input reads as it did. -/
def fnExactLoadOfUptoRow : OpenClaim := { program := "ytgpdelkcedmghaa", sum := "65cc090ee03fe511da92f1f67d73356aa1e4fb0c45c2feecce027250037f8361", func := "loop.example/g03014/laws.FnExactLoadOf", spec := "fnExactLoadOf", apart := false, narrowed := true }
def FnExactLoadOfUptoSaid : Prop := fnExactLoadOfUptoRow.holds Try.pinned (OpenSpec.upto fnExactLoadOfSpec)

/-- 'laws.FnExactWhoRides', WHERE WHAT IT READS IS OF BULK AT MOST 1048576: true; the input reads as it did. -/
def fnExactWhoRidesUptoRow : OpenClaim := { program := "ytgpdelkcedmghaa", sum := "65cc090ee03fe511da92f1f67d73356aa1e4fb0c45c2feecce027250037f8361", func := "loop.example/g03014/laws.FnExactWhoRides", spec := "fnExactWhoRides", apart := false, narrowed := true }
def FnExactWhoRidesUptoSaid : Prop := fnExactWhoRidesUptoRow.holds Try.pinned (OpenSpec.upto fnExactWhoRidesSpec)

/-- 'laws.FnExactTripsOf', WHERE WHAT IT READS IS OF BULK AT MOST 1048576: true; the input reads as it did. -/
def fnExactTripsOfUptoRow : OpenClaim := { program := "ytgpdelkcedmghaa", sum := "65cc090ee03fe511da92f1f67d73356aa1e4fb0c45c2feecce027250037f8361", func := "loop.example/g03014/laws.FnExactTripsOf", spec := "fnExactTripsOf", apart := false, narrowed := true }
def FnExactTripsOfUptoSaid : Prop := fnExactTripsOfUptoRow.holds Try.pinned (OpenSpec.upto fnExactTripsOfSpec)

/-- 'laws.FnExactWayEnds', WHERE WHAT IT READS IS OF BULK AT MOST 1048576: true; the input reads as it did. -/
def fnExactWayEndsUptoRow : OpenClaim := { program := "ytgpdelkcedmghaa", sum := "65cc090ee03fe511da92f1f67d73356aa1e4fb0c45c2feecce027250037f8361", func := "loop.example/g03014/laws.FnExactWayEnds", spec := "fnExactWayEnds", apart := false, narrowed := true }
def FnExactWayEndsUptoSaid : Prop := fnExactWayEndsUptoRow.holds Try.pinned (OpenSpec.upto fnExactWayEndsSpec)

/-- 'laws.FnExactSlackOf', WHERE WHAT IT READS IS OF BULK AT MOST 1048576: true; the input reads as it did. -/
def fnExactSlackOfUptoRow : OpenClaim := { program := "ytgpdelkcedmghaa", sum := "65cc090ee03fe511da92f1f67d73356aa1e4fb0c45c2feecce027250037f8361", func := "loop.example/g03014/laws.FnExactSlackOf", spec := "fnExactSlackOf", apart := false, narrowed := true }
def FnExactSlackOfUptoSaid : Prop := fnExactSlackOfUptoRow.holds Try.pinned (OpenSpec.upto fnExactSlackOfSpec)

/-- 'laws.FnExactAreBookings', WHERE WHAT IT READS IS OF BULK AT MOST 1048576: true; the input reads as it did. -/
def fnExactAreBookingsUptoRow : OpenClaim := { program := "ytgpdelkcedmghaa", sum := "65cc090ee03fe511da92f1f67d73356aa1e4fb0c45c2feecce027250037f8361", func := "loop.example/g03014/laws.FnExactAreBookings", spec := "fnExactAreBookings", apart := false, narrowed := true }
def FnExactAreBookingsUptoSaid : Prop := fnExactAreBookingsUptoRow.holds Try.pinned (OpenSpec.upto fnExactAreBookingsSpec)

/-- 'laws.FnExactSpareOn', WHERE WHAT IT READS IS OF BULK AT MOST 1048576: true; the input reads as it did. -/
def fnExactSpareOnUptoRow : OpenClaim := { program := "ytgpdelkcedmghaa", sum := "65cc090ee03fe511da92f1f67d73356aa1e4fb0c45c2feecce027250037f8361", func := "loop.example/g03014/laws.FnExactSpareOn", spec := "fnExactSpareOn", apart := false, narrowed := true }
def FnExactSpareOnUptoSaid : Prop := fnExactSpareOnUptoRow.holds Try.pinned (OpenSpec.upto fnExactSpareOnSpec)

/-- 'laws.FnExactFillOf', WHERE WHAT IT READS IS OF BULK AT MOST 1048576: true; the input reads as it did. -/
def fnExactFillOfUptoRow : OpenClaim := { program := "ytgpdelkcedmghaa", sum := "65cc090ee03fe511da92f1f67d73356aa1e4fb0c45c2feecce027250037f8361", func := "loop.example/g03014/laws.FnExactFillOf", spec := "fnExactFillOf", apart := false, narrowed := true }
def FnExactFillOfUptoSaid : Prop := fnExactFillOfUptoRow.holds Try.pinned (OpenSpec.upto fnExactFillOfSpec)

/-- 'laws.FnExactRideAt', WHERE WHAT IT READS IS OF BULK AT MOST 1048576: true; the input reads as it did. -/
def fnExactRideAtUptoRow : OpenClaim := { program := "ytgpdelkcedmghaa", sum := "65cc090ee03fe511da92f1f67d73356aa1e4fb0c45c2feecce027250037f8361", func := "loop.example/g03014/laws.FnExactRideAt", spec := "fnExactRideAt", apart := false, narrowed := true }
def FnExactRideAtUptoSaid : Prop := fnExactRideAtUptoRow.holds Try.pinned (OpenSpec.upto fnExactRideAtSpec)

/-- 'laws.FnExactNextFree', WHERE WHAT IT READS IS OF BULK AT MOST 1048576: true; the input reads as it did. -/
def fnExactNextFreeUptoRow : OpenClaim := { program := "ytgpdelkcedmghaa", sum := "65cc090ee03fe511da92f1f67d73356aa1e4fb0c45c2feecce027250037f8361", func := "loop.example/g03014/laws.FnExactNextFree", spec := "fnExactNextFree", unfollowed := true, recurses := true, apart := false, narrowed := true }
def FnExactNextFreeUptoSaid : Prop := fnExactNextFreeUptoRow.holds Try.pinned (OpenSpec.upto fnExactNextFreeSpec)

/-- 'laws.FnExactDropFrom', WHERE WHAT IT READS IS OF BULK AT MOST 1048576: true; the input reads as it did. -/
def fnExactDropFromUptoRow : OpenClaim := { program := "ytgpdelkcedmghaa", sum := "65cc090ee03fe511da92f1f67d73356aa1e4fb0c45c2feecce027250037f8361", func := "loop.example/g03014/laws.FnExactDropFrom", spec := "fnExactDropFrom", apart := false, narrowed := true }
def FnExactDropFromUptoSaid : Prop := fnExactDropFromUptoRow.holds Try.pinned (OpenSpec.upto fnExactDropFromSpec)

end Rows
end Go.Proofs.Ytgpdelkcedmghaa
