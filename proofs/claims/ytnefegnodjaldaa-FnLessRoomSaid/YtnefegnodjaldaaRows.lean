/-
  No cell of these rows narrows 'for every input' (looked for: loops, veiled, ifaces, maps, wideKeys, modest, calm, conditions, laid).
  DERIVED. THE GIVEN ROWS OF THIS SEAT. 4 by the template 'for every input the law returns true; each argument reads behind the call as it read before'; 0 by the template 'total and deterministic' (their statements: YtnefegnodjaldaaTotals.lean).
  GIVEN WITH THE SEED: the statements are not yours to turn. If you find one false, say at which input.
  Laid BY PROGRAM, IN A SANDBOX (cutbox-rows.mjs): the forced cells as the released guide's own fill.sh prints them over the translation 26b83d68be1a7592… (all of the seat's roots in one cut). By AI agents, Wed Nov 11 2026. No macro, syntax, notation, axiom, sorry.
-/
import Derived.Test.YtnefegnodjaldaaChecked
import GoSem.Claim
import GoSem.ClaimJoined
import GoSem.ClaimMapViews
import Derived.JoinedTies
import Derived.KernelRfl
namespace Go.Proofs.Ytnefegnodjaldaa
/- THE CELL 'sum', in the pinned program and in every row, IS THE sha256 OF THE DUMP (.gsa) THAT YtnefegnodjaldaaProg.lean LOADS. Nothing in Lean hashes anything: it is a label: what it is worth is what the hold of that sum in a sandbox is worth. -/
noncomputable def Try.pinned : Pinned := { name := "ytnefegnodjaldaa", sum := "26b83d68be1a7592a26bd82abe6a8a5aa63ee0c51cc1c7017482bc82206b85b9", checked := Try.checked }
namespace Rows
def none {H : Type} : Left H := { results := [], args := [] }

/-- 'laws.FnExactFindWay': WHATEVER THE INPUT: true; the input reads as it did. -/
def fnExactFindWaySpec : ChangeSpec := { name := "fnExactFindWay", fn := fun _ => fun
  | [d1, d2, d3, d4] => { results := [.lit (.bool true)], args := [d1, d2, d3, d4] }
  | _ => none }
def fnExactFindWayRow : OpenClaim := { program := "ytnefegnodjaldaa", sum := "26b83d68be1a7592a26bd82abe6a8a5aa63ee0c51cc1c7017482bc82206b85b9", func := "loop.example/g03014/laws.FnExactFindWay", spec := "fnExactFindWay", unfollowed := true, recurses := true, apart := false }
def FnExactFindWaySaid : Prop := fnExactFindWayRow.holds Try.pinned (OpenSpec.ofChange fnExactFindWaySpec)

/-- ITS FALSE NEIGHBOUR: 'it returns false'. Refute it at one input. -/
def fnExactFindWayWrong : ChangeSpec := { name := "fnExactFindWay", fn := fun _ => fun
  | [d1, d2, d3, d4] => { results := [.lit (.bool false)], args := [d1, d2, d3, d4] }
  | _ => none }
def FnExactFindWayWrongFalsely : Prop := fnExactFindWayRow.holds Try.pinned (OpenSpec.ofChange fnExactFindWayWrong)

/-- 'laws.FnLessRoom': WHATEVER THE INPUT: true; the input reads as it did. -/
def fnLessRoomSpec : ChangeSpec := { name := "fnLessRoom", fn := fun _ => fun
  | [d] => { results := [.lit (.bool true)], args := [d] }
  | _ => none }
def fnLessRoomRow : OpenClaim := { program := "ytnefegnodjaldaa", sum := "26b83d68be1a7592a26bd82abe6a8a5aa63ee0c51cc1c7017482bc82206b85b9", func := "loop.example/g03014/laws.FnLessRoom", spec := "fnLessRoom", unfollowed := true, recurses := true, apart := false }
def FnLessRoomSaid : Prop := fnLessRoomRow.holds Try.pinned (OpenSpec.ofChange fnLessRoomSpec)

/-- ITS FALSE NEIGHBOUR: 'it returns false'. Refute it at one input. -/
def fnLessRoomWrong : ChangeSpec := { name := "fnLessRoom", fn := fun _ => fun
  | [d] => { results := [.lit (.bool false)], args := [d] }
  | _ => none }
def FnLessRoomWrongFalsely : Prop := fnLessRoomRow.holds Try.pinned (OpenSpec.ofChange fnLessRoomWrong)

/-- 'laws.FnWay': WHATEVER THE INPUT: true; the input reads as it did. -/
def fnWaySpec : ChangeSpec := { name := "fnWay", fn := fun _ => fun
  | [d] => { results := [.lit (.bool true)], args := [d] }
  | _ => none }
def fnWayRow : OpenClaim := { program := "ytnefegnodjaldaa", sum := "26b83d68be1a7592a26bd82abe6a8a5aa63ee0c51cc1c7017482bc82206b85b9", func := "loop.example/g03014/laws.FnWay", spec := "fnWay", unfollowed := true, recurses := true, apart := false }
def FnWaySaid : Prop := fnWayRow.holds Try.pinned (OpenSpec.ofChange fnWaySpec)

/-- ITS FALSE NEIGHBOUR: 'it returns false'. Refute it at one input. -/
def fnWayWrong : ChangeSpec := { name := "fnWay", fn := fun _ => fun
  | [d] => { results := [.lit (.bool false)], args := [d] }
  | _ => none }
def FnWayWrongFalsely : Prop := fnWayRow.holds Try.pinned (OpenSpec.ofChange fnWayWrong)

/-- 'laws.FnWalk': WHATEVER THE INPUT: true; the input reads as it did. -/
def fnWalkSpec : ChangeSpec := { name := "fnWalk", fn := fun _ => fun
  | [d] => { results := [.lit (.bool true)], args := [d] }
  | _ => none }
def fnWalkRow : OpenClaim := { program := "ytnefegnodjaldaa", sum := "26b83d68be1a7592a26bd82abe6a8a5aa63ee0c51cc1c7017482bc82206b85b9", func := "loop.example/g03014/laws.FnWalk", spec := "fnWalk", unfollowed := true, recurses := true, apart := false }
def FnWalkSaid : Prop := fnWalkRow.holds Try.pinned (OpenSpec.ofChange fnWalkSpec)

/-- ITS FALSE NEIGHBOUR: 'it returns false'. Refute it at one input. -/
def fnWalkWrong : ChangeSpec := { name := "fnWalk", fn := fun _ => fun
  | [d] => { results := [.lit (.bool false)], args := [d] }
  | _ => none }
def FnWalkWrongFalsely : Prop := fnWalkRow.holds Try.pinned (OpenSpec.ofChange fnWalkWrong)

/- THE SECOND FORM. 'bulk': how many values and letters a reading holds, each counted each time it is reached (what is shared counts as often as it is met; a slice's spare places count too). A statement '..UptoSaid' is the law's where the arguments, and the package variables that the reading takes, are together of bulk at most 1048576: NARROWER than '..Said'. Prove '..Said' where nothing that the law and all that it calls make is longer than what came in: it says more and counts as full. Else prove '..UptoSaid'. A law counts once. -/
mutual
def uptoBulk {H : Type} : DataW H → Nat
  | .lit (.string bytes) => bytes.length + 1
  | .lit _ => 1
  | .nil => 1
  | .ptr d => uptoBulk d + 1
  | .slice elems spare => uptoBulkAll elems + uptoBulkAll spare + 1
  | .agg parts => uptoBulkAll parts + 1
  | .iface _ d => uptoBulk d + 1
  | .map entries => uptoBulkEntries entries + 1
  | .held _ => 1
def uptoBulkAll {H : Type} : List (DataW H) → Nat
  | [] => 0
  | d :: r => uptoBulk d + uptoBulkAll r
def uptoBulkEntries {H : Type} : List (Lit × DataW H) → Nat
  | [] => 0
  | x :: r => uptoBulkEntry x + uptoBulkEntries r
def uptoBulkEntry {H : Type} : Lit × DataW H → Nat
  | (.string bytes, d) => bytes.length + uptoBulk d + 1
  | (_, d) => uptoBulk d + 1
 end
def uptoSmall : (H : Type) → List (DataW H) → Bool := fun _ ds => decide (uptoBulkAll ds ≤ 1048576)
def OpenSpec.upto (s : _root_.Go.ChangeSpec) : _root_.Go.OpenSpec := { _root_.Go.OpenSpec.ofChange s with cond := some uptoSmall }

/-- 'laws.FnExactFindWay', WHERE WHAT IT READS IS OF BULK AT MOST 1048576: true; the input reads as it did. -/
def fnExactFindWayUptoRow : OpenClaim := { program := "ytnefegnodjaldaa", sum := "26b83d68be1a7592a26bd82abe6a8a5aa63ee0c51cc1c7017482bc82206b85b9", func := "loop.example/g03014/laws.FnExactFindWay", spec := "fnExactFindWay", unfollowed := true, recurses := true, apart := false, narrowed := true }
def FnExactFindWayUptoSaid : Prop := fnExactFindWayUptoRow.holds Try.pinned (OpenSpec.upto fnExactFindWaySpec)

/-- 'laws.FnLessRoom', WHERE WHAT IT READS IS OF BULK AT MOST 1048576: true; the input reads as it did. -/
def fnLessRoomUptoRow : OpenClaim := { program := "ytnefegnodjaldaa", sum := "26b83d68be1a7592a26bd82abe6a8a5aa63ee0c51cc1c7017482bc82206b85b9", func := "loop.example/g03014/laws.FnLessRoom", spec := "fnLessRoom", unfollowed := true, recurses := true, apart := false, narrowed := true }
def FnLessRoomUptoSaid : Prop := fnLessRoomUptoRow.holds Try.pinned (OpenSpec.upto fnLessRoomSpec)

/-- 'laws.FnWay', WHERE WHAT IT READS IS OF BULK AT MOST 1048576: true; the input reads as it did. -/
def fnWayUptoRow : OpenClaim := { program := "ytnefegnodjaldaa", sum := "26b83d68be1a7592a26bd82abe6a8a5aa63ee0c51cc1c7017482bc82206b85b9", func := "loop.example/g03014/laws.FnWay", spec := "fnWay", unfollowed := true, recurses := true, apart := false, narrowed := true }
def FnWayUptoSaid : Prop := fnWayUptoRow.holds Try.pinned (OpenSpec.upto fnWaySpec)

/-- 'laws.FnWalk', WHERE WHAT IT READS IS OF BULK AT MOST 1048576: true; the input reads as it did. -/
def fnWalkUptoRow : OpenClaim := { program := "ytnefegnodjaldaa", sum := "26b83d68be1a7592a26bd82abe6a8a5aa63ee0c51cc1c7017482bc82206b85b9", func := "loop.example/g03014/laws.FnWalk", spec := "fnWalk", unfollowed := true, recurses := true, apart := false, narrowed := true }
def FnWalkUptoSaid : Prop := fnWalkUptoRow.holds Try.pinned (OpenSpec.upto fnWalkSpec)

end Rows
end Go.Proofs.Ytnefegnodjaldaa
