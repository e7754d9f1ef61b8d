/-
  No cell of these rows narrows 'for every input' (looked for: loops, veiled, ifaces, maps, wideKeys, modest, calm, conditions, laid).
  DERIVED. THE GIVEN ROWS OF THIS SEAT. 19 by the template 'for every input the law returns true; each argument reads behind the call as it read before'; 0 by the template 'total and deterministic' (their statements: YtgipaamnefphgaaTotals.lean).
  GIVEN WITH THE SEED: the statements are not yours to turn. If you find one false, say at which input.
  Laid BY PROGRAM, IN A SANDBOX (cutbox-rows.mjs): the forced cells as the released guide's own fill.sh prints them over the translation abf6c2a72b8fd0c2… (all of the seat's roots in one cut). By AI agents, Wed Nov 11 2026. No macro, syntax, notation, axiom, sorry.
-/
import Derived.Test.YtgipaamnefphgaaChecked
import GoSem.Claim
import GoSem.ClaimJoined
import GoSem.ClaimMapViews
import Derived.JoinedTies
import Derived.KernelRfl
namespace Go.Proofs.Ytgipaamnefphgaa
/- THE CELL 'sum', in the pinned program and in every row, IS THE sha256 OF THE DUMP (.gsa) THAT YtgipaamnefphgaaProg.lean LOADS. Nothing in Lean hashes anything: it is a label: what it is worth is what the hold of that sum in a sandbox is worth. -/
noncomputable def Try.pinned : Pinned := { name := "ytgipaamnefphgaa", sum := "abf6c2a72b8fd0c26380e598718dff0c83a57da486adb6c1ae4f694c146ab71b", checked := Try.checked }
namespace Rows
def none {H : Type} : Left H := { results := [], args := [] }

/-- 'laws.FnExactFindThing': WHATEVER THE INPUT: true; the input reads as it did. -/
def fnExactFindThingSpec : ChangeSpec := { name := "fnExactFindThing", fn := fun _ => fun
  | [d1, d2] => { results := [.lit (.bool true)], args := [d1, d2] }
  | _ => none }
def fnExactFindThingRow : OpenClaim := { program := "ytgipaamnefphgaa", sum := "abf6c2a72b8fd0c26380e598718dff0c83a57da486adb6c1ae4f694c146ab71b", func := "loop.example/g03014/laws.FnExactFindThing", spec := "fnExactFindThing", apart := false }
def FnExactFindThingSaid : Prop := fnExactFindThingRow.holds Try.pinned (OpenSpec.ofChange fnExactFindThingSpec)

/-- ITS FALSE NEIGHBOUR: 'it returns false'. Refute it at one input. -/
def fnExactFindThingWrong : ChangeSpec := { name := "fnExactFindThing", fn := fun _ => fun
  | [d1, d2] => { results := [.lit (.bool false)], args := [d1, d2] }
  | _ => none }
def FnExactFindThingWrongFalsely : Prop := fnExactFindThingRow.holds Try.pinned (OpenSpec.ofChange fnExactFindThingWrong)

/-- 'laws.FnExactAreThings': WHATEVER THE INPUT: true; the input reads as it did. -/
def fnExactAreThingsSpec : ChangeSpec := { name := "fnExactAreThings", fn := fun _ => fun
  | [d] => { results := [.lit (.bool true)], args := [d] }
  | _ => none }
def fnExactAreThingsRow : OpenClaim := { program := "ytgipaamnefphgaa", sum := "abf6c2a72b8fd0c26380e598718dff0c83a57da486adb6c1ae4f694c146ab71b", func := "loop.example/g03014/laws.FnExactAreThings", spec := "fnExactAreThings", recurses := true, apart := false }
def FnExactAreThingsSaid : Prop := fnExactAreThingsRow.holds Try.pinned (OpenSpec.ofChange fnExactAreThingsSpec)

/-- ITS FALSE NEIGHBOUR: 'it returns false'. Refute it at one input. -/
def fnExactAreThingsWrong : ChangeSpec := { name := "fnExactAreThings", fn := fun _ => fun
  | [d] => { results := [.lit (.bool false)], args := [d] }
  | _ => none }
def FnExactAreThingsWrongFalsely : Prop := fnExactAreThingsRow.holds Try.pinned (OpenSpec.ofChange fnExactAreThingsWrong)

/-- 'laws.FnExactDepthOf': WHATEVER THE INPUT: true; the input reads as it did. -/
def fnExactDepthOfSpec : ChangeSpec := { name := "fnExactDepthOf", fn := fun _ => fun
  | [d1, d2] => { results := [.lit (.bool true)], args := [d1, d2] }
  | _ => none }
def fnExactDepthOfRow : OpenClaim := { program := "ytgipaamnefphgaa", sum := "abf6c2a72b8fd0c26380e598718dff0c83a57da486adb6c1ae4f694c146ab71b", func := "loop.example/g03014/laws.FnExactDepthOf", spec := "fnExactDepthOf", recurses := true, apart := false }
def FnExactDepthOfSaid : Prop := fnExactDepthOfRow.holds Try.pinned (OpenSpec.ofChange fnExactDepthOfSpec)

/-- ITS FALSE NEIGHBOUR: 'it returns false'. Refute it at one input. -/
def fnExactDepthOfWrong : ChangeSpec := { name := "fnExactDepthOf", fn := fun _ => fun
  | [d1, d2] => { results := [.lit (.bool false)], args := [d1, d2] }
  | _ => none }
def FnExactDepthOfWrongFalsely : Prop := fnExactDepthOfRow.holds Try.pinned (OpenSpec.ofChange fnExactDepthOfWrong)

/-- 'laws.FnExactGrossOf': WHATEVER THE INPUT: true; the input reads as it did. -/
def fnExactGrossOfSpec : ChangeSpec := { name := "fnExactGrossOf", fn := fun _ => fun
  | [d1, d2] => { results := [.lit (.bool true)], args := [d1, d2] }
  | _ => none }
def fnExactGrossOfRow : OpenClaim := { program := "ytgipaamnefphgaa", sum := "abf6c2a72b8fd0c26380e598718dff0c83a57da486adb6c1ae4f694c146ab71b", func := "loop.example/g03014/laws.FnExactGrossOf", spec := "fnExactGrossOf", recurses := true, apart := false }
def FnExactGrossOfSaid : Prop := fnExactGrossOfRow.holds Try.pinned (OpenSpec.ofChange fnExactGrossOfSpec)

/-- ITS FALSE NEIGHBOUR: 'it returns false'. Refute it at one input. -/
def fnExactGrossOfWrong : ChangeSpec := { name := "fnExactGrossOf", fn := fun _ => fun
  | [d1, d2] => { results := [.lit (.bool false)], args := [d1, d2] }
  | _ => none }
def FnExactGrossOfWrongFalsely : Prop := fnExactGrossOfRow.holds Try.pinned (OpenSpec.ofChange fnExactGrossOfWrong)

/-- 'laws.FnExactOuterOf': WHATEVER THE INPUT: true; the input reads as it did. -/
def fnExactOuterOfSpec : ChangeSpec := { name := "fnExactOuterOf", fn := fun _ => fun
  | [d1, d2] => { results := [.lit (.bool true)], args := [d1, d2] }
  | _ => none }
def fnExactOuterOfRow : OpenClaim := { program := "ytgipaamnefphgaa", sum := "abf6c2a72b8fd0c26380e598718dff0c83a57da486adb6c1ae4f694c146ab71b", func := "loop.example/g03014/laws.FnExactOuterOf", spec := "fnExactOuterOf", recurses := true, apart := false }
def FnExactOuterOfSaid : Prop := fnExactOuterOfRow.holds Try.pinned (OpenSpec.ofChange fnExactOuterOfSpec)

/-- ITS FALSE NEIGHBOUR: 'it returns false'. Refute it at one input. -/
def fnExactOuterOfWrong : ChangeSpec := { name := "fnExactOuterOf", fn := fun _ => fun
  | [d1, d2] => { results := [.lit (.bool false)], args := [d1, d2] }
  | _ => none }
def FnExactOuterOfWrongFalsely : Prop := fnExactOuterOfRow.holds Try.pinned (OpenSpec.ofChange fnExactOuterOfWrong)

/-- 'laws.FnExactIsLocked': WHATEVER THE INPUT: true; the input reads as it did. -/
def fnExactIsLockedSpec : ChangeSpec := { name := "fnExactIsLocked", fn := fun _ => fun
  | [d1, d2] => { results := [.lit (.bool true)], args := [d1, d2] }
  | _ => none }
def fnExactIsLockedRow : OpenClaim := { program := "ytgipaamnefphgaa", sum := "abf6c2a72b8fd0c26380e598718dff0c83a57da486adb6c1ae4f694c146ab71b", func := "loop.example/g03014/laws.FnExactIsLocked", spec := "fnExactIsLocked", recurses := true, apart := false }
def FnExactIsLockedSaid : Prop := fnExactIsLockedRow.holds Try.pinned (OpenSpec.ofChange fnExactIsLockedSpec)

/-- ITS FALSE NEIGHBOUR: 'it returns false'. Refute it at one input. -/
def fnExactIsLockedWrong : ChangeSpec := { name := "fnExactIsLocked", fn := fun _ => fun
  | [d1, d2] => { results := [.lit (.bool false)], args := [d1, d2] }
  | _ => none }
def FnExactIsLockedWrongFalsely : Prop := fnExactIsLockedRow.holds Try.pinned (OpenSpec.ofChange fnExactIsLockedWrong)

/-- 'laws.FnExactInsideOf': WHATEVER THE INPUT: true; the input reads as it did. -/
def fnExactInsideOfSpec : ChangeSpec := { name := "fnExactInsideOf", fn := fun _ => fun
  | [d1, d2] => { results := [.lit (.bool true)], args := [d1, d2] }
  | _ => none }
def fnExactInsideOfRow : OpenClaim := { program := "ytgipaamnefphgaa", sum := "abf6c2a72b8fd0c26380e598718dff0c83a57da486adb6c1ae4f694c146ab71b", func := "loop.example/g03014/laws.FnExactInsideOf", spec := "fnExactInsideOf", recurses := true, apart := false }
def FnExactInsideOfSaid : Prop := fnExactInsideOfRow.holds Try.pinned (OpenSpec.ofChange fnExactInsideOfSpec)

/-- ITS FALSE NEIGHBOUR: 'it returns false'. Refute it at one input. -/
def fnExactInsideOfWrong : ChangeSpec := { name := "fnExactInsideOf", fn := fun _ => fun
  | [d1, d2] => { results := [.lit (.bool false)], args := [d1, d2] }
  | _ => none }
def FnExactInsideOfWrongFalsely : Prop := fnExactInsideOfRow.holds Try.pinned (OpenSpec.ofChange fnExactInsideOfWrong)

/-- 'laws.FnExactAllInside': WHATEVER THE INPUT: true; the input reads as it did. -/
def fnExactAllInsideSpec : ChangeSpec := { name := "fnExactAllInside", fn := fun _ => fun
  | [d1, d2] => { results := [.lit (.bool true)], args := [d1, d2] }
  | _ => none }
def fnExactAllInsideRow : OpenClaim := { program := "ytgipaamnefphgaa", sum := "abf6c2a72b8fd0c26380e598718dff0c83a57da486adb6c1ae4f694c146ab71b", func := "loop.example/g03014/laws.FnExactAllInside", spec := "fnExactAllInside", recurses := true, apart := false }
def FnExactAllInsideSaid : Prop := fnExactAllInsideRow.holds Try.pinned (OpenSpec.ofChange fnExactAllInsideSpec)

/-- ITS FALSE NEIGHBOUR: 'it returns false'. Refute it at one input. -/
def fnExactAllInsideWrong : ChangeSpec := { name := "fnExactAllInside", fn := fun _ => fun
  | [d1, d2] => { results := [.lit (.bool false)], args := [d1, d2] }
  | _ => none }
def FnExactAllInsideWrongFalsely : Prop := fnExactAllInsideRow.holds Try.pinned (OpenSpec.ofChange fnExactAllInsideWrong)

/-- 'laws.FnExactSealBox': WHATEVER THE INPUT: true; the input reads as it did. -/
def fnExactSealBoxSpec : ChangeSpec := { name := "fnExactSealBox", fn := fun _ => fun
  | [d1, d2, d3] => { results := [.lit (.bool true)], args := [d1, d2, d3] }
  | _ => none }
def fnExactSealBoxRow : OpenClaim := { program := "ytgipaamnefphgaa", sum := "abf6c2a72b8fd0c26380e598718dff0c83a57da486adb6c1ae4f694c146ab71b", func := "loop.example/g03014/laws.FnExactSealBox", spec := "fnExactSealBox", recurses := true, apart := false }
def FnExactSealBoxSaid : Prop := fnExactSealBoxRow.holds Try.pinned (OpenSpec.ofChange fnExactSealBoxSpec)

/-- ITS FALSE NEIGHBOUR: 'it returns false'. Refute it at one input. -/
def fnExactSealBoxWrong : ChangeSpec := { name := "fnExactSealBox", fn := fun _ => fun
  | [d1, d2, d3] => { results := [.lit (.bool false)], args := [d1, d2, d3] }
  | _ => none }
def FnExactSealBoxWrongFalsely : Prop := fnExactSealBoxRow.holds Try.pinned (OpenSpec.ofChange fnExactSealBoxWrong)

/-- 'laws.FnExactTakeFrom': WHATEVER THE INPUT: true; the input reads as it did. -/
def fnExactTakeFromSpec : ChangeSpec := { name := "fnExactTakeFrom", fn := fun _ => fun
  | [d1, d2] => { results := [.lit (.bool true)], args := [d1, d2] }
  | _ => none }
def fnExactTakeFromRow : OpenClaim := { program := "ytgipaamnefphgaa", sum := "abf6c2a72b8fd0c26380e598718dff0c83a57da486adb6c1ae4f694c146ab71b", func := "loop.example/g03014/laws.FnExactTakeFrom", spec := "fnExactTakeFrom", recurses := true, apart := false }
def FnExactTakeFromSaid : Prop := fnExactTakeFromRow.holds Try.pinned (OpenSpec.ofChange fnExactTakeFromSpec)

/-- ITS FALSE NEIGHBOUR: 'it returns false'. Refute it at one input. -/
def fnExactTakeFromWrong : ChangeSpec := { name := "fnExactTakeFrom", fn := fun _ => fun
  | [d1, d2] => { results := [.lit (.bool false)], args := [d1, d2] }
  | _ => none }
def FnExactTakeFromWrongFalsely : Prop := fnExactTakeFromRow.holds Try.pinned (OpenSpec.ofChange fnExactTakeFromWrong)

/-- 'laws.FnExactEmptyBox': WHATEVER THE INPUT: true; the input reads as it did. -/
def fnExactEmptyBoxSpec : ChangeSpec := { name := "fnExactEmptyBox", fn := fun _ => fun
  | [d1, d2] => { results := [.lit (.bool true)], args := [d1, d2] }
  | _ => none }
def fnExactEmptyBoxRow : OpenClaim := { program := "ytgipaamnefphgaa", sum := "abf6c2a72b8fd0c26380e598718dff0c83a57da486adb6c1ae4f694c146ab71b", func := "loop.example/g03014/laws.FnExactEmptyBox", spec := "fnExactEmptyBox", recurses := true, apart := false }
def FnExactEmptyBoxSaid : Prop := fnExactEmptyBoxRow.holds Try.pinned (OpenSpec.ofChange fnExactEmptyBoxSpec)

/-- ITS FALSE NEIGHBOUR: 'it returns false'. Refute it at one input. -/
def fnExactEmptyBoxWrong : ChangeSpec := { name := "fnExactEmptyBox", fn := fun _ => fun
  | [d1, d2] => { results := [.lit (.bool false)], args := [d1, d2] }
  | _ => none }
def FnExactEmptyBoxWrongFalsely : Prop := fnExactEmptyBoxRow.holds Try.pinned (OpenSpec.ofChange fnExactEmptyBoxWrong)

/-- 'laws.FnExactPutInto': WHATEVER THE INPUT: true; the input reads as it did. -/
def fnExactPutIntoSpec : ChangeSpec := { name := "fnExactPutInto", fn := fun _ => fun
  | [d1, d2, d3] => { results := [.lit (.bool true)], args := [d1, d2, d3] }
  | _ => none }
def fnExactPutIntoRow : OpenClaim := { program := "ytgipaamnefphgaa", sum := "abf6c2a72b8fd0c26380e598718dff0c83a57da486adb6c1ae4f694c146ab71b", func := "loop.example/g03014/laws.FnExactPutInto", spec := "fnExactPutInto", recurses := true, apart := false }
def FnExactPutIntoSaid : Prop := fnExactPutIntoRow.holds Try.pinned (OpenSpec.ofChange fnExactPutIntoSpec)

/-- ITS FALSE NEIGHBOUR: 'it returns false'. Refute it at one input. -/
def fnExactPutIntoWrong : ChangeSpec := { name := "fnExactPutInto", fn := fun _ => fun
  | [d1, d2, d3] => { results := [.lit (.bool false)], args := [d1, d2, d3] }
  | _ => none }
def FnExactPutIntoWrongFalsely : Prop := fnExactPutIntoRow.holds Try.pinned (OpenSpec.ofChange fnExactPutIntoWrong)

/-- 'laws.FnInside': WHATEVER THE INPUT: true; the input reads as it did. -/
def fnInsideSpec : ChangeSpec := { name := "fnInside", fn := fun _ => fun
  | [d] => { results := [.lit (.bool true)], args := [d] }
  | _ => none }
def fnInsideRow : OpenClaim := { program := "ytgipaamnefphgaa", sum := "abf6c2a72b8fd0c26380e598718dff0c83a57da486adb6c1ae4f694c146ab71b", func := "loop.example/g03014/laws.FnInside", spec := "fnInside", recurses := true, apart := false }
def FnInsideSaid : Prop := fnInsideRow.holds Try.pinned (OpenSpec.ofChange fnInsideSpec)

/-- ITS FALSE NEIGHBOUR: 'it returns false'. Refute it at one input. -/
def fnInsideWrong : ChangeSpec := { name := "fnInside", fn := fun _ => fun
  | [d] => { results := [.lit (.bool false)], args := [d] }
  | _ => none }
def FnInsideWrongFalsely : Prop := fnInsideRow.holds Try.pinned (OpenSpec.ofChange fnInsideWrong)

/-- 'laws.FnEmptied': WHATEVER THE INPUT: true; the input reads as it did. -/
def fnEmptiedSpec : ChangeSpec := { name := "fnEmptied", fn := fun _ => fun
  | [d] => { results := [.lit (.bool true)], args := [d] }
  | _ => none }
def fnEmptiedRow : OpenClaim := { program := "ytgipaamnefphgaa", sum := "abf6c2a72b8fd0c26380e598718dff0c83a57da486adb6c1ae4f694c146ab71b", func := "loop.example/g03014/laws.FnEmptied", spec := "fnEmptied", recurses := true, apart := false }
def FnEmptiedSaid : Prop := fnEmptiedRow.holds Try.pinned (OpenSpec.ofChange fnEmptiedSpec)

/-- ITS FALSE NEIGHBOUR: 'it returns false'. Refute it at one input. -/
def fnEmptiedWrong : ChangeSpec := { name := "fnEmptied", fn := fun _ => fun
  | [d] => { results := [.lit (.bool false)], args := [d] }
  | _ => none }
def FnEmptiedWrongFalsely : Prop := fnEmptiedRow.holds Try.pinned (OpenSpec.ofChange fnEmptiedWrong)

/-- 'laws.FnWeighed': WHATEVER THE INPUT: true; the input reads as it did. -/
def fnWeighedSpec : ChangeSpec := { name := "fnWeighed", fn := fun _ => fun
  | [d] => { results := [.lit (.bool true)], args := [d] }
  | _ => none }
def fnWeighedRow : OpenClaim := { program := "ytgipaamnefphgaa", sum := "abf6c2a72b8fd0c26380e598718dff0c83a57da486adb6c1ae4f694c146ab71b", func := "loop.example/g03014/laws.FnWeighed", spec := "fnWeighed", recurses := true, apart := false }
def FnWeighedSaid : Prop := fnWeighedRow.holds Try.pinned (OpenSpec.ofChange fnWeighedSpec)

/-- ITS FALSE NEIGHBOUR: 'it returns false'. Refute it at one input. -/
def fnWeighedWrong : ChangeSpec := { name := "fnWeighed", fn := fun _ => fun
  | [d] => { results := [.lit (.bool false)], args := [d] }
  | _ => none }
def FnWeighedWrongFalsely : Prop := fnWeighedRow.holds Try.pinned (OpenSpec.ofChange fnWeighedWrong)

/-- 'laws.FnSealed': WHATEVER THE INPUT: true; the input reads as it did. -/
def fnSealedSpec : ChangeSpec := { name := "fnSealed", fn := fun _ => fun
  | [d] => { results := [.lit (.bool true)], args := [d] }
  | _ => none }
def fnSealedRow : OpenClaim := { program := "ytgipaamnefphgaa", sum := "abf6c2a72b8fd0c26380e598718dff0c83a57da486adb6c1ae4f694c146ab71b", func := "loop.example/g03014/laws.FnSealed", spec := "fnSealed", recurses := true, apart := false }
def FnSealedSaid : Prop := fnSealedRow.holds Try.pinned (OpenSpec.ofChange fnSealedSpec)

/-- ITS FALSE NEIGHBOUR: 'it returns false'. Refute it at one input. -/
def fnSealedWrong : ChangeSpec := { name := "fnSealed", fn := fun _ => fun
  | [d] => { results := [.lit (.bool false)], args := [d] }
  | _ => none }
def FnSealedWrongFalsely : Prop := fnSealedRow.holds Try.pinned (OpenSpec.ofChange fnSealedWrong)

/-- 'laws.FnPutTake': WHATEVER THE INPUT: true; the input reads as it did. -/
def fnPutTakeSpec : ChangeSpec := { name := "fnPutTake", fn := fun _ => fun
  | [d] => { results := [.lit (.bool true)], args := [d] }
  | _ => none }
def fnPutTakeRow : OpenClaim := { program := "ytgipaamnefphgaa", sum := "abf6c2a72b8fd0c26380e598718dff0c83a57da486adb6c1ae4f694c146ab71b", func := "loop.example/g03014/laws.FnPutTake", spec := "fnPutTake", recurses := true, apart := false }
def FnPutTakeSaid : Prop := fnPutTakeRow.holds Try.pinned (OpenSpec.ofChange fnPutTakeSpec)

/-- ITS FALSE NEIGHBOUR: 'it returns false'. Refute it at one input. -/
def fnPutTakeWrong : ChangeSpec := { name := "fnPutTake", fn := fun _ => fun
  | [d] => { results := [.lit (.bool false)], args := [d] }
  | _ => none }
def FnPutTakeWrongFalsely : Prop := fnPutTakeRow.holds Try.pinned (OpenSpec.ofChange fnPutTakeWrong)

/-- 'laws.FnPacked': WHATEVER THE INPUT: true; the input reads as it did. -/
def fnPackedSpec : ChangeSpec := { name := "fnPacked", fn := fun _ => fun
  | [d] => { results := [.lit (.bool true)], args := [d] }
  | _ => none }
def fnPackedRow : OpenClaim := { program := "ytgipaamnefphgaa", sum := "abf6c2a72b8fd0c26380e598718dff0c83a57da486adb6c1ae4f694c146ab71b", func := "loop.example/g03014/laws.FnPacked", spec := "fnPacked", inPlace := ["internal/reflectlite.ValueOf", "internal/reflectlite.Swapper", "(internal/reflectlite.Value).Len"], unfollowed := true, recurses := true, apart := false }
def FnPackedSaid : Prop := fnPackedRow.holds Try.pinned (OpenSpec.ofChange fnPackedSpec)

/-- ITS FALSE NEIGHBOUR: 'it returns false'. Refute it at one input. -/
def fnPackedWrong : ChangeSpec := { name := "fnPacked", fn := fun _ => fun
  | [d] => { results := [.lit (.bool false)], args := [d] }
  | _ => none }
def FnPackedWrongFalsely : Prop := fnPackedRow.holds Try.pinned (OpenSpec.ofChange fnPackedWrong)

/-- 'laws.FnExactPackAll': WHATEVER THE INPUT: true; the input reads as it did. -/
def fnExactPackAllSpec : ChangeSpec := { name := "fnExactPackAll", fn := fun _ => fun
  | [d1, d2, d3] => { results := [.lit (.bool true)], args := [d1, d2, d3] }
  | _ => none }
def fnExactPackAllRow : OpenClaim := { program := "ytgipaamnefphgaa", sum := "abf6c2a72b8fd0c26380e598718dff0c83a57da486adb6c1ae4f694c146ab71b", func := "loop.example/g03014/laws.FnExactPackAll", spec := "fnExactPackAll", inPlace := ["internal/reflectlite.ValueOf", "internal/reflectlite.Swapper", "(internal/reflectlite.Value).Len"], unfollowed := true, recurses := true, apart := false }
def FnExactPackAllSaid : Prop := fnExactPackAllRow.holds Try.pinned (OpenSpec.ofChange fnExactPackAllSpec)

/-- ITS FALSE NEIGHBOUR: 'it returns false'. Refute it at one input. -/
def fnExactPackAllWrong : ChangeSpec := { name := "fnExactPackAll", fn := fun _ => fun
  | [d1, d2, d3] => { results := [.lit (.bool false)], args := [d1, d2, d3] }
  | _ => none }
def FnExactPackAllWrongFalsely : Prop := fnExactPackAllRow.holds Try.pinned (OpenSpec.ofChange fnExactPackAllWrong)

/- THE SECOND FORM. 'bulk': how many values and letters a reading holds, each counted each time it is reached (what is shared counts as often as it is met; a slice's spare places count too). A statement '..UptoSaid' is the law's where the arguments, and the package variables that the reading takes, are together of bulk at most 1048576: NARROWER than '..Said'. Prove '..Said' where nothing that the law and all that it calls make is longer than what came in: it says more and counts as full. Else prove '..UptoSaid'. A law counts once. -/
mutual
def uptoBulk {H : Type} : DataW H → Nat
  | .lit (.string bytes) => bytes.length + 1
  | .lit _ => 1
  | .nil => 1
  | .ptr d => uptoBulk d + 1
  | .slice elems spare => uptoBulkAll elems + uptoBulkAll spare + 1
  | .agg parts => uptoBulkAll parts + 1
  | .iface _ d => uptoBulk d + 1
  | .map entries => uptoBulkEntries entries + 1
  | .held _ => 1
def uptoBulkAll {H : Type} : List (DataW H) → Nat
  | [] => 0
  | d :: r => uptoBulk d + uptoBulkAll r
def uptoBulkEntries {H : Type} : List (Lit × DataW H) → Nat
  | [] => 0
  | x :: r => uptoBulkEntry x + uptoBulkEntries r
def uptoBulkEntry {H : Type} : Lit × DataW H → Nat
  | (.string bytes, d) => bytes.length + uptoBulk d + 1
  | (_, d) => uptoBulk d + 1
 end
def uptoSmall : (H : Type) → List (DataW H) → Bool := fun _ ds => decide (uptoBulkAll ds ≤ 1048576)
def OpenSpec.upto (s : _root_.Go.ChangeSpec) : _root_.Go.OpenSpec := { _root_.Go.OpenSpec.ofChange s with cond := some uptoSmall }

/-- 'laws.FnExactFindThing', WHERE WHAT IT READS IS OF BULK AT MOST 1048576: true; the input reads as it did. -/
def fnExactFindThingUptoRow : OpenClaim := { program := "ytgipaamnefphgaa", sum := "abf6c2a72b8fd0c26380e598718dff0c83a57da486adb6c1ae4f694c146ab71b", func := "loop.example/g03014/laws.FnExactFindThing", spec := "fnExactFindThing", apart := false, narrowed := true }
def FnExactFindThingUptoSaid : Prop := fnExactFindThingUptoRow.holds Try.pinned (OpenSpec.upto fnExactFindThingSpec)

/-- 'laws.FnExactAreThings', WHERE WHAT IT READS IS OF BULK AT MOST 1048576: true; the input reads as it did. -/
def fnExactAreThingsUptoRow : OpenClaim := { program := "ytgipaamnefphgaa", sum := "abf6c2a72b8fd0c26380e598718dff0c83a57da486adb6c1ae4f694c146ab71b", func := "loop.example/g03014/laws.FnExactAreThings", spec := "fnExactAreThings", recurses := true, apart := false, narrowed := true }
def FnExactAreThingsUptoSaid : Prop := fnExactAreThingsUptoRow.holds Try.pinned (OpenSpec.upto fnExactAreThingsSpec)

/-- 'laws.FnExactDepthOf', WHERE WHAT IT READS IS OF BULK AT MOST 1048576: true; the input reads as it did. -/
def fnExactDepthOfUptoRow : OpenClaim := { program := "ytgipaamnefphgaa", sum := "abf6c2a72b8fd0c26380e598718dff0c83a57da486adb6c1ae4f694c146ab71b", func := "loop.example/g03014/laws.FnExactDepthOf", spec := "fnExactDepthOf", recurses := true, apart := false, narrowed := true }
def FnExactDepthOfUptoSaid : Prop := fnExactDepthOfUptoRow.holds Try.pinned (OpenSpec.upto fnExactDepthOfSpec)

/-- 'laws.FnExactGrossOf', WHERE WHAT IT READS IS OF BULK AT MOST 1048576: true; the input reads as it did. -/
def fnExactGrossOfUptoRow : OpenClaim := { program := "ytgipaamnefphgaa", sum := "abf6c2a72b8fd0c26380e598718dff0c83a57da486adb6c1ae4f694c146ab71b", func := "loop.example/g03014/laws.FnExactGrossOf", spec := "fnExactGrossOf", recurses := true, apart := false, narrowed := true }
def FnExactGrossOfUptoSaid : Prop := fnExactGrossOfUptoRow.holds Try.pinned (OpenSpec.upto fnExactGrossOfSpec)

/-- 'laws.FnExactOuterOf', WHERE WHAT IT READS IS OF BULK AT MOST 1048576: true; the input reads as it did. -/
def fnExactOuterOfUptoRow : OpenClaim := { program := "ytgipaamnefphgaa", sum := "abf6c2a72b8fd0c26380e598718dff0c83a57da486adb6c1ae4f694c146ab71b", func := "loop.example/g03014/laws.FnExactOuterOf", spec := "fnExactOuterOf", recurses := true, apart := false, narrowed := true }
def FnExactOuterOfUptoSaid : Prop := fnExactOuterOfUptoRow.holds Try.pinned (OpenSpec.upto fnExactOuterOfSpec)

/-- 'laws.FnExactIsLocked', WHERE WHAT IT READS IS OF BULK AT MOST 1048576: true; the input reads as it did. -/
def fnExactIsLockedUptoRow : OpenClaim := { program := "ytgipaamnefphgaa", sum := "abf6c2a72b8fd0c26380e598718dff0c83a57da486adb6c1ae4f694c146ab71b", func := "loop.example/g03014/laws.FnExactIsLocked", spec := "fnExactIsLocked", recurses := true, apart := false, narrowed := true }
def FnExactIsLockedUptoSaid : Prop := fnExactIsLockedUptoRow.holds Try.pinned (OpenSpec.upto fnExactIsLockedSpec)

/-- 'laws.FnExactInsideOf', WHERE WHAT IT READS IS OF BULK AT MOST 1048576: true; the input reads as it did. -/
def fnExactInsideOfUptoRow : OpenClaim := { program := "ytgipaamnefphgaa", sum := "abf6c2a72b8fd0c26380e598718dff0c83a57da486adb6c1ae4f694c146ab71b", func := "loop.example/g03014/laws.FnExactInsideOf", spec := "fnExactInsideOf", recurses := true, apart := false, narrowed := true }
def FnExactInsideOfUptoSaid : Prop := fnExactInsideOfUptoRow.holds Try.pinned (OpenSpec.upto fnExactInsideOfSpec)

/-- 'laws.FnExactAllInside', WHERE WHAT IT READS IS OF BULK AT MOST 1048576: true; the input reads as it did. -/
def fnExactAllInsideUptoRow : OpenClaim := { program := "ytgipaamnefphgaa", sum := "abf6c2a72b8fd0c26380e598718dff0c83a57da486adb6c1ae4f694c146ab71b", func := "loop.example/g03014/laws.FnExactAllInside", spec := "fnExactAllInside", recurses := true, apart := false, narrowed := true }
def FnExactAllInsideUptoSaid : Prop := fnExactAllInsideUptoRow.holds Try.pinned (OpenSpec.upto fnExactAllInsideSpec)

/-- 'laws.FnExactSealBox', WHERE WHAT IT READS IS OF BULK AT MOST 1048576: true; the input reads as it did. -/
def fnExactSealBoxUptoRow : OpenClaim := { program := "ytgipaamnefphgaa", sum := "abf6c2a72b8fd0c26380e598718dff0c83a57da486adb6c1ae4f694c146ab71b", func := "loop.example/g03014/laws.FnExactSealBox", spec := "fnExactSealBox", recurses := true, apart := false, narrowed := true }
def FnExactSealBoxUptoSaid : Prop := fnExactSealBoxUptoRow.holds Try.pinned (OpenSpec.upto fnExactSealBoxSpec)

/-- 'laws.FnExactTakeFrom', WHERE WHAT IT READS IS OF BULK AT MOST 1048576: true; the input reads as it did. -/
def fnExactTakeFromUptoRow : OpenClaim := { program := "ytgipaamnefphgaa", sum := "abf6c2a72b8fd0c26380e598718dff0c83a57da486adb6c1ae4f694c146ab71b", func := "loop.example/g03014/laws.FnExactTakeFrom", spec := "fnExactTakeFrom", recurses := true, apart := false, narrowed := true }
def FnExactTakeFromUptoSaid : Prop := fnExactTakeFromUptoRow.holds Try.pinned (OpenSpec.upto fnExactTakeFromSpec)

/-- 'laws.FnExactEmptyBox', WHERE WHAT IT READS IS OF BULK AT MOST 1048576: true; the input reads as it did. -/
def fnExactEmptyBoxUptoRow : OpenClaim := { program := "ytgipaamnefphgaa", sum := "abf6c2a72b8fd0c26380e598718dff0c83a57da486adb6c1ae4f694c146ab71b", func := "loop.example/g03014/laws.FnExactEmptyBox", spec := "fnExactEmptyBox", recurses := true, apart := false, narrowed := true }
def FnExactEmptyBoxUptoSaid : Prop := fnExactEmptyBoxUptoRow.holds Try.pinned (OpenSpec.upto fnExactEmptyBoxSpec)

/-- 'laws.FnExactPutInto', WHERE WHAT IT READS IS OF BULK AT MOST 1048576: true; the input reads as it did. -/
def fnExactPutIntoUptoRow : OpenClaim := { program := "ytgipaamnefphgaa", sum := "abf6c2a72b8fd0c26380e598718dff0c83a57da486adb6c1ae4f694c146ab71b", func := "loop.example/g03014/laws.FnExactPutInto", spec := "fnExactPutInto", recurses := true, apart := false, narrowed := true }
def FnExactPutIntoUptoSaid : Prop := fnExactPutIntoUptoRow.holds Try.pinned (OpenSpec.upto fnExactPutIntoSpec)

/-- 'laws.FnInside', WHERE WHAT IT READS IS OF BULK AT MOST 1048576: true; the input reads as it did. -/
def fnInsideUptoRow : OpenClaim := { program := "ytgipaamnefphgaa", sum := "abf6c2a72b8fd0c26380e598718dff0c83a57da486adb6c1ae4f694c146ab71b", func := "loop.example/g03014/laws.FnInside", spec := "fnInside", recurses := true, apart := false, narrowed := true }
def FnInsideUptoSaid : Prop := fnInsideUptoRow.holds Try.pinned (OpenSpec.upto fnInsideSpec)

/-- 'laws.FnEmptied', WHERE WHAT IT READS IS OF BULK AT MOST 1048576: true; the input reads as it did. -/
def fnEmptiedUptoRow : OpenClaim := { program := "ytgipaamnefphgaa", sum := "abf6c2a72b8fd0c26380e598718dff0c83a57da486adb6c1ae4f694c146ab71b", func := "loop.example/g03014/laws.FnEmptied", spec := "fnEmptied", recurses := true, apart := false, narrowed := true }
def FnEmptiedUptoSaid : Prop := fnEmptiedUptoRow.holds Try.pinned (OpenSpec.upto fnEmptiedSpec)

/-- 'laws.FnWeighed', WHERE WHAT IT READS IS OF BULK AT MOST 1048576: true; the input reads as it did. -/
def fnWeighedUptoRow : OpenClaim := { program := "ytgipaamnefphgaa", sum := "abf6c2a72b8fd0c26380e598718dff0c83a57da486adb6c1ae4f694c146ab71b", func := "loop.example/g03014/laws.FnWeighed", spec := "fnWeighed", recurses := true, apart := false, narrowed := true }
def FnWeighedUptoSaid : Prop := fnWeighedUptoRow.holds Try.pinned (OpenSpec.upto fnWeighedSpec)

/-- 'laws.FnSealed', WHERE WHAT IT READS IS OF BULK AT MOST 1048576: true; the input reads as it did. -/
def fnSealedUptoRow : OpenClaim := { program := "ytgipaamnefphgaa", sum := "abf6c2a72b8fd0c26380e598718dff0c83a57da486adb6c1ae4f694c146ab71b", func := "loop.example/g03014/laws.FnSealed", spec := "fnSealed", recurses := true, apart := false, narrowed := true }
def FnSealedUptoSaid : Prop := fnSealedUptoRow.holds Try.pinned (OpenSpec.upto fnSealedSpec)

/-- 'laws.FnPutTake', WHERE WHAT IT READS IS OF BULK AT MOST 1048576: true; the input reads as it did. -/
def fnPutTakeUptoRow : OpenClaim := { program := "ytgipaamnefphgaa", sum := "abf6c2a72b8fd0c26380e598718dff0c83a57da486adb6c1ae4f694c146ab71b", func := "loop.example/g03014/laws.FnPutTake", spec := "fnPutTake", recurses := true, apart := false, narrowed := true }
def FnPutTakeUptoSaid : Prop := fnPutTakeUptoRow.holds Try.pinned (OpenSpec.upto fnPutTakeSpec)

/-- 'laws.FnPacked', WHERE WHAT IT READS IS OF BULK AT MOST 1048576: true; the input reads as it did. -/
def fnPackedUptoRow : OpenClaim := { program := "ytgipaamnefphgaa", sum := "abf6c2a72b8fd0c26380e598718dff0c83a57da486adb6c1ae4f694c146ab71b", func := "loop.example/g03014/laws.FnPacked", spec := "fnPacked", inPlace := ["internal/reflectlite.ValueOf", "internal/reflectlite.Swapper", "(internal/reflectlite.Value).Len"], unfollowed := true, recurses := true, apart := false, narrowed := true }
def FnPackedUptoSaid : Prop := fnPackedUptoRow.holds Try.pinned (OpenSpec.upto fnPackedSpec)

/-- 'laws.FnExactPackAll', WHERE WHAT IT READS IS OF BULK AT MOST 1048576: true; the input reads as it did. -/
def fnExactPackAllUptoRow : OpenClaim := { program := "ytgipaamnefphgaa", sum := "abf6c2a72b8fd0c26380e598718dff0c83a57da486adb6c1ae4f694c146ab71b", func := "loop.example/g03014/laws.FnExactPackAll", spec := "fnExactPackAll", inPlace := ["internal/reflectlite.ValueOf", "internal/reflectlite.Swapper", "(internal/reflectlite.Value).Len"], unfollowed := true, recurses := true, apart := false, narrowed := true }
def FnExactPackAllUptoSaid : Prop := fnExactPackAllUptoRow.holds Try.pinned (OpenSpec.upto fnExactPackAllSpec)

end Rows
end Go.Proofs.Ytgipaamnefphgaa
