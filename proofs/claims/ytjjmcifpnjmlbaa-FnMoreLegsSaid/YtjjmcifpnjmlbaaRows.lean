/-
  No cell of these rows narrows 'for every input' (looked for: loops, veiled, ifaces, maps, wideKeys, modest, calm, conditions, laid).
  DERIVED. THE GIVEN ROWS OF THIS SEAT. 8 by the template 'for every input the law returns true; each argument reads behind the call as it read before'; 0 by the template 'total and deterministic' (their statements: YtjjmcifpnjmlbaaTotals.lean).
  GIVEN WITH THE SEED: the statements are not yours to turn. If you find one false, say at which input.
  Laid BY PROGRAM, IN A SANDBOX (cutbox-rows.mjs): the forced cells as the released guide's own fill.sh prints them over the translation 187ea70e2257d673… (all of the seat's roots in one cut). By AI agents, Wed Nov 11 2026. No macro, syntax, notation, axiom, sorry.
-/
import Derived.Test.YtjjmcifpnjmlbaaChecked
import GoSem.Claim
import GoSem.ClaimJoined
import GoSem.ClaimMapViews
import Derived.JoinedTies
import Derived.KernelRfl
namespace Go.Proofs.Ytjjmcifpnjmlbaa
/- THE CELL 'sum', in the pinned program and in every row, IS THE sha256 OF THE DUMP (.gsa) THAT YtjjmcifpnjmlbaaProg.lean LOADS. Nothing in Lean hashes anything: it is a label: what it is worth is what the hold of that sum in a sandbox is worth. -/
noncomputable def Try.pinned : Pinned := { name := "ytjjmcifpnjmlbaa", sum := "187ea70e2257d673538aafb84bd15a41becfbca7312f5040147c55752cb96195", checked := Try.checked }
namespace Rows
def none {H : Type} : Left H := { results := [], args := [] }

/-- 'laws.FnRide': WHATEVER THE INPUT: true; the input reads as it did. -/
def fnRideSpec : ChangeSpec := { name := "fnRide", fn := fun _ => fun
  | [d] => { results := [.lit (.bool true)], args := [d] }
  | _ => none }
def fnRideRow : OpenClaim := { program := "ytjjmcifpnjmlbaa", sum := "187ea70e2257d673538aafb84bd15a41becfbca7312f5040147c55752cb96195", func := "loop.example/g03014/laws.FnRide", spec := "fnRide", apart := false }
def FnRideSaid : Prop := fnRideRow.holds Try.pinned (OpenSpec.ofChange fnRideSpec)

/-- ITS FALSE NEIGHBOUR: 'it returns false'. Refute it at one input. -/
def fnRideWrong : ChangeSpec := { name := "fnRide", fn := fun _ => fun
  | [d] => { results := [.lit (.bool false)], args := [d] }
  | _ => none }
def FnRideWrongFalsely : Prop := fnRideRow.holds Try.pinned (OpenSpec.ofChange fnRideWrong)

/-- 'laws.FnPromise': WHATEVER THE INPUT: true; the input reads as it did. -/
def fnPromiseSpec : ChangeSpec := { name := "fnPromise", fn := fun _ => fun
  | [d] => { results := [.lit (.bool true)], args := [d] }
  | _ => none }
def fnPromiseRow : OpenClaim := { program := "ytjjmcifpnjmlbaa", sum := "187ea70e2257d673538aafb84bd15a41becfbca7312f5040147c55752cb96195", func := "loop.example/g03014/laws.FnPromise", spec := "fnPromise", unfollowed := true, recurses := true, apart := false }
def FnPromiseSaid : Prop := fnPromiseRow.holds Try.pinned (OpenSpec.ofChange fnPromiseSpec)

/-- ITS FALSE NEIGHBOUR: 'it returns false'. Refute it at one input. -/
def fnPromiseWrong : ChangeSpec := { name := "fnPromise", fn := fun _ => fun
  | [d] => { results := [.lit (.bool false)], args := [d] }
  | _ => none }
def FnPromiseWrongFalsely : Prop := fnPromiseRow.holds Try.pinned (OpenSpec.ofChange fnPromiseWrong)

/-- 'laws.FnChoices': WHATEVER THE INPUT: true; the input reads as it did. -/
def fnChoicesSpec : ChangeSpec := { name := "fnChoices", fn := fun _ => fun
  | [d] => { results := [.lit (.bool true)], args := [d] }
  | _ => none }
def fnChoicesRow : OpenClaim := { program := "ytjjmcifpnjmlbaa", sum := "187ea70e2257d673538aafb84bd15a41becfbca7312f5040147c55752cb96195", func := "loop.example/g03014/laws.FnChoices", spec := "fnChoices", unfollowed := true, recurses := true, apart := false }
def FnChoicesSaid : Prop := fnChoicesRow.holds Try.pinned (OpenSpec.ofChange fnChoicesSpec)

/-- ITS FALSE NEIGHBOUR: 'it returns false'. Refute it at one input. -/
def fnChoicesWrong : ChangeSpec := { name := "fnChoices", fn := fun _ => fun
  | [d] => { results := [.lit (.bool false)], args := [d] }
  | _ => none }
def FnChoicesWrongFalsely : Prop := fnChoicesRow.holds Try.pinned (OpenSpec.ofChange fnChoicesWrong)

/-- 'laws.FnReached': WHATEVER THE INPUT: true; the input reads as it did. -/
def fnReachedSpec : ChangeSpec := { name := "fnReached", fn := fun _ => fun
  | [d] => { results := [.lit (.bool true)], args := [d] }
  | _ => none }
def fnReachedRow : OpenClaim := { program := "ytjjmcifpnjmlbaa", sum := "187ea70e2257d673538aafb84bd15a41becfbca7312f5040147c55752cb96195", func := "loop.example/g03014/laws.FnReached", spec := "fnReached", unfollowed := true, recurses := true, apart := false }
def FnReachedSaid : Prop := fnReachedRow.holds Try.pinned (OpenSpec.ofChange fnReachedSpec)

/-- ITS FALSE NEIGHBOUR: 'it returns false'. Refute it at one input. -/
def fnReachedWrong : ChangeSpec := { name := "fnReached", fn := fun _ => fun
  | [d] => { results := [.lit (.bool false)], args := [d] }
  | _ => none }
def FnReachedWrongFalsely : Prop := fnReachedRow.holds Try.pinned (OpenSpec.ofChange fnReachedWrong)

/-- 'laws.FnLatest': WHATEVER THE INPUT: true; the input reads as it did. -/
def fnLatestSpec : ChangeSpec := { name := "fnLatest", fn := fun _ => fun
  | [d] => { results := [.lit (.bool true)], args := [d] }
  | _ => none }
def fnLatestRow : OpenClaim := { program := "ytjjmcifpnjmlbaa", sum := "187ea70e2257d673538aafb84bd15a41becfbca7312f5040147c55752cb96195", func := "loop.example/g03014/laws.FnLatest", spec := "fnLatest", unfollowed := true, recurses := true, apart := false }
def FnLatestSaid : Prop := fnLatestRow.holds Try.pinned (OpenSpec.ofChange fnLatestSpec)

/-- ITS FALSE NEIGHBOUR: 'it returns false'. Refute it at one input. -/
def fnLatestWrong : ChangeSpec := { name := "fnLatest", fn := fun _ => fun
  | [d] => { results := [.lit (.bool false)], args := [d] }
  | _ => none }
def FnLatestWrongFalsely : Prop := fnLatestRow.holds Try.pinned (OpenSpec.ofChange fnLatestWrong)

/-- 'laws.FnMoreLegs': WHATEVER THE INPUT: true; the input reads as it did. -/
def fnMoreLegsSpec : ChangeSpec := { name := "fnMoreLegs", fn := fun _ => fun
  | [d] => { results := [.lit (.bool true)], args := [d] }
  | _ => none }
def fnMoreLegsRow : OpenClaim := { program := "ytjjmcifpnjmlbaa", sum := "187ea70e2257d673538aafb84bd15a41becfbca7312f5040147c55752cb96195", func := "loop.example/g03014/laws.FnMoreLegs", spec := "fnMoreLegs", unfollowed := true, recurses := true, apart := false }
def FnMoreLegsSaid : Prop := fnMoreLegsRow.holds Try.pinned (OpenSpec.ofChange fnMoreLegsSpec)

/-- ITS FALSE NEIGHBOUR: 'it returns false'. Refute it at one input. -/
def fnMoreLegsWrong : ChangeSpec := { name := "fnMoreLegs", fn := fun _ => fun
  | [d] => { results := [.lit (.bool false)], args := [d] }
  | _ => none }
def FnMoreLegsWrongFalsely : Prop := fnMoreLegsRow.holds Try.pinned (OpenSpec.ofChange fnMoreLegsWrong)

/-- 'laws.FnLater': WHATEVER THE INPUT: true; the input reads as it did. -/
def fnLaterSpec : ChangeSpec := { name := "fnLater", fn := fun _ => fun
  | [d] => { results := [.lit (.bool true)], args := [d] }
  | _ => none }
def fnLaterRow : OpenClaim := { program := "ytjjmcifpnjmlbaa", sum := "187ea70e2257d673538aafb84bd15a41becfbca7312f5040147c55752cb96195", func := "loop.example/g03014/laws.FnLater", spec := "fnLater", unfollowed := true, recurses := true, apart := false }
def FnLaterSaid : Prop := fnLaterRow.holds Try.pinned (OpenSpec.ofChange fnLaterSpec)

/-- ITS FALSE NEIGHBOUR: 'it returns false'. Refute it at one input. -/
def fnLaterWrong : ChangeSpec := { name := "fnLater", fn := fun _ => fun
  | [d] => { results := [.lit (.bool false)], args := [d] }
  | _ => none }
def FnLaterWrongFalsely : Prop := fnLaterRow.holds Try.pinned (OpenSpec.ofChange fnLaterWrong)

/-- 'laws.FnOver': WHATEVER THE INPUT: true; the input reads as it did. -/
def fnOverSpec : ChangeSpec := { name := "fnOver", fn := fun _ => fun
  | [d] => { results := [.lit (.bool true)], args := [d] }
  | _ => none }
def fnOverRow : OpenClaim := { program := "ytjjmcifpnjmlbaa", sum := "187ea70e2257d673538aafb84bd15a41becfbca7312f5040147c55752cb96195", func := "loop.example/g03014/laws.FnOver", spec := "fnOver", unfollowed := true, recurses := true, apart := false }
def FnOverSaid : Prop := fnOverRow.holds Try.pinned (OpenSpec.ofChange fnOverSpec)

/-- ITS FALSE NEIGHBOUR: 'it returns false'. Refute it at one input. -/
def fnOverWrong : ChangeSpec := { name := "fnOver", fn := fun _ => fun
  | [d] => { results := [.lit (.bool false)], args := [d] }
  | _ => none }
def FnOverWrongFalsely : Prop := fnOverRow.holds Try.pinned (OpenSpec.ofChange fnOverWrong)

/- THE SECOND FORM. 'bulk': how many values and letters a reading holds, each counted each time it is reached (what is shared counts as often as it is met; a slice's spare places count too). A statement '..UptoSaid' is the law's where the arguments, and the package variables that the reading takes, are together of bulk at most 1048576: NARROWER than '..Said'. Prove '..Said' where nothing that the law and all that it calls make is longer than what came in: it says more and counts as full. Else prove '..UptoSaid'. A law counts once. -/
mutual
def uptoBulk {H : Type} : DataW H → Nat
  | .lit (.string bytes) => bytes.length + 1
  | .lit _ => 1
  | .nil => 1
  | .ptr d => uptoBulk d + 1
  | .slice elems spare => uptoBulkAll elems + uptoBulkAll spare + 1
  | .agg parts => uptoBulkAll parts + 1
  | .iface _ d => uptoBulk d + 1
  | .map entries => uptoBulkEntries entries + 1
  | .held _ => 1
def uptoBulkAll {H : Type} : List (DataW H) → Nat
  | [] => 0
  | d :: r => uptoBulk d + uptoBulkAll r
def uptoBulkEntries {H : Type} : List (Lit × DataW H) → Nat
  | [] => 0
  | x :: r => uptoBulkEntry x + uptoBulkEntries r
def uptoBulkEntry {H : Type} : Lit × DataW H → Nat
  | (.string bytes, d) => bytes.length + uptoBulk d + 1
  | (_, d) => uptoBulk d + 1
 end
def uptoSmall : (H : Type) → List (DataW H) → Bool := fun _ ds => decide (uptoBulkAll ds ≤ 1048576)
def OpenSpec.upto (s : _root_.Go.ChangeSpec) : _root_.Go.OpenSpec := { _root_.Go.OpenSpec.ofChange s with cond := some uptoSmall }

/-- 'laws.FnRide', WHERE WHAT IT READS IS OF BULK AT MOST 1048576: true; the input reads as it did. -/
def fnRideUptoRow : OpenClaim := { program := "ytjjmcifpnjmlbaa", sum := "187ea70e2257d673538aafb84bd15a41becfbca7312f5040147c55752cb96195", func := "loop.example/g03014/laws.FnRide", spec := "fnRide", apart := false, narrowed := true }
def FnRideUptoSaid : Prop := fnRideUptoRow.holds Try.pinned (OpenSpec.upto fnRideSpec)

/-- 'laws.FnPromise', WHERE WHAT IT READS IS OF BULK AT MOST 1048576: true; the input reads as it did. -/
def fnPromiseUptoRow : OpenClaim := { program := "ytjjmcifpnjmlbaa", sum := "187ea70e2257d673538aafb84bd15a41becfbca7312f5040147c55752cb96195", func := "loop.example/g03014/laws.FnPromise", spec := "fnPromise", unfollowed := true, recurses := true, apart := false, narrowed := true }
def FnPromiseUptoSaid : Prop := fnPromiseUptoRow.holds Try.pinned (OpenSpec.upto fnPromiseSpec)

/-- 'laws.FnChoices', WHERE WHAT IT READS IS OF BULK AT MOST 1048576: true; the input reads as it did. -/
def fnChoicesUptoRow : OpenClaim := { program := "ytjjmcifpnjmlbaa", sum := "187ea70e2257d673538aafb84bd15a41becfbca7312f5040147c55752cb96195", func := "loop.example/g03014/laws.FnChoices", spec := "fnChoices", unfollowed := true, recurses := true, apart := false, narrowed := true }
def FnChoicesUptoSaid : Prop := fnChoicesUptoRow.holds Try.pinned (OpenSpec.upto fnChoicesSpec)

/-- 'laws.FnReached', WHERE WHAT IT READS IS OF BULK AT MOST 1048576: true; the input reads as it did. -/
def fnReachedUptoRow : OpenClaim := { program := "ytjjmcifpnjmlbaa", sum := "187ea70e2257d673538aafb84bd15a41becfbca7312f5040147c55752cb96195", func := "loop.example/g03014/laws.FnReached", spec := "fnReached", unfollowed := true, recurses := true, apart := false, narrowed := true }
def FnReachedUptoSaid : Prop := fnReachedUptoRow.holds Try.pinned (OpenSpec.upto fnReachedSpec)

/-- 'laws.FnLatest', WHERE WHAT IT READS IS OF BULK AT MOST 1048576: true; the input reads as it did. -/
def fnLatestUptoRow : OpenClaim := { program := "ytjjmcifpnjmlbaa", sum := "187ea70e2257d673538aafb84bd15a41becfbca7312f5040147c55752cb96195", func := "loop.example/g03014/laws.FnLatest", spec := "fnLatest", unfollowed := true, recurses := true, apart := false, narrowed := true }
def FnLatestUptoSaid : Prop := fnLatestUptoRow.holds Try.pinned (OpenSpec.upto fnLatestSpec)

/-- 'laws.FnMoreLegs', WHERE WHAT IT READS IS OF BULK AT MOST 1048576: true; the input reads as it did. -/
def fnMoreLegsUptoRow : OpenClaim := { program := "ytjjmcifpnjmlbaa", sum := "187ea70e2257d673538aafb84bd15a41becfbca7312f5040147c55752cb96195", func := "loop.example/g03014/laws.FnMoreLegs", spec := "fnMoreLegs", unfollowed := true, recurses := true, apart := false, narrowed := true }
def FnMoreLegsUptoSaid : Prop := fnMoreLegsUptoRow.holds Try.pinned (OpenSpec.upto fnMoreLegsSpec)

/-- 'laws.FnLater', WHERE WHAT IT READS IS OF BULK AT MOST 1048576: true; the input reads as it did. -/
def fnLaterUptoRow : OpenClaim := { program := "ytjjmcifpnjmlbaa", sum := "187ea70e2257d673538aafb84bd15a41becfbca7312f5040147c55752cb96195", func := "loop.example/g03014/laws.FnLater", spec := "fnLater", unfollowed := true, recurses := true, apart := false, narrowed := true }
def FnLaterUptoSaid : Prop := fnLaterUptoRow.holds Try.pinned (OpenSpec.upto fnLaterSpec)

/-- 'laws.FnOver', WHERE WHAT IT READS IS OF BULK AT MOST 1048576: true; the input reads as it did. -/
def fnOverUptoRow : OpenClaim := { program := "ytjjmcifpnjmlbaa", sum := "187ea70e2257d673538aafb84bd15a41becfbca7312f5040147c55752cb96195", func := "loop.example/g03014/laws.FnOver", spec := "fnOver", unfollowed := true, recurses := true, apart := false, narrowed := true }
def FnOverUptoSaid : Prop := fnOverUptoRow.holds Try.pinned (OpenSpec.upto fnOverSpec)

end Rows
end Go.Proofs.Ytjjmcifpnjmlbaa
