/-
  DERIVED. GIVEN WITH THE SEED: THE CARDS: each row of YtanfbicgojbnkaaDoorRows.lean that lists a variable, with what it lists TIED to the program's text (the seventh form; the later family's looks); each row that meets fmt, with fmt's text TOLD by the authors' own Lean function (tested against real Go, not proved from fmt's source: count such statements apart). THE CARD IS WHAT COUNTS. Prove the row's statement (the work); the ties are given (YtanfbicgojbnkaaDoorTie.lean); close each card by the builder's one call (the guide's Derived/Test/ToyasCard.lean, 'card_holds'). Laid BY PROGRAM, IN A SANDBOX (cutbox-door.mjs). By AI agents, Wed Nov 11 2026. No macro, syntax, notation, axiom, sorry.
-/
import Derived.Test.YtanfbicgojbnkaaDoorRows
import GoSem.ClaimSeven
namespace Go.Proofs.YtanfbicgojbnkaaDoor
namespace Rows

/-- THE TIED CARD OF 'laws.FnManifest'. -/
def fnManifestCard : Claim7 := { stood := { row := fnManifestRow, standIns := [], harness := (true, "c26c6fddb5c55818a40c41ace6f9e2e0113bddb5459f0075450d2bac9c15679c"), looks := true }, kinds := [], alts := [], laidByText := true, laidKinds := [.data, .data, .data, .sentinel, .sentinel], laidTests := true, laidLooks := .later }
def FnManifestCardSaid : Prop := Claim7.holds Tryd.pinned (.plain (OpenSpec.ofChange fnManifestSpec)) fnManifestCard

/-- THE TIED CARD OF 'laws.FnExactManifest'. -/
def fnExactManifestCard : Claim7 := { stood := { row := fnExactManifestRow, standIns := [], harness := (true, "c26c6fddb5c55818a40c41ace6f9e2e0113bddb5459f0075450d2bac9c15679c"), looks := true }, kinds := [], alts := [], laidByText := true, laidKinds := [.data, .data, .data], laidTests := true, laidLooks := .later }
def FnExactManifestCardSaid : Prop := Claim7.holds Tryd.pinned (.plain (OpenSpec.ofChange fnExactManifestSpec)) fnExactManifestCard

/-- THE TIED CARD OF 'laws.FnExactReadManifest'. -/
def fnExactReadManifestCard : Claim7 := { stood := { row := fnExactReadManifestRow, standIns := [], harness := (true, "c26c6fddb5c55818a40c41ace6f9e2e0113bddb5459f0075450d2bac9c15679c"), looks := true }, kinds := [], alts := [], laidByText := true, laidKinds := [.data, .data, .data, .sentinel, .sentinel], laidTests := true, laidLooks := .later }
def FnExactReadManifestCardSaid : Prop := Claim7.holds Tryd.pinned (.plain (OpenSpec.ofChange fnExactReadManifestSpec)) fnExactReadManifestCard

/-- THE SECOND FORM's CARD OF 'laws.FnManifest'. -/
def fnManifestUptoCard : Claim7 := { stood := { row := fnManifestUptoRow, standIns := [], harness := (true, "c26c6fddb5c55818a40c41ace6f9e2e0113bddb5459f0075450d2bac9c15679c"), looks := true }, kinds := [], alts := [], laidByText := true, laidKinds := [.data, .data, .data, .sentinel, .sentinel], laidTests := true, laidLooks := .later }
def FnManifestUptoCardSaid : Prop := Claim7.holds Tryd.pinned (.plain (OpenSpec.upto fnManifestSpec)) fnManifestUptoCard

/-- THE SECOND FORM's CARD OF 'laws.FnExactManifest'. -/
def fnExactManifestUptoCard : Claim7 := { stood := { row := fnExactManifestUptoRow, standIns := [], harness := (true, "c26c6fddb5c55818a40c41ace6f9e2e0113bddb5459f0075450d2bac9c15679c"), looks := true }, kinds := [], alts := [], laidByText := true, laidKinds := [.data, .data, .data], laidTests := true, laidLooks := .later }
def FnExactManifestUptoCardSaid : Prop := Claim7.holds Tryd.pinned (.plain (OpenSpec.upto fnExactManifestSpec)) fnExactManifestUptoCard

/-- THE SECOND FORM's CARD OF 'laws.FnExactReadManifest'. -/
def fnExactReadManifestUptoCard : Claim7 := { stood := { row := fnExactReadManifestUptoRow, standIns := [], harness := (true, "c26c6fddb5c55818a40c41ace6f9e2e0113bddb5459f0075450d2bac9c15679c"), looks := true }, kinds := [], alts := [], laidByText := true, laidKinds := [.data, .data, .data, .sentinel, .sentinel], laidTests := true, laidLooks := .later }
def FnExactReadManifestUptoCardSaid : Prop := Claim7.holds Tryd.pinned (.plain (OpenSpec.upto fnExactReadManifestSpec)) fnExactReadManifestUptoCard
end Rows
end Go.Proofs.YtanfbicgojbnkaaDoor
