/-
  DERIVED. GIVEN WITH THE SEED: THE CARDS: each row of YtanhehbfbakdcaaGreatDoorRows.lean that lists a variable, with what it lists TIED to the program's text (the seventh form; the later family's looks); each row that meets fmt, with fmt's text TOLD by the authors' own Lean function (tested against real Go, not proved from fmt's source: count such statements apart). THE CARD IS WHAT COUNTS. Prove the row's statement (the work); the ties are given (YtanhehbfbakdcaaGreatDoorTie.lean); close each card by the builder's one call (the guide's Derived/Test/ToyasCard.lean, 'card_holds'). Laid BY PROGRAM, IN A SANDBOX (cutbox-door.mjs). By AI agents, Wed Nov 11 2026. No macro, syntax, notation, axiom, sorry.
-/
import Derived.Test.YtanhehbfbakdcaaGreatDoorRows
import GoSem.ClaimSeven
namespace Go.Proofs.YtanhehbfbakdcaaGreatDoor
namespace Rows

/-- THE TIED CARD OF 'wireloomlaw18.ObjectsMatchesReference'. -/
def objectsMatchesReferenceCard : Claim7 := { stood := { row := objectsMatchesReferenceRow, standIns := [], harness := (true, "d2144d738b23c25f39601f58db701867762614fae570d86a5c47ae91caba610d"), looks := true }, kinds := [], alts := [], laidByText := true, laidKinds := [.data, .data, .data, .sentinel, .sentinel, .mapped, .mapped], laidTests := true, laidLooks := .later }
def ObjectsMatchesReferenceCardSaid : Prop := Claim7.holds Tryz.pinned (.plain (OpenSpec.ofChange objectsMatchesReferenceSpec)) objectsMatchesReferenceCard

/-- THE TIED CARD OF 'wireloomlaw18.ObjectsAddresses'. -/
def objectsAddressesCard : Claim7 := { stood := { row := objectsAddressesRow, standIns := [], harness := (true, "d2144d738b23c25f39601f58db701867762614fae570d86a5c47ae91caba610d"), looks := true }, kinds := [], alts := [], laidByText := true, laidKinds := [.data, .data, .data, .sentinel, .sentinel, .mapped, .mapped], laidTests := true, laidLooks := .later }
def ObjectsAddressesCardSaid : Prop := Claim7.holds Tryz.pinned (.plain (OpenSpec.ofChange objectsAddressesSpec)) objectsAddressesCard

/-- THE TIED CARD OF 'wireloomlaw18.ObjectsDamage'. -/
def objectsDamageCard : Claim7 := { stood := { row := objectsDamageRow, standIns := [], harness := (true, "d2144d738b23c25f39601f58db701867762614fae570d86a5c47ae91caba610d"), looks := true }, kinds := [], alts := [], laidByText := true, laidKinds := [.data, .data, .data, .sentinel, .sentinel, .mapped, .mapped], laidTests := true, laidLooks := .later }
def ObjectsDamageCardSaid : Prop := Claim7.holds Tryz.pinned (.plain (OpenSpec.ofChange objectsDamageSpec)) objectsDamageCard

/-- THE TIED CARD OF 'wireloomlaw18.ObjectsUnion'. -/
def objectsUnionCard : Claim7 := { stood := { row := objectsUnionRow, standIns := [], harness := (true, "d2144d738b23c25f39601f58db701867762614fae570d86a5c47ae91caba610d"), looks := true }, kinds := [], alts := [], laidByText := true, laidKinds := [.data, .data, .data, .sentinel, .sentinel, .mapped, .mapped], laidTests := true, laidLooks := .later }
def ObjectsUnionCardSaid : Prop := Claim7.holds Tryz.pinned (.plain (OpenSpec.ofChange objectsUnionSpec)) objectsUnionCard

/-- THE TIED CARD OF 'wireloomlaw18.ObjectsKeep'. -/
def objectsKeepCard : Claim7 := { stood := { row := objectsKeepRow, standIns := [], harness := (true, "d2144d738b23c25f39601f58db701867762614fae570d86a5c47ae91caba610d"), looks := true }, kinds := [], alts := [], laidByText := true, laidKinds := [.data, .data, .data, .sentinel, .sentinel, .mapped, .mapped], laidTests := true, laidLooks := .later }
def ObjectsKeepCardSaid : Prop := Claim7.holds Tryz.pinned (.plain (OpenSpec.ofChange objectsKeepSpec)) objectsKeepCard

/-- THE TIED CARD OF 'wireloomlaw18.ObjectsFiles'. -/
def objectsFilesCard : Claim7 := { stood := { row := objectsFilesRow, standIns := [], harness := (true, "d2144d738b23c25f39601f58db701867762614fae570d86a5c47ae91caba610d"), looks := true }, kinds := [], alts := [], laidByText := true, laidKinds := [.data, .data, .data, .sentinel, .sentinel, .mapped, .mapped], laidTests := true, laidLooks := .later }
def ObjectsFilesCardSaid : Prop := Claim7.holds Tryz.pinned (.plain (OpenSpec.ofChange objectsFilesSpec)) objectsFilesCard

/-- THE SECOND FORM's CARD OF 'wireloomlaw18.ObjectsMatchesReference'. -/
def objectsMatchesReferenceUptoCard : Claim7 := { stood := { row := objectsMatchesReferenceUptoRow, standIns := [], harness := (true, "d2144d738b23c25f39601f58db701867762614fae570d86a5c47ae91caba610d"), looks := true }, kinds := [], alts := [], laidByText := true, laidKinds := [.data, .data, .data, .sentinel, .sentinel, .mapped, .mapped], laidTests := true, laidLooks := .later }
def ObjectsMatchesReferenceUptoCardSaid : Prop := Claim7.holds Tryz.pinned (.plain (OpenSpec.upto objectsMatchesReferenceSpec)) objectsMatchesReferenceUptoCard

/-- THE SECOND FORM's CARD OF 'wireloomlaw18.ObjectsAddresses'. -/
def objectsAddressesUptoCard : Claim7 := { stood := { row := objectsAddressesUptoRow, standIns := [], harness := (true, "d2144d738b23c25f39601f58db701867762614fae570d86a5c47ae91caba610d"), looks := true }, kinds := [], alts := [], laidByText := true, laidKinds := [.data, .data, .data, .sentinel, .sentinel, .mapped, .mapped], laidTests := true, laidLooks := .later }
def ObjectsAddressesUptoCardSaid : Prop := Claim7.holds Tryz.pinned (.plain (OpenSpec.upto objectsAddressesSpec)) objectsAddressesUptoCard

/-- THE SECOND FORM's CARD OF 'wireloomlaw18.ObjectsDamage'. -/
def objectsDamageUptoCard : Claim7 := { stood := { row := objectsDamageUptoRow, standIns := [], harness := (true, "d2144d738b23c25f39601f58db701867762614fae570d86a5c47ae91caba610d"), looks := true }, kinds := [], alts := [], laidByText := true, laidKinds := [.data, .data, .data, .sentinel, .sentinel, .mapped, .mapped], laidTests := true, laidLooks := .later }
def ObjectsDamageUptoCardSaid : Prop := Claim7.holds Tryz.pinned (.plain (OpenSpec.upto objectsDamageSpec)) objectsDamageUptoCard

/-- THE SECOND FORM's CARD OF 'wireloomlaw18.ObjectsUnion'. -/
def objectsUnionUptoCard : Claim7 := { stood := { row := objectsUnionUptoRow, standIns := [], harness := (true, "d2144d738b23c25f39601f58db701867762614fae570d86a5c47ae91caba610d"), looks := true }, kinds := [], alts := [], laidByText := true, laidKinds := [.data, .data, .data, .sentinel, .sentinel, .mapped, .mapped], laidTests := true, laidLooks := .later }
def ObjectsUnionUptoCardSaid : Prop := Claim7.holds Tryz.pinned (.plain (OpenSpec.upto objectsUnionSpec)) objectsUnionUptoCard

/-- THE SECOND FORM's CARD OF 'wireloomlaw18.ObjectsKeep'. -/
def objectsKeepUptoCard : Claim7 := { stood := { row := objectsKeepUptoRow, standIns := [], harness := (true, "d2144d738b23c25f39601f58db701867762614fae570d86a5c47ae91caba610d"), looks := true }, kinds := [], alts := [], laidByText := true, laidKinds := [.data, .data, .data, .sentinel, .sentinel, .mapped, .mapped], laidTests := true, laidLooks := .later }
def ObjectsKeepUptoCardSaid : Prop := Claim7.holds Tryz.pinned (.plain (OpenSpec.upto objectsKeepSpec)) objectsKeepUptoCard

/-- THE SECOND FORM's CARD OF 'wireloomlaw18.ObjectsFiles'. -/
def objectsFilesUptoCard : Claim7 := { stood := { row := objectsFilesUptoRow, standIns := [], harness := (true, "d2144d738b23c25f39601f58db701867762614fae570d86a5c47ae91caba610d"), looks := true }, kinds := [], alts := [], laidByText := true, laidKinds := [.data, .data, .data, .sentinel, .sentinel, .mapped, .mapped], laidTests := true, laidLooks := .later }
def ObjectsFilesUptoCardSaid : Prop := Claim7.holds Tryz.pinned (.plain (OpenSpec.upto objectsFilesSpec)) objectsFilesUptoCard
end Rows
end Go.Proofs.YtanhehbfbakdcaaGreatDoor
