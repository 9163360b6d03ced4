/-
  DERIVED. GIVEN WITH THE SEED: THE CARDS: each row of YtdijjakmjlegoaaGreatDoorRows.lean that lists a variable, with what it lists TIED to the program's text (the seventh form; the later family's looks); each row that meets fmt, with fmt's text TOLD by the authors' own Lean function (tested against real Go, not proved from fmt's source: count such statements apart). THE CARD IS WHAT COUNTS. Prove the row's statement (the work); the ties are given (YtdijjakmjlegoaaGreatDoorTie.lean); close each card by the builder's one call (the guide's Derived/Test/ToyasCard.lean, 'card_holds'). Laid BY PROGRAM, IN A SANDBOX (cutbox-door.mjs). By AI agents, Wed Nov 11 2026. No macro, syntax, notation, axiom, sorry.
-/
import Derived.Test.YtdijjakmjlegoaaGreatDoorRows
import GoSem.ClaimSeven
namespace Go.Proofs.YtdijjakmjlegoaaGreatDoor
namespace Rows

/-- THE TIED CARD OF 'parterrelaw31.LayoutFills'. -/
def layoutFillsCard : Claim7 := { stood := { row := layoutFillsRow, standIns := [], harness := (true, "d4b98ad185d9e76ce47236ca6d2f02ec4d8f3ee5f72a0d9a0349e9e2a1c04cd3"), looks := true }, kinds := [], alts := [], laidByText := true, laidKinds := [.data, .pinned], laidTests := true, laidLooks := .later }
def LayoutFillsCardSaid : Prop := Claim7.holds Tryz.pinned (.plain (OpenSpec.ofChange layoutFillsSpec)) layoutFillsCard

/-- THE TIED CARD OF 'parterrelaw31.LayoutNobody'. -/
def layoutNobodyCard : Claim7 := { stood := { row := layoutNobodyRow, standIns := [], harness := (true, "d4b98ad185d9e76ce47236ca6d2f02ec4d8f3ee5f72a0d9a0349e9e2a1c04cd3"), looks := true }, kinds := [], alts := [], laidByText := true, laidKinds := [.data, .pinned], laidTests := true, laidLooks := .later }
def LayoutNobodyCardSaid : Prop := Claim7.holds Tryz.pinned (.plain (OpenSpec.ofChange layoutNobodySpec)) layoutNobodyCard

/-- THE TIED CARD OF 'parterrelaw36.SessionNobody'. -/
def sessionNobodyCard : Claim7 := { stood := { row := sessionNobodyRow, standIns := [], harness := (true, "d4b98ad185d9e76ce47236ca6d2f02ec4d8f3ee5f72a0d9a0349e9e2a1c04cd3"), looks := true }, kinds := [], alts := [], laidByText := true, laidKinds := [.data, .pinned], laidTests := true, laidLooks := .later }
def SessionNobodyCardSaid : Prop := Claim7.holds Tryz.pinned (.plain (OpenSpec.ofChange sessionNobodySpec)) sessionNobodyCard

/-- THE TIED CARD OF 'parterrelaw34.EngineSizes'. -/
def engineSizesCard : Claim7 := { stood := { row := engineSizesRow, standIns := [], harness := (true, "d4b98ad185d9e76ce47236ca6d2f02ec4d8f3ee5f72a0d9a0349e9e2a1c04cd3"), looks := true }, kinds := [], alts := [], laidByText := true, laidKinds := [.data, .data, .data, .data, .pinned], laidTests := true, laidLooks := .later }
def EngineSizesCardSaid : Prop := Claim7.holds Tryz.pinned (.plain (OpenSpec.ofChange engineSizesSpec)) engineSizesCard

/-- THE SECOND FORM's CARD OF 'parterrelaw31.LayoutFills'. -/
def layoutFillsUptoCard : Claim7 := { stood := { row := layoutFillsUptoRow, standIns := [], harness := (true, "d4b98ad185d9e76ce47236ca6d2f02ec4d8f3ee5f72a0d9a0349e9e2a1c04cd3"), looks := true }, kinds := [], alts := [], laidByText := true, laidKinds := [.data, .pinned], laidTests := true, laidLooks := .later }
def LayoutFillsUptoCardSaid : Prop := Claim7.holds Tryz.pinned (.plain (OpenSpec.upto layoutFillsSpec)) layoutFillsUptoCard

/-- THE SECOND FORM's CARD OF 'parterrelaw31.LayoutNobody'. -/
def layoutNobodyUptoCard : Claim7 := { stood := { row := layoutNobodyUptoRow, standIns := [], harness := (true, "d4b98ad185d9e76ce47236ca6d2f02ec4d8f3ee5f72a0d9a0349e9e2a1c04cd3"), looks := true }, kinds := [], alts := [], laidByText := true, laidKinds := [.data, .pinned], laidTests := true, laidLooks := .later }
def LayoutNobodyUptoCardSaid : Prop := Claim7.holds Tryz.pinned (.plain (OpenSpec.upto layoutNobodySpec)) layoutNobodyUptoCard

/-- THE SECOND FORM's CARD OF 'parterrelaw36.SessionNobody'. -/
def sessionNobodyUptoCard : Claim7 := { stood := { row := sessionNobodyUptoRow, standIns := [], harness := (true, "d4b98ad185d9e76ce47236ca6d2f02ec4d8f3ee5f72a0d9a0349e9e2a1c04cd3"), looks := true }, kinds := [], alts := [], laidByText := true, laidKinds := [.data, .pinned], laidTests := true, laidLooks := .later }
def SessionNobodyUptoCardSaid : Prop := Claim7.holds Tryz.pinned (.plain (OpenSpec.upto sessionNobodySpec)) sessionNobodyUptoCard

/-- THE SECOND FORM's CARD OF 'parterrelaw34.EngineSizes'. -/
def engineSizesUptoCard : Claim7 := { stood := { row := engineSizesUptoRow, standIns := [], harness := (true, "d4b98ad185d9e76ce47236ca6d2f02ec4d8f3ee5f72a0d9a0349e9e2a1c04cd3"), looks := true }, kinds := [], alts := [], laidByText := true, laidKinds := [.data, .data, .data, .data, .pinned], laidTests := true, laidLooks := .later }
def EngineSizesUptoCardSaid : Prop := Claim7.holds Tryz.pinned (.plain (OpenSpec.upto engineSizesSpec)) engineSizesUptoCard
end Rows
end Go.Proofs.YtdijjakmjlegoaaGreatDoor
