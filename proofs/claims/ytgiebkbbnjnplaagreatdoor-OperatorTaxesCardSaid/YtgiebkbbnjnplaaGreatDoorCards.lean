/-
  DERIVED. GIVEN WITH THE SEED: THE CARDS: each row of YtgiebkbbnjnplaaGreatDoorRows.lean that lists a variable, with what it lists TIED to the program's text (the seventh form; the later family's looks); each row that meets fmt, with fmt's text TOLD by the authors' own Lean function (tested against real Go, not proved from fmt's source: count such statements apart). THE CARD IS WHAT COUNTS. Prove the row's statement (the work); the ties are given (YtgiebkbbnjnplaaGreatDoorTie.lean); close each card by the builder's one call (the guide's Derived/Test/ToyasCard.lean, 'card_holds'). Laid BY PROGRAM, IN A SANDBOX (cutbox-door.mjs). By AI agents, Wed Nov 11 2026. No macro, syntax, notation, axiom, sorry.
-/
import Derived.Test.YtgiebkbbnjnplaaGreatDoorRows
import GoSem.ClaimSeven
namespace Go.Proofs.YtgiebkbbnjnplaaGreatDoor
namespace Rows

/-- THE TIED CARD OF 'lotterylaw52.OperatorTaxes'. -/
def operatorTaxesCard : Claim7 := { stood := { row := operatorTaxesRow, standIns := [], harness := (true, "329c57431ebc323dbb66b6db11d8cb8100f82bdb348743ea3640dc719ede3dd5"), looks := true }, kinds := [], alts := [], laidByText := true, laidKinds := [.data, .data, .data], laidTests := true, laidLooks := .later }
def OperatorTaxesCardSaid : Prop := Claim7.holds Tryz.pinned (.plain (OpenSpec.ofChange operatorTaxesSpec)) operatorTaxesCard

/-- THE TIED CARD OF 'lotterytop.TopProtects'. -/
def topProtectsCard : Claim7 := { stood := { row := topProtectsRow, standIns := [], harness := (true, "329c57431ebc323dbb66b6db11d8cb8100f82bdb348743ea3640dc719ede3dd5"), looks := true }, kinds := [], alts := [], laidByText := true, laidKinds := [.data, .data, .data], laidTests := true, laidLooks := .later }
def TopProtectsCardSaid : Prop := Claim7.holds Tryz.pinned (.plain (OpenSpec.ofChange topProtectsSpec)) topProtectsCard

/-- THE SECOND FORM's CARD OF 'lotterylaw52.OperatorTaxes'. -/
def operatorTaxesUptoCard : Claim7 := { stood := { row := operatorTaxesUptoRow, standIns := [], harness := (true, "329c57431ebc323dbb66b6db11d8cb8100f82bdb348743ea3640dc719ede3dd5"), looks := true }, kinds := [], alts := [], laidByText := true, laidKinds := [.data, .data, .data], laidTests := true, laidLooks := .later }
def OperatorTaxesUptoCardSaid : Prop := Claim7.holds Tryz.pinned (.plain (OpenSpec.upto operatorTaxesSpec)) operatorTaxesUptoCard

/-- THE SECOND FORM's CARD OF 'lotterytop.TopProtects'. -/
def topProtectsUptoCard : Claim7 := { stood := { row := topProtectsUptoRow, standIns := [], harness := (true, "329c57431ebc323dbb66b6db11d8cb8100f82bdb348743ea3640dc719ede3dd5"), looks := true }, kinds := [], alts := [], laidByText := true, laidKinds := [.data, .data, .data], laidTests := true, laidLooks := .later }
def TopProtectsUptoCardSaid : Prop := Claim7.holds Tryz.pinned (.plain (OpenSpec.upto topProtectsSpec)) topProtectsUptoCard
end Rows
end Go.Proofs.YtgiebkbbnjnplaaGreatDoor
