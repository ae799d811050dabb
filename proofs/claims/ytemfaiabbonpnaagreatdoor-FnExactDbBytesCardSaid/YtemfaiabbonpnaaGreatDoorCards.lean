/-
  DERIVED. GIVEN WITH THE SEED: THE CARDS: each row of YtemfaiabbonpnaaGreatDoorRows.lean that lists a variable, with what it lists TIED to the program's text (the seventh form; the later family's looks); each row that meets fmt, with fmt's text TOLD by the authors' own Lean function (tested against real Go, not proved from fmt's source: count such statements apart). THE CARD IS WHAT COUNTS. Prove the row's statement (the work); the ties are given (YtemfaiabbonpnaaGreatDoorTie.lean); close each card by the builder's one call (the guide's Derived/Test/ToyasCard.lean, 'card_holds'). Laid BY PROGRAM, IN A SANDBOX (cutbox-door.mjs). By AI agents, Wed Nov 11 2026. No macro, syntax, notation, axiom, sorry.
-/
import Derived.Test.YtemfaiabbonpnaaGreatDoorRows
import GoSem.ClaimSeven
namespace Go.Proofs.YtemfaiabbonpnaaGreatDoor
namespace Rows

/-- THE TIED CARD OF 'laws.FnExactOpsBytes'. -/
def fnExactOpsBytesCard : Claim7 := { stood := { row := fnExactOpsBytesRow, standIns := [], harness := (true, "8861776a673939d37b2cb49d34386acdf4ee6582c922a107aafb750f585130f1"), looks := false }, kinds := [], alts := [], laidByText := true, laidKinds := [.data, .pinned], laidTests := true, laidLooks := .later }
def FnExactOpsBytesCardSaid : Prop := Claim7.holds Tryz.pinned (.plain (OpenSpec.ofChange fnExactOpsBytesSpec)) fnExactOpsBytesCard

/-- THE TIED CARD OF 'laws.FnExactDbBytes'. -/
def fnExactDbBytesCard : Claim7 := { stood := { row := fnExactDbBytesRow, standIns := [], harness := (true, "8861776a673939d37b2cb49d34386acdf4ee6582c922a107aafb750f585130f1"), looks := false }, kinds := [], alts := [], laidByText := true, laidKinds := [.data, .pinned], laidTests := true, laidLooks := .later }
def FnExactDbBytesCardSaid : Prop := Claim7.holds Tryz.pinned (.plain (OpenSpec.ofChange fnExactDbBytesSpec)) fnExactDbBytesCard

/-- THE SECOND FORM's CARD OF 'laws.FnExactOpsBytes'. -/
def fnExactOpsBytesUptoCard : Claim7 := { stood := { row := fnExactOpsBytesUptoRow, standIns := [], harness := (true, "8861776a673939d37b2cb49d34386acdf4ee6582c922a107aafb750f585130f1"), looks := false }, kinds := [], alts := [], laidByText := true, laidKinds := [.data, .pinned], laidTests := true, laidLooks := .later }
def FnExactOpsBytesUptoCardSaid : Prop := Claim7.holds Tryz.pinned (.plain (OpenSpec.upto fnExactOpsBytesSpec)) fnExactOpsBytesUptoCard

/-- THE SECOND FORM's CARD OF 'laws.FnExactDbBytes'. -/
def fnExactDbBytesUptoCard : Claim7 := { stood := { row := fnExactDbBytesUptoRow, standIns := [], harness := (true, "8861776a673939d37b2cb49d34386acdf4ee6582c922a107aafb750f585130f1"), looks := false }, kinds := [], alts := [], laidByText := true, laidKinds := [.data, .pinned], laidTests := true, laidLooks := .later }
def FnExactDbBytesUptoCardSaid : Prop := Claim7.holds Tryz.pinned (.plain (OpenSpec.upto fnExactDbBytesSpec)) fnExactDbBytesUptoCard
end Rows
end Go.Proofs.YtemfaiabbonpnaaGreatDoor
