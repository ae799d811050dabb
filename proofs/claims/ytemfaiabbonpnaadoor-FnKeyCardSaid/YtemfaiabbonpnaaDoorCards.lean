/-
  DERIVED. GIVEN WITH THE SEED: THE CARDS: each row of YtemfaiabbonpnaaDoorRows.lean that lists a variable, with what it lists TIED to the program's text (the seventh form; the later family's looks); each row that meets fmt, with fmt's text TOLD by the authors' own Lean function (tested against real Go, not proved from fmt's source: count such statements apart). THE CARD IS WHAT COUNTS. Prove the row's statement (the work); the ties are given (YtemfaiabbonpnaaDoorTie.lean); close each card by the builder's one call (the guide's Derived/Test/ToyasCard.lean, 'card_holds'). Laid BY PROGRAM, IN A SANDBOX (cutbox-door.mjs). By AI agents, Wed Nov 11 2026. No macro, syntax, notation, axiom, sorry.
-/
import Derived.Test.YtemfaiabbonpnaaDoorRows
import GoSem.ClaimSeven
namespace Go.Proofs.YtemfaiabbonpnaaDoor
namespace Rows

/-- THE TIED CARD OF 'laws.FnKey'. -/
def fnKeyCard : Claim7 := { stood := { row := fnKeyRow, standIns := [], harness := (true, "ef9f83bc41622cc00ddc249c178f425d173aa002689d9c4ebb888f1dab04f073"), looks := false }, kinds := [], alts := [], laidByText := true, laidKinds := [.data, .pinned], laidTests := true, laidLooks := .later }
def FnKeyCardSaid : Prop := Claim7.holds Tryd.pinned (.plain (OpenSpec.ofChange fnKeySpec)) fnKeyCard

/-- THE TIED CARD OF 'laws.FnExactKeyBytes'. -/
def fnExactKeyBytesCard : Claim7 := { stood := { row := fnExactKeyBytesRow, standIns := [], harness := (true, "ef9f83bc41622cc00ddc249c178f425d173aa002689d9c4ebb888f1dab04f073"), looks := false }, kinds := [], alts := [], laidByText := true, laidKinds := [.data, .pinned], laidTests := true, laidLooks := .later }
def FnExactKeyBytesCardSaid : Prop := Claim7.holds Tryd.pinned (.plain (OpenSpec.ofChange fnExactKeyBytesSpec)) fnExactKeyBytesCard

/-- THE SECOND FORM's CARD OF 'laws.FnKey'. -/
def fnKeyUptoCard : Claim7 := { stood := { row := fnKeyUptoRow, standIns := [], harness := (true, "ef9f83bc41622cc00ddc249c178f425d173aa002689d9c4ebb888f1dab04f073"), looks := false }, kinds := [], alts := [], laidByText := true, laidKinds := [.data, .pinned], laidTests := true, laidLooks := .later }
def FnKeyUptoCardSaid : Prop := Claim7.holds Tryd.pinned (.plain (OpenSpec.upto fnKeySpec)) fnKeyUptoCard

/-- THE SECOND FORM's CARD OF 'laws.FnExactKeyBytes'. -/
def fnExactKeyBytesUptoCard : Claim7 := { stood := { row := fnExactKeyBytesUptoRow, standIns := [], harness := (true, "ef9f83bc41622cc00ddc249c178f425d173aa002689d9c4ebb888f1dab04f073"), looks := false }, kinds := [], alts := [], laidByText := true, laidKinds := [.data, .pinned], laidTests := true, laidLooks := .later }
def FnExactKeyBytesUptoCardSaid : Prop := Claim7.holds Tryd.pinned (.plain (OpenSpec.upto fnExactKeyBytesSpec)) fnExactKeyBytesUptoCard
end Rows
end Go.Proofs.YtemfaiabbonpnaaDoor
