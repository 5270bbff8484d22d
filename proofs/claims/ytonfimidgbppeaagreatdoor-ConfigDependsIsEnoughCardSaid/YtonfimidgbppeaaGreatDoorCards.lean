/-
  DERIVED. GIVEN WITH THE SEED: THE CARDS: each row of YtonfimidgbppeaaGreatDoorRows.lean that lists a variable, with what it lists TIED to the program's text (the seventh form; the later family's looks); each row that meets fmt, with fmt's text TOLD by the authors' own Lean function (tested against real Go, not proved from fmt's source: count such statements apart). THE CARD IS WHAT COUNTS. Prove the row's statement (the work); the ties are given (YtonfimidgbppeaaGreatDoorTie.lean); close each card by the builder's one call (the guide's Derived/Test/ToyasCard.lean, 'card_holds'). Laid BY PROGRAM, IN A SANDBOX (cutbox-door.mjs). By AI agents, Wed Nov 11 2026. No macro, syntax, notation, axiom, sorry.
-/
import Derived.Test.YtonfimidgbppeaaGreatDoorRows
import GoSem.ClaimSeven
namespace Go.Proofs.YtonfimidgbppeaaGreatDoor
namespace Rows

/-- THE TIED CARD OF 'smithyardlaw3.ConfigChosenMatchesSpec'. -/
def configChosenMatchesSpecCard : Claim7 := { stood := { row := configChosenMatchesSpecRow, standIns := [], harness := (true, "91e2c33de852b940bd828f7907525ba2f641542631243761c003a931ff1cc0e4"), looks := false }, kinds := [], alts := [], laidByText := true, laidKinds := [.data, .pinned], laidTests := true, laidLooks := .later }
def ConfigChosenMatchesSpecCardSaid : Prop := Claim7.holds Tryz.pinned (.plain (OpenSpec.ofChange configChosenMatchesSpecSpec)) configChosenMatchesSpecCard

/-- THE TIED CARD OF 'smithyardlaw3.ConfigPlainMatchesSpec'. -/
def configPlainMatchesSpecCard : Claim7 := { stood := { row := configPlainMatchesSpecRow, standIns := [], harness := (true, "91e2c33de852b940bd828f7907525ba2f641542631243761c003a931ff1cc0e4"), looks := false }, kinds := [], alts := [], laidByText := true, laidKinds := [.data, .pinned], laidTests := true, laidLooks := .later }
def ConfigPlainMatchesSpecCardSaid : Prop := Claim7.holds Tryz.pinned (.plain (OpenSpec.ofChange configPlainMatchesSpecSpec)) configPlainMatchesSpecCard

/-- THE TIED CARD OF 'smithyardlaw3.ConfigDependsIsEnough'. -/
def configDependsIsEnoughCard : Claim7 := { stood := { row := configDependsIsEnoughRow, standIns := [], harness := (true, "91e2c33de852b940bd828f7907525ba2f641542631243761c003a931ff1cc0e4"), looks := false }, kinds := [], alts := [], laidByText := true, laidKinds := [.data, .pinned], laidTests := true, laidLooks := .later }
def ConfigDependsIsEnoughCardSaid : Prop := Claim7.holds Tryz.pinned (.plain (OpenSpec.ofChange configDependsIsEnoughSpec)) configDependsIsEnoughCard

/-- THE SECOND FORM's CARD OF 'smithyardlaw3.ConfigChosenMatchesSpec'. -/
def configChosenMatchesSpecUptoCard : Claim7 := { stood := { row := configChosenMatchesSpecUptoRow, standIns := [], harness := (true, "91e2c33de852b940bd828f7907525ba2f641542631243761c003a931ff1cc0e4"), looks := false }, kinds := [], alts := [], laidByText := true, laidKinds := [.data, .pinned], laidTests := true, laidLooks := .later }
def ConfigChosenMatchesSpecUptoCardSaid : Prop := Claim7.holds Tryz.pinned (.plain (OpenSpec.upto configChosenMatchesSpecSpec)) configChosenMatchesSpecUptoCard

/-- THE SECOND FORM's CARD OF 'smithyardlaw3.ConfigPlainMatchesSpec'. -/
def configPlainMatchesSpecUptoCard : Claim7 := { stood := { row := configPlainMatchesSpecUptoRow, standIns := [], harness := (true, "91e2c33de852b940bd828f7907525ba2f641542631243761c003a931ff1cc0e4"), looks := false }, kinds := [], alts := [], laidByText := true, laidKinds := [.data, .pinned], laidTests := true, laidLooks := .later }
def ConfigPlainMatchesSpecUptoCardSaid : Prop := Claim7.holds Tryz.pinned (.plain (OpenSpec.upto configPlainMatchesSpecSpec)) configPlainMatchesSpecUptoCard

/-- THE SECOND FORM's CARD OF 'smithyardlaw3.ConfigDependsIsEnough'. -/
def configDependsIsEnoughUptoCard : Claim7 := { stood := { row := configDependsIsEnoughUptoRow, standIns := [], harness := (true, "91e2c33de852b940bd828f7907525ba2f641542631243761c003a931ff1cc0e4"), looks := false }, kinds := [], alts := [], laidByText := true, laidKinds := [.data, .pinned], laidTests := true, laidLooks := .later }
def ConfigDependsIsEnoughUptoCardSaid : Prop := Claim7.holds Tryz.pinned (.plain (OpenSpec.upto configDependsIsEnoughSpec)) configDependsIsEnoughUptoCard
end Rows
end Go.Proofs.YtonfimidgbppeaaGreatDoor
