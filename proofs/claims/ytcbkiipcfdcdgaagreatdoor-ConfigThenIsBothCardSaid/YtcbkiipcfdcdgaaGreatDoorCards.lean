/-
  DERIVED. GIVEN WITH THE SEED: THE CARDS: each row of YtcbkiipcfdcdgaaGreatDoorRows.lean that lists a variable, with what it lists TIED to the program's text (the seventh form; the later family's looks); each row that meets fmt, with fmt's text TOLD by the authors' own Lean function (tested against real Go, not proved from fmt's source: count such statements apart). THE CARD IS WHAT COUNTS. Prove the row's statement (the work); the ties are given (YtcbkiipcfdcdgaaGreatDoorTie.lean); close each card by the builder's one call (the guide's Derived/Test/ToyasCard.lean, 'card_holds'). Laid BY PROGRAM, IN A SANDBOX (cutbox-door.mjs). By AI agents, Wed Nov 11 2026. No macro, syntax, notation, axiom, sorry.
-/
import Derived.Test.YtcbkiipcfdcdgaaGreatDoorRows
import GoSem.ClaimSeven
namespace Go.Proofs.YtcbkiipcfdcdgaaGreatDoor
namespace Rows

/-- THE TIED CARD OF 'smithyardlaw3.ConfigThroughMatchesSpec'. -/
def configThroughMatchesSpecCard : Claim7 := { stood := { row := configThroughMatchesSpecRow, standIns := [], harness := (true, "0dad0092882bc5a671e2b7b485c6bbefb2413608355759251666df60f1d10f96"), looks := false }, kinds := [], alts := [], laidByText := true, laidKinds := [.data, .pinned], laidTests := true, laidLooks := .later }
def ConfigThroughMatchesSpecCardSaid : Prop := Claim7.holds Tryz.pinned (.plain (OpenSpec.ofChange configThroughMatchesSpecSpec)) configThroughMatchesSpecCard

/-- THE TIED CARD OF 'smithyardlaw3.ConfigThenIsBoth'. -/
def configThenIsBothCard : Claim7 := { stood := { row := configThenIsBothRow, standIns := [], harness := (true, "0dad0092882bc5a671e2b7b485c6bbefb2413608355759251666df60f1d10f96"), looks := false }, kinds := [], alts := [], laidByText := true, laidKinds := [.data, .pinned], laidTests := true, laidLooks := .later }
def ConfigThenIsBothCardSaid : Prop := Claim7.holds Tryz.pinned (.plain (OpenSpec.ofChange configThenIsBothSpec)) configThenIsBothCard

/-- THE TIED CARD OF 'smithyardlaw3.ConfigPlainMatchesSpec'. -/
def configPlainMatchesSpecCard : Claim7 := { stood := { row := configPlainMatchesSpecRow, standIns := [], harness := (true, "0dad0092882bc5a671e2b7b485c6bbefb2413608355759251666df60f1d10f96"), looks := false }, kinds := [], alts := [], laidByText := true, laidKinds := [.data, .pinned], laidTests := true, laidLooks := .later }
def ConfigPlainMatchesSpecCardSaid : Prop := Claim7.holds Tryz.pinned (.plain (OpenSpec.ofChange configPlainMatchesSpecSpec)) configPlainMatchesSpecCard

/-- THE TIED CARD OF 'smithyardlaw3.ConfigDependsIsEnough'. -/
def configDependsIsEnoughCard : Claim7 := { stood := { row := configDependsIsEnoughRow, standIns := [], harness := (true, "0dad0092882bc5a671e2b7b485c6bbefb2413608355759251666df60f1d10f96"), looks := false }, kinds := [], alts := [], laidByText := true, laidKinds := [.data, .pinned], laidTests := true, laidLooks := .later }
def ConfigDependsIsEnoughCardSaid : Prop := Claim7.holds Tryz.pinned (.plain (OpenSpec.ofChange configDependsIsEnoughSpec)) configDependsIsEnoughCard

/-- THE TIED CARD OF 'smithyardlaw3.ConfigResultsAreNew'. -/
def configResultsAreNewCard : Claim7 := { stood := { row := configResultsAreNewRow, standIns := [], harness := (true, "0dad0092882bc5a671e2b7b485c6bbefb2413608355759251666df60f1d10f96"), looks := false }, kinds := [], alts := [], laidByText := true, laidKinds := [.data, .pinned], laidTests := true, laidLooks := .later }
def ConfigResultsAreNewCardSaid : Prop := Claim7.holds Tryz.pinned (.plain (OpenSpec.ofChange configResultsAreNewSpec)) configResultsAreNewCard

/-- THE SECOND FORM's CARD OF 'smithyardlaw3.ConfigThroughMatchesSpec'. -/
def configThroughMatchesSpecUptoCard : Claim7 := { stood := { row := configThroughMatchesSpecUptoRow, standIns := [], harness := (true, "0dad0092882bc5a671e2b7b485c6bbefb2413608355759251666df60f1d10f96"), looks := false }, kinds := [], alts := [], laidByText := true, laidKinds := [.data, .pinned], laidTests := true, laidLooks := .later }
def ConfigThroughMatchesSpecUptoCardSaid : Prop := Claim7.holds Tryz.pinned (.plain (OpenSpec.upto configThroughMatchesSpecSpec)) configThroughMatchesSpecUptoCard

/-- THE SECOND FORM's CARD OF 'smithyardlaw3.ConfigThenIsBoth'. -/
def configThenIsBothUptoCard : Claim7 := { stood := { row := configThenIsBothUptoRow, standIns := [], harness := (true, "0dad0092882bc5a671e2b7b485c6bbefb2413608355759251666df60f1d10f96"), looks := false }, kinds := [], alts := [], laidByText := true, laidKinds := [.data, .pinned], laidTests := true, laidLooks := .later }
def ConfigThenIsBothUptoCardSaid : Prop := Claim7.holds Tryz.pinned (.plain (OpenSpec.upto configThenIsBothSpec)) configThenIsBothUptoCard

/-- THE SECOND FORM's CARD OF 'smithyardlaw3.ConfigPlainMatchesSpec'. -/
def configPlainMatchesSpecUptoCard : Claim7 := { stood := { row := configPlainMatchesSpecUptoRow, standIns := [], harness := (true, "0dad0092882bc5a671e2b7b485c6bbefb2413608355759251666df60f1d10f96"), looks := false }, kinds := [], alts := [], laidByText := true, laidKinds := [.data, .pinned], laidTests := true, laidLooks := .later }
def ConfigPlainMatchesSpecUptoCardSaid : Prop := Claim7.holds Tryz.pinned (.plain (OpenSpec.upto configPlainMatchesSpecSpec)) configPlainMatchesSpecUptoCard

/-- THE SECOND FORM's CARD OF 'smithyardlaw3.ConfigDependsIsEnough'. -/
def configDependsIsEnoughUptoCard : Claim7 := { stood := { row := configDependsIsEnoughUptoRow, standIns := [], harness := (true, "0dad0092882bc5a671e2b7b485c6bbefb2413608355759251666df60f1d10f96"), looks := false }, kinds := [], alts := [], laidByText := true, laidKinds := [.data, .pinned], laidTests := true, laidLooks := .later }
def ConfigDependsIsEnoughUptoCardSaid : Prop := Claim7.holds Tryz.pinned (.plain (OpenSpec.upto configDependsIsEnoughSpec)) configDependsIsEnoughUptoCard

/-- THE SECOND FORM's CARD OF 'smithyardlaw3.ConfigResultsAreNew'. -/
def configResultsAreNewUptoCard : Claim7 := { stood := { row := configResultsAreNewUptoRow, standIns := [], harness := (true, "0dad0092882bc5a671e2b7b485c6bbefb2413608355759251666df60f1d10f96"), looks := false }, kinds := [], alts := [], laidByText := true, laidKinds := [.data, .pinned], laidTests := true, laidLooks := .later }
def ConfigResultsAreNewUptoCardSaid : Prop := Claim7.holds Tryz.pinned (.plain (OpenSpec.upto configResultsAreNewSpec)) configResultsAreNewUptoCard
end Rows
end Go.Proofs.YtcbkiipcfdcdgaaGreatDoor
