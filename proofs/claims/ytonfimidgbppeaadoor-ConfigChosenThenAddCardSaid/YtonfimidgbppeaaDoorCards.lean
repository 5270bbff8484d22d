/-
  DERIVED. GIVEN WITH THE SEED: THE CARDS: each row of YtonfimidgbppeaaDoorRows.lean that lists a variable, with what it lists TIED to the program's text (the seventh form; the later family's looks); each row that meets fmt, with fmt's text TOLD by the authors' own Lean function (tested against real Go, not proved from fmt's source: count such statements apart). THE CARD IS WHAT COUNTS. Prove the row's statement (the work); the ties are given (YtonfimidgbppeaaDoorTie.lean); close each card by the builder's one call (the guide's Derived/Test/ToyasCard.lean, 'card_holds'). Laid BY PROGRAM, IN A SANDBOX (cutbox-door.mjs). By AI agents, Wed Nov 11 2026. No macro, syntax, notation, axiom, sorry.
-/
import Derived.Test.YtonfimidgbppeaaDoorRows
import GoSem.ClaimSeven
namespace Go.Proofs.YtonfimidgbppeaaDoor
namespace Rows

/-- THE TIED CARD OF 'smithyardlaw3.ConfigChosenIsOne'. -/
def configChosenIsOneCard : Claim7 := { stood := { row := configChosenIsOneRow, standIns := [], harness := (true, "432cc9a9c7de05b2f849c1e8a3315f91e8d6783efadd54038cbfb33c33a093bf"), looks := false }, kinds := [], alts := [], laidByText := true, laidKinds := [.data, .pinned], laidTests := true, laidLooks := .later }
def ConfigChosenIsOneCardSaid : Prop := Claim7.holds Tryd.pinned (.plain (OpenSpec.ofChange configChosenIsOneSpec)) configChosenIsOneCard

/-- THE TIED CARD OF 'smithyardlaw3.ConfigChosenThenAdd'. -/
def configChosenThenAddCard : Claim7 := { stood := { row := configChosenThenAddRow, standIns := [], harness := (true, "432cc9a9c7de05b2f849c1e8a3315f91e8d6783efadd54038cbfb33c33a093bf"), looks := false }, kinds := [], alts := [], laidByText := true, laidKinds := [.data, .pinned], laidTests := true, laidLooks := .later }
def ConfigChosenThenAddCardSaid : Prop := Claim7.holds Tryd.pinned (.plain (OpenSpec.ofChange configChosenThenAddSpec)) configChosenThenAddCard

/-- THE SECOND FORM's CARD OF 'smithyardlaw3.ConfigChosenIsOne'. -/
def configChosenIsOneUptoCard : Claim7 := { stood := { row := configChosenIsOneUptoRow, standIns := [], harness := (true, "432cc9a9c7de05b2f849c1e8a3315f91e8d6783efadd54038cbfb33c33a093bf"), looks := false }, kinds := [], alts := [], laidByText := true, laidKinds := [.data, .pinned], laidTests := true, laidLooks := .later }
def ConfigChosenIsOneUptoCardSaid : Prop := Claim7.holds Tryd.pinned (.plain (OpenSpec.upto configChosenIsOneSpec)) configChosenIsOneUptoCard

/-- THE SECOND FORM's CARD OF 'smithyardlaw3.ConfigChosenThenAdd'. -/
def configChosenThenAddUptoCard : Claim7 := { stood := { row := configChosenThenAddUptoRow, standIns := [], harness := (true, "432cc9a9c7de05b2f849c1e8a3315f91e8d6783efadd54038cbfb33c33a093bf"), looks := false }, kinds := [], alts := [], laidByText := true, laidKinds := [.data, .pinned], laidTests := true, laidLooks := .later }
def ConfigChosenThenAddUptoCardSaid : Prop := Claim7.holds Tryd.pinned (.plain (OpenSpec.upto configChosenThenAddSpec)) configChosenThenAddUptoCard
end Rows
end Go.Proofs.YtonfimidgbppeaaDoor
