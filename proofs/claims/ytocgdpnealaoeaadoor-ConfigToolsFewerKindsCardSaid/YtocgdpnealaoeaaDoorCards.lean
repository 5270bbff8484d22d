/-
  DERIVED. GIVEN WITH THE SEED: THE CARDS: each row of YtocgdpnealaoeaaDoorRows.lean that lists a variable, with what it lists TIED to the program's text (the seventh form; the later family's looks); each row that meets fmt, with fmt's text TOLD by the authors' own Lean function (tested against real Go, not proved from fmt's source: count such statements apart). THE CARD IS WHAT COUNTS. Prove the row's statement (the work); the ties are given (YtocgdpnealaoeaaDoorTie.lean); close each card by the builder's one call (the guide's Derived/Test/ToyasCard.lean, 'card_holds'). Laid BY PROGRAM, IN A SANDBOX (cutbox-door.mjs). By AI agents, Wed Nov 11 2026. No macro, syntax, notation, axiom, sorry.
-/
import Derived.Test.YtocgdpnealaoeaaDoorRows
import GoSem.ClaimSeven
namespace Go.Proofs.YtocgdpnealaoeaaDoor
namespace Rows

/-- THE TIED CARD OF 'smithyardlaw1.BlobSelectsMatchSpec'. -/
def blobSelectsMatchSpecCard : Claim7 := { stood := { row := blobSelectsMatchSpecRow, standIns := [], harness := (true, "7a5baceaf1a1f43752caa0d68233d87f90630516f5a273a057188fb7e3720495"), looks := false }, kinds := [], alts := [], laidByText := true, laidKinds := [.data, .pinned], laidTests := true, laidLooks := .later }
def BlobSelectsMatchSpecCardSaid : Prop := Claim7.holds Tryd.pinned (.plain (OpenSpec.ofChange blobSelectsMatchSpecSpec)) blobSelectsMatchSpecCard

/-- THE TIED CARD OF 'smithyardlaw3.ConfigToolsFewerKinds'. -/
def configToolsFewerKindsCard : Claim7 := { stood := { row := configToolsFewerKindsRow, standIns := [], harness := (true, "7a5baceaf1a1f43752caa0d68233d87f90630516f5a273a057188fb7e3720495"), looks := false }, kinds := [], alts := [], laidByText := true, laidKinds := [.data, .pinned], laidTests := true, laidLooks := .later }
def ConfigToolsFewerKindsCardSaid : Prop := Claim7.holds Tryd.pinned (.plain (OpenSpec.ofChange configToolsFewerKindsSpec)) configToolsFewerKindsCard

/-- THE SECOND FORM's CARD OF 'smithyardlaw1.BlobSelectsMatchSpec'. -/
def blobSelectsMatchSpecUptoCard : Claim7 := { stood := { row := blobSelectsMatchSpecUptoRow, standIns := [], harness := (true, "7a5baceaf1a1f43752caa0d68233d87f90630516f5a273a057188fb7e3720495"), looks := false }, kinds := [], alts := [], laidByText := true, laidKinds := [.data, .pinned], laidTests := true, laidLooks := .later }
def BlobSelectsMatchSpecUptoCardSaid : Prop := Claim7.holds Tryd.pinned (.plain (OpenSpec.upto blobSelectsMatchSpecSpec)) blobSelectsMatchSpecUptoCard

/-- THE SECOND FORM's CARD OF 'smithyardlaw3.ConfigToolsFewerKinds'. -/
def configToolsFewerKindsUptoCard : Claim7 := { stood := { row := configToolsFewerKindsUptoRow, standIns := [], harness := (true, "7a5baceaf1a1f43752caa0d68233d87f90630516f5a273a057188fb7e3720495"), looks := false }, kinds := [], alts := [], laidByText := true, laidKinds := [.data, .pinned], laidTests := true, laidLooks := .later }
def ConfigToolsFewerKindsUptoCardSaid : Prop := Claim7.holds Tryd.pinned (.plain (OpenSpec.upto configToolsFewerKindsSpec)) configToolsFewerKindsUptoCard
end Rows
end Go.Proofs.YtocgdpnealaoeaaDoor
