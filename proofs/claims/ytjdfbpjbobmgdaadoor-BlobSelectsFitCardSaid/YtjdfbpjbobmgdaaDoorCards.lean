/-
  DERIVED. GIVEN WITH THE SEED: THE CARDS: each row of YtjdfbpjbobmgdaaDoorRows.lean that lists a variable, with what it lists TIED to the program's text (the seventh form; the later family's looks); each row that meets fmt, with fmt's text TOLD by the authors' own Lean function (tested against real Go, not proved from fmt's source: count such statements apart). THE CARD IS WHAT COUNTS. Prove the row's statement (the work); the ties are given (YtjdfbpjbobmgdaaDoorTie.lean); close each card by the builder's one call (the guide's Derived/Test/ToyasCard.lean, 'card_holds'). Laid BY PROGRAM, IN A SANDBOX (cutbox-door.mjs). By AI agents, Wed Nov 11 2026. No macro, syntax, notation, axiom, sorry.
-/
import Derived.Test.YtjdfbpjbobmgdaaDoorRows
import GoSem.ClaimSeven
namespace Go.Proofs.YtjdfbpjbobmgdaaDoor
namespace Rows

/-- THE TIED CARD OF 'smithyardlaw1.BlobPatternsMatchSpec'. -/
def blobPatternsMatchSpecCard : Claim7 := { stood := { row := blobPatternsMatchSpecRow, standIns := [], harness := (true, "6c043f63340fca13be52067bfcdd40cdb3a118dea3386ff63c93f5b26129516a"), looks := false }, kinds := [], alts := [], laidByText := true, laidKinds := [.data, .pinned], laidTests := true, laidLooks := .later }
def BlobPatternsMatchSpecCardSaid : Prop := Claim7.holds Tryd.pinned (.plain (OpenSpec.ofChange blobPatternsMatchSpecSpec)) blobPatternsMatchSpecCard

/-- THE TIED CARD OF 'smithyardlaw1.BlobSelectsFit'. -/
def blobSelectsFitCard : Claim7 := { stood := { row := blobSelectsFitRow, standIns := [], harness := (true, "6c043f63340fca13be52067bfcdd40cdb3a118dea3386ff63c93f5b26129516a"), looks := false }, kinds := [], alts := [], laidByText := true, laidKinds := [.data, .pinned], laidTests := true, laidLooks := .later }
def BlobSelectsFitCardSaid : Prop := Claim7.holds Tryd.pinned (.plain (OpenSpec.ofChange blobSelectsFitSpec)) blobSelectsFitCard

/-- THE TIED CARD OF 'smithyardlaw1.BlobSelectsMatchSpec'. -/
def blobSelectsMatchSpecCard : Claim7 := { stood := { row := blobSelectsMatchSpecRow, standIns := [], harness := (true, "6c043f63340fca13be52067bfcdd40cdb3a118dea3386ff63c93f5b26129516a"), looks := false }, kinds := [], alts := [], laidByText := true, laidKinds := [.data, .pinned], laidTests := true, laidLooks := .later }
def BlobSelectsMatchSpecCardSaid : Prop := Claim7.holds Tryd.pinned (.plain (OpenSpec.ofChange blobSelectsMatchSpecSpec)) blobSelectsMatchSpecCard

/-- THE SECOND FORM's CARD OF 'smithyardlaw1.BlobPatternsMatchSpec'. -/
def blobPatternsMatchSpecUptoCard : Claim7 := { stood := { row := blobPatternsMatchSpecUptoRow, standIns := [], harness := (true, "6c043f63340fca13be52067bfcdd40cdb3a118dea3386ff63c93f5b26129516a"), looks := false }, kinds := [], alts := [], laidByText := true, laidKinds := [.data, .pinned], laidTests := true, laidLooks := .later }
def BlobPatternsMatchSpecUptoCardSaid : Prop := Claim7.holds Tryd.pinned (.plain (OpenSpec.upto blobPatternsMatchSpecSpec)) blobPatternsMatchSpecUptoCard

/-- THE SECOND FORM's CARD OF 'smithyardlaw1.BlobSelectsFit'. -/
def blobSelectsFitUptoCard : Claim7 := { stood := { row := blobSelectsFitUptoRow, standIns := [], harness := (true, "6c043f63340fca13be52067bfcdd40cdb3a118dea3386ff63c93f5b26129516a"), looks := false }, kinds := [], alts := [], laidByText := true, laidKinds := [.data, .pinned], laidTests := true, laidLooks := .later }
def BlobSelectsFitUptoCardSaid : Prop := Claim7.holds Tryd.pinned (.plain (OpenSpec.upto blobSelectsFitSpec)) blobSelectsFitUptoCard

/-- THE SECOND FORM's CARD OF 'smithyardlaw1.BlobSelectsMatchSpec'. -/
def blobSelectsMatchSpecUptoCard : Claim7 := { stood := { row := blobSelectsMatchSpecUptoRow, standIns := [], harness := (true, "6c043f63340fca13be52067bfcdd40cdb3a118dea3386ff63c93f5b26129516a"), looks := false }, kinds := [], alts := [], laidByText := true, laidKinds := [.data, .pinned], laidTests := true, laidLooks := .later }
def BlobSelectsMatchSpecUptoCardSaid : Prop := Claim7.holds Tryd.pinned (.plain (OpenSpec.upto blobSelectsMatchSpecSpec)) blobSelectsMatchSpecUptoCard
end Rows
end Go.Proofs.YtjdfbpjbobmgdaaDoor
