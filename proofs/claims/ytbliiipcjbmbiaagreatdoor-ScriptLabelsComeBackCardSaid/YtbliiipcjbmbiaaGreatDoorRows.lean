/-
  NARROWER THAN 'FOR EVERY INPUT', by the rows' own cells (each row's printed sentence says how): ScriptAddGoesOn: loops, laid · ScriptValuesMatchSpec: loops, laid · ScriptPackagesMatchSpec: loops, laid · ScriptLabelsMatchSpec: laid · ScriptLabelsComeBack: laid · ScriptDiffersMatchSpec: loops, laid.
  DERIVED. THE GIVEN ROWS OF THIS SEAT. 6 by the template 'for every input the law returns true; each argument reads behind the call as it read before'; 0 by the template 'total and deterministic' (their statements: YtbliiipcjbmbiaaGreatDoorTotals.lean).
  GIVEN WITH THE SEED: the statements are not yours to turn. If you find one false, say at which input.
  Laid BY PROGRAM, IN A SANDBOX (cutbox-rows.mjs): the forced cells as the released guide's own fill.sh prints them over the translation c291835d384056fb… (all of the seat's roots in one cut). By AI agents, Wed Nov 11 2026. No macro, syntax, notation, axiom, sorry.
-/
import Derived.Test.YtbliiipcjbmbiaaGreatDoorChecked
import GoSem.PinnedTables
import GoSem.Claim
import GoSem.ClaimJoined
import GoSem.ClaimMapViews
import Derived.JoinedTies
import Derived.KernelRfl
namespace Go.Proofs.YtbliiipcjbmbiaaGreatDoor
/- THE CELL 'sum', in the pinned program and in every row, IS THE sha256 OF THE DUMP (.gsa) THAT YtbliiipcjbmbiaaGreatDoorProg.lean LOADS. Nothing in Lean hashes anything: it is a label: what it is worth is what the hold of that sum in a sandbox is worth. -/
noncomputable def Tryz.pinned : Pinned := { name := "ytbliiipcjbmbiaagreatdoor", sum := "c291835d384056fb28c41287fb15765949e8a70ef87ed39a740a6104bdaab019", checked := Tryz.checked }
namespace Rows
def none {H : Type} : Left H := { results := [], args := [] }

/- WHAT THE LISTED PACKAGE-LEVEL VARIABLES READ AS WHEN THE CALL BEGINS. Each datum BY PROGRAM (the guide's laid-datum.mjs) off the statement by which the dump's own 'gosem.cut.vars' lays the variable. In a bare row this is a premise. The card (YtbliiipcjbmbiaaGreatDoorCards.lean) ties it to the program's text. -/
def laid_unicode_utf8_acceptRanges {H : Type} : DataW H := .agg [.agg [.lit (.int .u8 128), .lit (.int .u8 191)], .agg [.lit (.int .u8 160), .lit (.int .u8 191)], .agg [.lit (.int .u8 128), .lit (.int .u8 159)], .agg [.lit (.int .u8 144), .lit (.int .u8 191)], .agg [.lit (.int .u8 128), .lit (.int .u8 143)], .agg [.lit (.int .u8 0), .lit (.int .u8 0)], .agg [.lit (.int .u8 0), .lit (.int .u8 0)], .agg [.lit (.int .u8 0), .lit (.int .u8 0)], .agg [.lit (.int .u8 0), .lit (.int .u8 0)], .agg [.lit (.int .u8 0), .lit (.int .u8 0)], .agg [.lit (.int .u8 0), .lit (.int .u8 0)], .agg [.lit (.int .u8 0), .lit (.int .u8 0)], .agg [.lit (.int .u8 0), .lit (.int .u8 0)], .agg [.lit (.int .u8 0), .lit (.int .u8 0)], .agg [.lit (.int .u8 0), .lit (.int .u8 0)], .agg [.lit (.int .u8 0), .lit (.int .u8 0)]]
/-- One of Go's own tables, pinned by name: the form's constant. -/
def laid_unicode_utf8_first : DataW Unit := Go.Pinned.utf8First

/-- 'smithyardlaw2.ScriptAddGoesOn': WHATEVER THE INPUT: true; the input reads as it did. -/
def scriptAddGoesOnSpec : ChangeSpec := { name := "scriptAddGoesOn", fn := fun _ => fun
  | [d1, d2, d3] => { results := [.lit (.bool true)], args := [d1, d2, d3] }
  | _ => none }
def scriptAddGoesOnRow : OpenClaim := { program := "ytbliiipcjbmbiaagreatdoor", sum := "c291835d384056fb28c41287fb15765949e8a70ef87ed39a740a6104bdaab019", func := "smithyard/smithyardlaw2.ScriptAddGoesOn", spec := "scriptAddGoesOn", inPlace := ["internal/bytealg.CountString", "internal/bytealg.IndexByteString", "internal/bytealg.IndexString", "internal/bytealg.abigen_runtime_cmpstring"], unfollowed := true, recurses := true, named := ["unicode/utf8.first", "unicode/utf8.acceptRanges", "internal/bytealg.MaxLen"], loops := true, apart := false, laid := [("unicode/utf8.acceptRanges", laid_unicode_utf8_acceptRanges), ("unicode/utf8.first", laid_unicode_utf8_first)] }
def ScriptAddGoesOnSaid : Prop := scriptAddGoesOnRow.holds Tryz.pinned (OpenSpec.ofChange scriptAddGoesOnSpec)

/-- ITS FALSE NEIGHBOUR: 'it returns false'. Refute it at one input. -/
def scriptAddGoesOnWrong : ChangeSpec := { name := "scriptAddGoesOn", fn := fun _ => fun
  | [d1, d2, d3] => { results := [.lit (.bool false)], args := [d1, d2, d3] }
  | _ => none }
def ScriptAddGoesOnWrongFalsely : Prop := scriptAddGoesOnRow.holds Tryz.pinned (OpenSpec.ofChange scriptAddGoesOnWrong)

/-- 'smithyardlaw2.ScriptValuesMatchSpec': WHATEVER THE INPUT: true; the input reads as it did. -/
def scriptValuesMatchSpecSpec : ChangeSpec := { name := "scriptValuesMatchSpec", fn := fun _ => fun
  | [d1, d2] => { results := [.lit (.bool true)], args := [d1, d2] }
  | _ => none }
def scriptValuesMatchSpecRow : OpenClaim := { program := "ytbliiipcjbmbiaagreatdoor", sum := "c291835d384056fb28c41287fb15765949e8a70ef87ed39a740a6104bdaab019", func := "smithyard/smithyardlaw2.ScriptValuesMatchSpec", spec := "scriptValuesMatchSpec", inPlace := ["internal/bytealg.CountString", "internal/bytealg.IndexByteString", "internal/bytealg.IndexString", "internal/bytealg.abigen_runtime_cmpstring"], unfollowed := true, recurses := true, named := ["unicode/utf8.first", "unicode/utf8.acceptRanges", "internal/bytealg.MaxLen"], loops := true, apart := false, laid := [("unicode/utf8.acceptRanges", laid_unicode_utf8_acceptRanges), ("unicode/utf8.first", laid_unicode_utf8_first)] }
def ScriptValuesMatchSpecSaid : Prop := scriptValuesMatchSpecRow.holds Tryz.pinned (OpenSpec.ofChange scriptValuesMatchSpecSpec)

/-- ITS FALSE NEIGHBOUR: 'it returns false'. Refute it at one input. -/
def scriptValuesMatchSpecWrong : ChangeSpec := { name := "scriptValuesMatchSpec", fn := fun _ => fun
  | [d1, d2] => { results := [.lit (.bool false)], args := [d1, d2] }
  | _ => none }
def ScriptValuesMatchSpecWrongFalsely : Prop := scriptValuesMatchSpecRow.holds Tryz.pinned (OpenSpec.ofChange scriptValuesMatchSpecWrong)

/-- 'smithyardlaw2.ScriptPackagesMatchSpec': WHATEVER THE INPUT: true; the input reads as it did. -/
def scriptPackagesMatchSpecSpec : ChangeSpec := { name := "scriptPackagesMatchSpec", fn := fun _ => fun
  | [d1, d2, d3] => { results := [.lit (.bool true)], args := [d1, d2, d3] }
  | _ => none }
def scriptPackagesMatchSpecRow : OpenClaim := { program := "ytbliiipcjbmbiaagreatdoor", sum := "c291835d384056fb28c41287fb15765949e8a70ef87ed39a740a6104bdaab019", func := "smithyard/smithyardlaw2.ScriptPackagesMatchSpec", spec := "scriptPackagesMatchSpec", inPlace := ["internal/bytealg.CountString", "internal/bytealg.IndexByteString", "internal/bytealg.IndexString", "internal/bytealg.abigen_runtime_cmpstring"], unfollowed := true, recurses := true, named := ["unicode/utf8.first", "unicode/utf8.acceptRanges", "internal/bytealg.MaxLen"], loops := true, apart := false, laid := [("unicode/utf8.acceptRanges", laid_unicode_utf8_acceptRanges), ("unicode/utf8.first", laid_unicode_utf8_first)] }
def ScriptPackagesMatchSpecSaid : Prop := scriptPackagesMatchSpecRow.holds Tryz.pinned (OpenSpec.ofChange scriptPackagesMatchSpecSpec)

/-- ITS FALSE NEIGHBOUR: 'it returns false'. Refute it at one input. -/
def scriptPackagesMatchSpecWrong : ChangeSpec := { name := "scriptPackagesMatchSpec", fn := fun _ => fun
  | [d1, d2, d3] => { results := [.lit (.bool false)], args := [d1, d2, d3] }
  | _ => none }
def ScriptPackagesMatchSpecWrongFalsely : Prop := scriptPackagesMatchSpecRow.holds Tryz.pinned (OpenSpec.ofChange scriptPackagesMatchSpecWrong)

/-- 'smithyardlaw2.ScriptLabelsMatchSpec': WHATEVER THE INPUT: true; the input reads as it did. -/
def scriptLabelsMatchSpecSpec : ChangeSpec := { name := "scriptLabelsMatchSpec", fn := fun _ => fun
  | [d1, d2, d3] => { results := [.lit (.bool true)], args := [d1, d2, d3] }
  | _ => none }
def scriptLabelsMatchSpecRow : OpenClaim := { program := "ytbliiipcjbmbiaagreatdoor", sum := "c291835d384056fb28c41287fb15765949e8a70ef87ed39a740a6104bdaab019", func := "smithyard/smithyardlaw2.ScriptLabelsMatchSpec", spec := "scriptLabelsMatchSpec", inPlace := ["internal/bytealg.CountString", "internal/bytealg.IndexByteString", "internal/bytealg.IndexString", "internal/bytealg.abigen_runtime_cmpstring"], unfollowed := true, recurses := true, named := ["unicode/utf8.first", "unicode/utf8.acceptRanges", "internal/bytealg.MaxLen"], apart := false, laid := [("unicode/utf8.acceptRanges", laid_unicode_utf8_acceptRanges), ("unicode/utf8.first", laid_unicode_utf8_first)] }
def ScriptLabelsMatchSpecSaid : Prop := scriptLabelsMatchSpecRow.holds Tryz.pinned (OpenSpec.ofChange scriptLabelsMatchSpecSpec)

/-- ITS FALSE NEIGHBOUR: 'it returns false'. Refute it at one input. -/
def scriptLabelsMatchSpecWrong : ChangeSpec := { name := "scriptLabelsMatchSpec", fn := fun _ => fun
  | [d1, d2, d3] => { results := [.lit (.bool false)], args := [d1, d2, d3] }
  | _ => none }
def ScriptLabelsMatchSpecWrongFalsely : Prop := scriptLabelsMatchSpecRow.holds Tryz.pinned (OpenSpec.ofChange scriptLabelsMatchSpecWrong)

/-- 'smithyardlaw2.ScriptLabelsComeBack': WHATEVER THE INPUT: true; the input reads as it did. -/
def scriptLabelsComeBackSpec : ChangeSpec := { name := "scriptLabelsComeBack", fn := fun _ => fun
  | [d1, d2] => { results := [.lit (.bool true)], args := [d1, d2] }
  | _ => none }
def scriptLabelsComeBackRow : OpenClaim := { program := "ytbliiipcjbmbiaagreatdoor", sum := "c291835d384056fb28c41287fb15765949e8a70ef87ed39a740a6104bdaab019", func := "smithyard/smithyardlaw2.ScriptLabelsComeBack", spec := "scriptLabelsComeBack", inPlace := ["internal/bytealg.CountString", "internal/bytealg.IndexByteString", "internal/bytealg.IndexString", "internal/bytealg.abigen_runtime_cmpstring"], unfollowed := true, recurses := true, named := ["unicode/utf8.first", "unicode/utf8.acceptRanges", "internal/bytealg.MaxLen"], apart := false, laid := [("unicode/utf8.acceptRanges", laid_unicode_utf8_acceptRanges), ("unicode/utf8.first", laid_unicode_utf8_first)] }
def ScriptLabelsComeBackSaid : Prop := scriptLabelsComeBackRow.holds Tryz.pinned (OpenSpec.ofChange scriptLabelsComeBackSpec)

/-- ITS FALSE NEIGHBOUR: 'it returns false'. Refute it at one input. -/
def scriptLabelsComeBackWrong : ChangeSpec := { name := "scriptLabelsComeBack", fn := fun _ => fun
  | [d1, d2] => { results := [.lit (.bool false)], args := [d1, d2] }
  | _ => none }
def ScriptLabelsComeBackWrongFalsely : Prop := scriptLabelsComeBackRow.holds Tryz.pinned (OpenSpec.ofChange scriptLabelsComeBackWrong)

/-- 'smithyardlaw2.ScriptDiffersMatchSpec': WHATEVER THE INPUT: true; the input reads as it did. -/
def scriptDiffersMatchSpecSpec : ChangeSpec := { name := "scriptDiffersMatchSpec", fn := fun _ => fun
  | [d1, d2] => { results := [.lit (.bool true)], args := [d1, d2] }
  | _ => none }
def scriptDiffersMatchSpecRow : OpenClaim := { program := "ytbliiipcjbmbiaagreatdoor", sum := "c291835d384056fb28c41287fb15765949e8a70ef87ed39a740a6104bdaab019", func := "smithyard/smithyardlaw2.ScriptDiffersMatchSpec", spec := "scriptDiffersMatchSpec", inPlace := ["internal/bytealg.CountString", "internal/bytealg.IndexByteString", "internal/bytealg.IndexString", "slices.overlaps[string]", "internal/bytealg.abigen_runtime_cmpstring"], unfollowed := true, recurses := true, named := ["unicode/utf8.first", "unicode/utf8.acceptRanges", "internal/bytealg.MaxLen"], loops := true, apart := false, laid := [("unicode/utf8.acceptRanges", laid_unicode_utf8_acceptRanges), ("unicode/utf8.first", laid_unicode_utf8_first)] }
def ScriptDiffersMatchSpecSaid : Prop := scriptDiffersMatchSpecRow.holds Tryz.pinned (OpenSpec.ofChange scriptDiffersMatchSpecSpec)

/-- ITS FALSE NEIGHBOUR: 'it returns false'. Refute it at one input. -/
def scriptDiffersMatchSpecWrong : ChangeSpec := { name := "scriptDiffersMatchSpec", fn := fun _ => fun
  | [d1, d2] => { results := [.lit (.bool false)], args := [d1, d2] }
  | _ => none }
def ScriptDiffersMatchSpecWrongFalsely : Prop := scriptDiffersMatchSpecRow.holds Tryz.pinned (OpenSpec.ofChange scriptDiffersMatchSpecWrong)

/- THE SECOND FORM. 'bulk': how many values and letters a reading holds, each counted each time it is reached (what is shared counts as often as it is met; a slice's spare places count too). A statement '..UptoSaid' is the law's where the arguments, and the package variables that the reading takes, are together of bulk at most 1048576: NARROWER than '..Said'. Prove '..Said' where nothing that the law and all that it calls make is longer than what came in: it says more and counts as full. Else prove '..UptoSaid'. A law counts once. -/
mutual
def uptoBulk {H : Type} : DataW H → Nat
  | .lit (.string bytes) => bytes.length + 1
  | .lit _ => 1
  | .nil => 1
  | .ptr d => uptoBulk d + 1
  | .slice elems spare => uptoBulkAll elems + uptoBulkAll spare + 1
  | .agg parts => uptoBulkAll parts + 1
  | .iface _ d => uptoBulk d + 1
  | .map entries => uptoBulkEntries entries + 1
  | .held _ => 1
def uptoBulkAll {H : Type} : List (DataW H) → Nat
  | [] => 0
  | d :: r => uptoBulk d + uptoBulkAll r
def uptoBulkEntries {H : Type} : List (Lit × DataW H) → Nat
  | [] => 0
  | x :: r => uptoBulkEntry x + uptoBulkEntries r
def uptoBulkEntry {H : Type} : Lit × DataW H → Nat
  | (.string bytes, d) => bytes.length + uptoBulk d + 1
  | (_, d) => uptoBulk d + 1
 end
def uptoSmall : (H : Type) → List (DataW H) → Bool := fun _ ds => decide (uptoBulkAll ds ≤ 1048576)
def OpenSpec.upto (s : _root_.Go.ChangeSpec) : _root_.Go.OpenSpec := { _root_.Go.OpenSpec.ofChange s with cond := some uptoSmall }

/-- 'smithyardlaw2.ScriptAddGoesOn', WHERE WHAT IT READS IS OF BULK AT MOST 1048576: true; the input reads as it did. -/
def scriptAddGoesOnUptoRow : OpenClaim := { program := "ytbliiipcjbmbiaagreatdoor", sum := "c291835d384056fb28c41287fb15765949e8a70ef87ed39a740a6104bdaab019", func := "smithyard/smithyardlaw2.ScriptAddGoesOn", spec := "scriptAddGoesOn", inPlace := ["internal/bytealg.CountString", "internal/bytealg.IndexByteString", "internal/bytealg.IndexString", "internal/bytealg.abigen_runtime_cmpstring"], unfollowed := true, recurses := true, named := ["unicode/utf8.first", "unicode/utf8.acceptRanges", "internal/bytealg.MaxLen"], loops := true, apart := false, laid := [("unicode/utf8.acceptRanges", laid_unicode_utf8_acceptRanges), ("unicode/utf8.first", laid_unicode_utf8_first)], narrowed := true }
def ScriptAddGoesOnUptoSaid : Prop := scriptAddGoesOnUptoRow.holds Tryz.pinned (OpenSpec.upto scriptAddGoesOnSpec)

/-- 'smithyardlaw2.ScriptValuesMatchSpec', WHERE WHAT IT READS IS OF BULK AT MOST 1048576: true; the input reads as it did. -/
def scriptValuesMatchSpecUptoRow : OpenClaim := { program := "ytbliiipcjbmbiaagreatdoor", sum := "c291835d384056fb28c41287fb15765949e8a70ef87ed39a740a6104bdaab019", func := "smithyard/smithyardlaw2.ScriptValuesMatchSpec", spec := "scriptValuesMatchSpec", inPlace := ["internal/bytealg.CountString", "internal/bytealg.IndexByteString", "internal/bytealg.IndexString", "internal/bytealg.abigen_runtime_cmpstring"], unfollowed := true, recurses := true, named := ["unicode/utf8.first", "unicode/utf8.acceptRanges", "internal/bytealg.MaxLen"], loops := true, apart := false, laid := [("unicode/utf8.acceptRanges", laid_unicode_utf8_acceptRanges), ("unicode/utf8.first", laid_unicode_utf8_first)], narrowed := true }
def ScriptValuesMatchSpecUptoSaid : Prop := scriptValuesMatchSpecUptoRow.holds Tryz.pinned (OpenSpec.upto scriptValuesMatchSpecSpec)

/-- 'smithyardlaw2.ScriptPackagesMatchSpec', WHERE WHAT IT READS IS OF BULK AT MOST 1048576: true; the input reads as it did. -/
def scriptPackagesMatchSpecUptoRow : OpenClaim := { program := "ytbliiipcjbmbiaagreatdoor", sum := "c291835d384056fb28c41287fb15765949e8a70ef87ed39a740a6104bdaab019", func := "smithyard/smithyardlaw2.ScriptPackagesMatchSpec", spec := "scriptPackagesMatchSpec", inPlace := ["internal/bytealg.CountString", "internal/bytealg.IndexByteString", "internal/bytealg.IndexString", "internal/bytealg.abigen_runtime_cmpstring"], unfollowed := true, recurses := true, named := ["unicode/utf8.first", "unicode/utf8.acceptRanges", "internal/bytealg.MaxLen"], loops := true, apart := false, laid := [("unicode/utf8.acceptRanges", laid_unicode_utf8_acceptRanges), ("unicode/utf8.first", laid_unicode_utf8_first)], narrowed := true }
def ScriptPackagesMatchSpecUptoSaid : Prop := scriptPackagesMatchSpecUptoRow.holds Tryz.pinned (OpenSpec.upto scriptPackagesMatchSpecSpec)

/-- 'smithyardlaw2.ScriptLabelsMatchSpec', WHERE WHAT IT READS IS OF BULK AT MOST 1048576: true; the input reads as it did. -/
def scriptLabelsMatchSpecUptoRow : OpenClaim := { program := "ytbliiipcjbmbiaagreatdoor", sum := "c291835d384056fb28c41287fb15765949e8a70ef87ed39a740a6104bdaab019", func := "smithyard/smithyardlaw2.ScriptLabelsMatchSpec", spec := "scriptLabelsMatchSpec", inPlace := ["internal/bytealg.CountString", "internal/bytealg.IndexByteString", "internal/bytealg.IndexString", "internal/bytealg.abigen_runtime_cmpstring"], unfollowed := true, recurses := true, named := ["unicode/utf8.first", "unicode/utf8.acceptRanges", "internal/bytealg.MaxLen"], apart := false, laid := [("unicode/utf8.acceptRanges", laid_unicode_utf8_acceptRanges), ("unicode/utf8.first", laid_unicode_utf8_first)], narrowed := true }
def ScriptLabelsMatchSpecUptoSaid : Prop := scriptLabelsMatchSpecUptoRow.holds Tryz.pinned (OpenSpec.upto scriptLabelsMatchSpecSpec)

/-- 'smithyardlaw2.ScriptLabelsComeBack', WHERE WHAT IT READS IS OF BULK AT MOST 1048576: true; the input reads as it did. -/
def scriptLabelsComeBackUptoRow : OpenClaim := { program := "ytbliiipcjbmbiaagreatdoor", sum := "c291835d384056fb28c41287fb15765949e8a70ef87ed39a740a6104bdaab019", func := "smithyard/smithyardlaw2.ScriptLabelsComeBack", spec := "scriptLabelsComeBack", inPlace := ["internal/bytealg.CountString", "internal/bytealg.IndexByteString", "internal/bytealg.IndexString", "internal/bytealg.abigen_runtime_cmpstring"], unfollowed := true, recurses := true, named := ["unicode/utf8.first", "unicode/utf8.acceptRanges", "internal/bytealg.MaxLen"], apart := false, laid := [("unicode/utf8.acceptRanges", laid_unicode_utf8_acceptRanges), ("unicode/utf8.first", laid_unicode_utf8_first)], narrowed := true }
def ScriptLabelsComeBackUptoSaid : Prop := scriptLabelsComeBackUptoRow.holds Tryz.pinned (OpenSpec.upto scriptLabelsComeBackSpec)

/-- 'smithyardlaw2.ScriptDiffersMatchSpec', WHERE WHAT IT READS IS OF BULK AT MOST 1048576: true; the input reads as it did. -/
def scriptDiffersMatchSpecUptoRow : OpenClaim := { program := "ytbliiipcjbmbiaagreatdoor", sum := "c291835d384056fb28c41287fb15765949e8a70ef87ed39a740a6104bdaab019", func := "smithyard/smithyardlaw2.ScriptDiffersMatchSpec", spec := "scriptDiffersMatchSpec", inPlace := ["internal/bytealg.CountString", "internal/bytealg.IndexByteString", "internal/bytealg.IndexString", "slices.overlaps[string]", "internal/bytealg.abigen_runtime_cmpstring"], unfollowed := true, recurses := true, named := ["unicode/utf8.first", "unicode/utf8.acceptRanges", "internal/bytealg.MaxLen"], loops := true, apart := false, laid := [("unicode/utf8.acceptRanges", laid_unicode_utf8_acceptRanges), ("unicode/utf8.first", laid_unicode_utf8_first)], narrowed := true }
def ScriptDiffersMatchSpecUptoSaid : Prop := scriptDiffersMatchSpecUptoRow.holds Tryz.pinned (OpenSpec.upto scriptDiffersMatchSpecSpec)

end Rows
end Go.Proofs.YtbliiipcjbmbiaaGreatDoor
