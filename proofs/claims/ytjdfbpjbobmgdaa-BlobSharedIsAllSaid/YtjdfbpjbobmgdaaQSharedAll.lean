-- Written by this session's program (wip/tools/pp.py) out of the translation; Lean checks it.
import Derived.Test.YtjdfbpjbobmgdaaQSharedAll0
import Derived.Test.YtjdfbpjbobmgdaaQSharedAll1
import Derived.Test.YtjdfbpjbobmgdaaQSharedAll2
namespace Go.Proofs.Ytjdfbpjbobmgdaa.QSharedAll
open Go.RowKit Go.Proofs.YtjdfbpjbobmgdaaW.PrintWords Go.Proofs.YtjdfbpjbobmgdaaW.PrintLast Go.Proofs.YtjdfbpjbobmgdaaW.PrintMore
attribute [local go_sem] max2_int min2_int max_two min_two max_three min_three max_four min_four   -- for this text's walks alone
set_option linter.unusedVariables false
set_option linter.unusedSimpArgs false

end Go.Proofs.Ytjdfbpjbobmgdaa.QSharedAll
