-- Written by this session's program (wip/tools/pp.py) out of the translation; Lean checks it.
import Derived.Test.YtjdfbpjbobmgdaaQTogether0
import Derived.Test.YtjdfbpjbobmgdaaQTogether1
import Derived.Test.YtjdfbpjbobmgdaaQTogether2
import Derived.Test.YtjdfbpjbobmgdaaQTogether3
import Derived.Test.YtjdfbpjbobmgdaaQTogether4
import Derived.Test.YtjdfbpjbobmgdaaQTogether5
import Derived.Test.YtjdfbpjbobmgdaaQTogether6
import Derived.Test.YtjdfbpjbobmgdaaQTogether7
namespace Go.Proofs.Ytjdfbpjbobmgdaa.QTogether
open Go.RowKit Go.Proofs.YtjdfbpjbobmgdaaW.PrintWords Go.Proofs.YtjdfbpjbobmgdaaW.PrintLast Go.Proofs.YtjdfbpjbobmgdaaW.PrintMore
attribute [local go_sem] max2_int min2_int max_two min_two max_three min_three max_four min_four   -- for this text's walks alone
attribute [local go_sem] Go.Proofs.Ytjdfbpjbobmgdaa.StrOps.str_gtr Go.Proofs.Ytjdfbpjbobmgdaa.StrOps.str_leq Go.Proofs.Ytjdfbpjbobmgdaa.StrOps.str_geq
set_option linter.unusedVariables false
set_option linter.unusedSimpArgs false

end Go.Proofs.Ytjdfbpjbobmgdaa.QTogether
