-- Written by this session's program (wip/tools/pp.py) out of the translation; Lean checks it.
import Derived.Test.YtjdfbpjbobmgdaaDoorQPat0
import Derived.Test.YtjdfbpjbobmgdaaDoorQPat1
import Derived.Test.YtjdfbpjbobmgdaaDoorQPat2
import Derived.Test.YtjdfbpjbobmgdaaDoorQPat3
import Derived.Test.YtjdfbpjbobmgdaaDoorQPat4
import Derived.Test.YtjdfbpjbobmgdaaDoorQPat5
import Derived.Test.YtjdfbpjbobmgdaaDoorQPat6
import Derived.Test.YtjdfbpjbobmgdaaDoorQPat7
import Derived.Test.YtjdfbpjbobmgdaaDoorQPat8
import Derived.Test.YtjdfbpjbobmgdaaDoorQPat9
namespace Go.Proofs.YtjdfbpjbobmgdaaDoor.QPat
open Go.RowKit Go.Proofs.YtjdfbpjbobmgdaaDoorW.PrintWords Go.Proofs.YtjdfbpjbobmgdaaDoorW.PrintLast Go.Proofs.YtjdfbpjbobmgdaaDoorW.PrintMore
attribute [local go_sem] max2_int min2_int max_two min_two max_three min_three max_four min_four   -- for this text's walks alone
attribute [local go_sem] Go.Proofs.YtjdfbpjbobmgdaaDoor.StrOps.str_gtr Go.Proofs.YtjdfbpjbobmgdaaDoor.StrOps.str_leq Go.Proofs.YtjdfbpjbobmgdaaDoor.StrOps.str_geq
set_option linter.unusedVariables false
set_option linter.unusedSimpArgs false

end Go.Proofs.YtjdfbpjbobmgdaaDoor.QPat
