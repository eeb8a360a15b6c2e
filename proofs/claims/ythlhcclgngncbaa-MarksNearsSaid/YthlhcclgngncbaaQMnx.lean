-- written by wip/tools/printx.py of this session's own repo
import Derived.Test.YthlhcclgngncbaaQMnx0
import Derived.Test.YthlhcclgngncbaaQMnx1
import Derived.Test.YthlhcclgngncbaaQMnx2
import Derived.Test.YthlhcclgngncbaaQMnx3
import Derived.Test.YthlhcclgngncbaaQMnx4
import Derived.Test.YthlhcclgngncbaaQMnx5
import Derived.Test.YthlhcclgngncbaaQMnx6
import Derived.Test.YthlhcclgngncbaaQMnx7
import Derived.Test.YthlhcclgngncbaaQMnx8
import Derived.Test.YthlhcclgngncbaaQMnx9
namespace Go.Proofs.Ythlhcclgngncbaa.QMn
open Go.RowKit Go.Proofs.YthlhcclgngncbaaW.PrintWords Go.Proofs.YthlhcclgngncbaaW.PrintLast Go.Proofs.YthlhcclgngncbaaW.PrintMore
attribute [local go_sem] max2_int min2_int max_two min_two max_three min_three max_four min_four   -- for this text's walks alone
set_option linter.unusedVariables false
set_option linter.unusedSimpArgs false

end Go.Proofs.Ythlhcclgngncbaa.QMn
