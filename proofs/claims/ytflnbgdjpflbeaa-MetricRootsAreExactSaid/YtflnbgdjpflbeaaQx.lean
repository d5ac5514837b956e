/- Printed by a program of this claim (print2.py), over the kit's print, with contracts proved by hand among them. -/
import Derived.Test.YtflnbgdjpflbeaaQx0
import Derived.Test.YtflnbgdjpflbeaaQx1
import Derived.Test.YtflnbgdjpflbeaaQx2
import Derived.Test.YtflnbgdjpflbeaaQx3
import Derived.Test.YtflnbgdjpflbeaaQx4
import Derived.Test.YtflnbgdjpflbeaaQx5
import Derived.Test.YtflnbgdjpflbeaaQx6
import Derived.Test.YtflnbgdjpflbeaaQx7
import Derived.Test.YtflnbgdjpflbeaaQx8
namespace Go.Proofs.Ytflnbgdjpflbeaa.Q
open Go.RowKit Go.Proofs.YtflnbgdjpflbeaaW.PrintWords Go.Proofs.YtflnbgdjpflbeaaW.PrintLast Go.Proofs.YtflnbgdjpflbeaaW.PrintMore
attribute [local go_sem] max2_int min2_int max_two min_two max_three min_three max_four min_four   -- for this text's walks alone
set_option linter.unusedVariables false
set_option linter.unusedSimpArgs false

end Go.Proofs.Ytflnbgdjpflbeaa.Q
