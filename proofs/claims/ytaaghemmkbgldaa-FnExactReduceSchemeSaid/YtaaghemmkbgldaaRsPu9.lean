/- Plain laws: PlusMove's two forms are the same. -/
import Derived.Test.YtaaghemmkbgldaaRsPu8
import Derived.Test.YtaaghemmkbgldaaRsG2
import Derived.Test.YtaaghemmkbgldaaRsG1
set_option linter.unusedVariables false
set_option linter.unusedSimpArgs false
