/- Plain laws: PlusMove's two forms are the same. -/
import Derived.Test.YtaaghemmkbgldaaRoPu8
import Derived.Test.YtaaghemmkbgldaaRoG2
import Derived.Test.YtaaghemmkbgldaaRoG1
set_option linter.unusedVariables false
set_option linter.unusedSimpArgs false
