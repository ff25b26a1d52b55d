/- Plain laws: a product split, in both forms. -/
import Derived.Test.YtaaghemmkbgldaaRoPu11
import Derived.Test.YtaaghemmkbgldaaRoG3
import Derived.Test.YtaaghemmkbgldaaRoG1
import Derived.Test.YtaaghemmkbgldaaRoG2
set_option linter.unusedVariables false
set_option linter.unusedSimpArgs false
