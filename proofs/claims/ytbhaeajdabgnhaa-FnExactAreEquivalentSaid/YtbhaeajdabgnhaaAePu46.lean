/- Plain laws: grids of numbers in the laws; ChangeScheme in both forms. -/
import Derived.Test.YtbhaeajdabgnhaaAePu45
import Derived.Test.YtbhaeajdabgnhaaAeG2
set_option linter.unusedVariables false
set_option linter.unusedSimpArgs false
