/- Plain laws: grids of numbers in the laws; ChangeScheme in both forms. -/
import Derived.Test.YtbhaeajdabgnhaaSnPu45
import Derived.Test.YtbhaeajdabgnhaaSnG2
set_option linter.unusedVariables false
set_option linter.unusedSimpArgs false
