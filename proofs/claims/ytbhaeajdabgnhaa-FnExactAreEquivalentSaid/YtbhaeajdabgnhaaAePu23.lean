/- Plain laws: all ranks, in both forms; rows of numbers in the laws. -/
import Derived.Test.YtbhaeajdabgnhaaAePu22
import Derived.Test.YtbhaeajdabgnhaaAeG1
set_option linter.unusedVariables false
set_option linter.unusedSimpArgs false
