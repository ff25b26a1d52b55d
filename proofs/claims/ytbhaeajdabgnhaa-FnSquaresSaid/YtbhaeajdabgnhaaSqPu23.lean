/- Plain laws: all ranks, in both forms; rows of numbers in the laws. -/
import Derived.Test.YtbhaeajdabgnhaaSqPu22
import Derived.Test.YtbhaeajdabgnhaaSqG1
set_option linter.unusedVariables false
set_option linter.unusedSimpArgs false
