/- Plain laws: all ranks, in both forms; rows of numbers in the laws. -/
import Derived.Test.YtbhaeajdabgnhaaCsPu22
import Derived.Test.YtbhaeajdabgnhaaCsG2
import Derived.Test.YtbhaeajdabgnhaaCsG1
set_option linter.unusedVariables false
set_option linter.unusedSimpArgs false
